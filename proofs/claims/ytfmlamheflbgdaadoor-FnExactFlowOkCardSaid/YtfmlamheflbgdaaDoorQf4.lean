/- For each function of the Go program that is named here: its Lean function, and that Go comes to just its answer. Written by a program of the session out of the translation. -/
import Derived.Test.YtfmlamheflbgdaaDoorQf0
import Derived.Test.YtfmlamheflbgdaaDoorQf1
import Derived.Test.YtfmlamheflbgdaaDoorQf2
import Derived.Test.YtfmlamheflbgdaaDoorQf3
section
namespace Go.Proofs.YtfmlamheflbgdaaDoor.PAll
open Go.RowKit Go.Proofs.YtfmlamheflbgdaaDoorW.PrintWords Go.Proofs.YtfmlamheflbgdaaDoorW.PrintLast Go.Proofs.YtfmlamheflbgdaaDoorW.PrintMore
attribute [local go_sem] max2_int min2_int max_two min_two max_three min_three max_four min_four
set_option linter.unusedVariables false
set_option linter.unusedSimpArgs false
def impl_sorted.l0 : Nat → List ByteArray → List ByteArray → List ByteArray → Int → Int → Option (List ByteArray × List ByteArray)
  | 0, _, _, _, _, _ => none
  | k + 1, x0, x3, x8, x9, x10 => if x10 < x9 then (if 0 ≤ x10 then (if x10 < (x8.length : Int) then (if x10 = 0 then (if x3.length < 8796093022208 then (impl_sorted.l0 k x0 (x3 ++ [rdOf ByteArray.empty x8 x10]) x8 x9 (wrap64 (x10 + 1))) else (none)) else (if 0 ≤ (wrap64 (x10 - 1)) then (if (wrap64 (x10 - 1)) < (x0.length : Int) then (if (rdOf ByteArray.empty x0 (wrap64 (x10 - 1))).toList = (rdOf ByteArray.empty x8 x10).toList then (impl_sorted.l0 k x0 x3 x8 x9 (wrap64 (x10 + 1))) else (if x3.length < 8796093022208 then (impl_sorted.l0 k x0 (x3 ++ [rdOf ByteArray.empty x8 x10]) x8 x9 (wrap64 (x10 + 1))) else (none))) else (none)) else (none))) else (none)) else (none)) else (some (x3, x0))
def impl_sorted.f (k : Nat) (l0 : List ByteArray) : Option (List ByteArray × List ByteArray) := (sort_Strings.f l0).bind fun t401 => (impl_sorted.l0 k t401 ([] : List ByteArray) t401 (l0.length : Int) 0)
theorem impl_sorted.mono_l : ∀ k, (∀ y0 y1 y2 y3 y4, LeO (impl_sorted.l0 k y0 y1 y2 y3 y4) (impl_sorted.l0 (k + 1) y0 y1 y2 y3 y4))
  | 0 => fun _ _ _ _ _ r h => by simp [impl_sorted.l0] at h
  | k + 1 => by
    have ih0 := impl_sorted.mono_l k
    · intro y0 y1 y2 y3 y4
      unfold impl_sorted.l0
      repeat' first
      | (with_reducible exact ih0 _ _ _ _ _)
      | (with_reducible exact LeO.refl _)
      | (with_reducible exact LeO.none _)
      | (with_reducible refine LeO.ite ?_ ?_)
      | (with_reducible refine LeO.bind ?_ (fun _ => ?_))
      | exact LeO.none _
      | refine LeO.ite ?_ ?_
      | refine LeO.bind ?_ (fun _ => ?_)
theorem impl_sorted.mono : ∀ a0 k, LeO (impl_sorted.f k a0) (impl_sorted.f (k + 1) a0) := by
  intro a0 k
  have ih0 := impl_sorted.mono_l k
  unfold impl_sorted.f
  repeat' first
      | (with_reducible exact ih0 _ _ _ _ _)
      | (with_reducible exact LeO.refl _)
      | (with_reducible exact LeO.none _)
      | (with_reducible refine LeO.ite ?_ ?_)
      | (with_reducible refine LeO.bind ?_ (fun _ => ?_))
      | exact LeO.none _
      | refine LeO.ite ?_ ?_
      | refine LeO.bind ?_ (fun _ => ?_)
set_option maxHeartbeats 8000000 in
set_option maxRecDepth 100000 in
theorem impl_sorted.calls (k : Nat) (P0_ : Nat → Prop) (u9000_ : Value) (l0 : List ByteArray) (r1 : List ByteArray) (r2 : List ByteArray) (w0 w : World) (hB : Below w0.heap.size w0 w) (ho0 : Kd.R Kd.string 9 w w0.heap.size P0_ u9000_ l0) (h : impl_sorted.f k l0 = some (r1, r2)) :
    Calls Tryd.prog 130 #[u9000_] w fun e w' => ∃ v0_ : Value, e = .returned (v0_) ∧ Kd.R Kd.string 9 w' w0.heap.size (fun k_ => (P0_ k_ ∨ w.heap.size ≤ k_) ∧ some k_ ≠ (u9000_ : Value).ownBlock) v0_ r1 ∧ Kd.R Kd.string 9 w' w0.heap.size (fun k_ => (P0_ k_ ∨ w.heap.size ≤ k_)) u9000_ r2 ∧ Below w0.heap.size w0 w' ∧ Kept w w' (fun k_ => P0_ k_) := by
  have HO0 := Ad_.mk (show Kd.R Kd.string 9 w w0.heap.size (fun k_ => (P0_ k_ ∨ w.heap.size ≤ k_)) u9000_ l0 from Kd.R_mono ho0 (fun k_ hk => (.inl hk)))
  have HK := Ad_.mk (Kept.refl w (fun k_ => P0_ k_))
  have HW0 := Ad_.mk hB.size
  have HB := Ad_.mk hB
  clear hB
  have H := h
  unfold impl_sorted.f at H
  clear h
  replace H := Option.bind_eq_some_iff.mp H
  obtain ⟨t401, A20, H⟩ := H
  try dsimp only at H
  have A2 := Ad_.mk A20
  clear A20
  have H' := Ad_.mk H
  clear H
  obtain ⟨Ao3, co3, eo3⟩ := Kd.R_slice HO0.out
  subst eo3
  go_enter Tryd.func130, Tryd.ntmps130
  go_wp2_with (first | ((with_reducible refine gC_ (f := 146) rfl ?_); refine gM_ (some 7) rfl rfl Tryd.func146 (by kernel_rfl) rfl #[.slice Ao3 l0.length co3] rfl ?_; (with_reducible refine (sort_Strings.calls (fun k_ => some k_ = (.slice Ao3 l0.length co3 : Value).ownBlock) (.slice Ao3 l0.length co3) l0 t401 w0 _ ?side1 ?side2 A2.out).mono ?_); (case side1 => repeat (with_reducible first | exact HB.out | apply bA_ | apply bN_ | apply b1_)); (case side2 => exact Kd.R_tight rfl HO0.out); rintro e w4 ⟨rfl, hy0, hb, hkp⟩; refine ⟨_, rfl, ?_⟩; have n0_ := Ad_.mk (Kd.R_reok rfl hy0 (fun k_ e_ => HO0.out.1 k_ e_)); have n1_ := Ad_.mk (Kept.then_ (S := (fun k_ => P0_ k_)) (by repeat (first | (with_reducible first | exact HK.out | apply Kept.alloc | apply Kept.drewN | apply Kept.drew) | exact HK.out)) hkp (fun k_ hs_ => (fun e_ => (HO0.out.1 k_ e_.symm)) hs_)); have n2_ := Ad_.mk (hb); clear HO0; clear HK; clear HB; have HO0 := n0_; have HK := n1_; have HB := n2_; clear n0_ n1_ n2_; (try clear hb); (try clear hkp); (try clear hy0)))
  go_loopg [3, 10] k (fun kq v3 v10 w' => ∃ (x3_1 : List ByteArray) (x10_1 : Int), v10 = .int .i64 x10_1 ∧ Ad_ (impl_sorted.l0 kq t401 x3_1 t401 (l0.length : Int) x10_1 = some (r1, r2)) ∧ Ad_ (kq ≤ k) ∧ Ad_ (Kd.R Kd.string 9 w' w0.heap.size (fun k_ => (P0_ k_ ∨ w.heap.size ≤ k_) ∧ some k_ ≠ (v3 : Value).ownBlock) (.slice Ao3 l0.length co3) t401) ∧ Ad_ (Kd.R Kd.string 9 w' w0.heap.size (fun k_ => (P0_ k_ ∨ w.heap.size ≤ k_) ∧ some k_ ≠ ((.slice Ao3 l0.length co3) : Value).ownBlock ∧ some k_ ≠ ((.slice Ao3 l0.length co3) : Value).ownBlock) v3 x3_1) ∧ Ad_ (Kd.R Kd.string 9 w' w0.heap.size (fun k_ => (P0_ k_ ∨ w.heap.size ≤ k_) ∧ some k_ ≠ (v3 : Value).ownBlock) (.slice Ao3 l0.length co3) t401) ∧ Ad_ (Kept w w' (fun k_ => P0_ k_)) ∧ Ad_ (Below w0.heap.size w0 w'))
  case atStart => exact ⟨(([] : List ByteArray)), (0), fs_, H', ⟨Nat.le_refl _⟩, ⟨by (with_reducible repeat (first | apply Kd.R_alloc | apply Kd.R_drewN | apply Kd.R_drew)); exact Kd.R_mono HO0.out (fun _ hk => ⟨hk, (by simp [Value.ownBlock])⟩)⟩, ⟨by first | exact Kd.R_nil _ _ _ _ _ | exact Kd.N_nil _ _ _ _ _ | exact Kd.V_nil _ _ _ _ _ | exact Kd.Q_nil _ _ _ _ _ | exact Kd.S_nil _ _ _ _ _⟩, ⟨by (with_reducible repeat (first | apply Kd.R_alloc | apply Kd.R_drewN | apply Kd.R_drew)); exact Kd.R_mono HO0.out (fun _ hk => ⟨hk, (by simp [Value.ownBlock])⟩)⟩, ⟨by repeat (first | (with_reducible first | exact HK.out | apply Kept.alloc | apply Kept.drewN | apply Kept.drew) | exact HK.out)⟩, ⟨by repeat (with_reducible first | exact HB.out | apply bA_ | apply bN_ | apply b1_)⟩⟩
  case round =>
    clear H'
    try clear p2
    obtain ⟨x3_1, x10_1, rfl, HA, HK1, HO_0, HO_3, HO_8, HK, HB⟩ := hrel
    have hl0_1 := (Kd.R_reads' HO_0.out).1
    rw [hl0_1] at HO_0
    (try simp only [hl0_1])
    (try simp only [hl0_1] at HO_3)
    (try simp only [hl0_1] at HO_8)
    have hl8_1 := (Kd.R_reads' HO_8.out).1
    rw [hl8_1] at HO_8
    (try simp only [hl8_1])
    (try simp only [hl8_1] at HO_0)
    (try simp only [hl8_1] at HO_3)
    cases gk with
    | zero => exact absurd HA.out (by simp [impl_sorted.l0])
    | succ k1 =>
      have H := HA.out
      clear HA
      simp only [impl_sorted.l0] at H
      by_cases c5 : x10_1 < (l0.length : Int)
      rotate_left
      ·
       rw [if_neg c5] at H
       have c5b0 := decide_eq_false c5
       clear c5
       simp only [Option.some.injEq, Prod.mk.injEq] at H
       obtain ⟨rfl, rfl⟩ := H
       (try simp only [hl0_1] at c5b0)
       go_wp2
       go_ret
       exact ⟨_, by first | rfl | (simp [errW_none, errW_some] <;> rfl) | (simp [*, errW_none, errW_some] <;> rfl), by (with_reducible repeat (first | apply Kd.R_alloc | apply Kd.R_drewN | apply Kd.R_drew)); exact Kd.R_mono HO_3.out (fun _ hk => ⟨hk.1, hk.2.1⟩), (by first | exact (by (with_reducible repeat (first | apply Kd.R_alloc | apply Kd.R_drewN | apply Kd.R_drew)); exact Kd.R_mono HO_0.out (fun _ hk => hk.1)) | (simp only [hl0_1, hl8_1]; exact (by (with_reducible repeat (first | apply Kd.R_alloc | apply Kd.R_drewN | apply Kd.R_drew)); exact Kd.R_mono HO_0.out (fun _ hk => hk.1)))), by repeat (with_reducible first | exact HB.out | apply bA_ | apply bN_ | apply b1_), by repeat (first | (with_reducible first | exact HK.out | apply Kept.alloc | apply Kept.drewN | apply Kept.drew) | exact HK.out)⟩
      rw [if_pos c5] at H
      have c5b0 := decide_eq_true c5
      clear c5
      by_cases c6 : 0 ≤ x10_1
      rotate_left
      ·
       rw [if_neg c6] at H
       exact absurd H (by simp)
      rw [if_pos c6] at H
      have c6b0 := decide_eq_true c6
      clear c6
      by_cases c7 : x10_1 < (t401.length : Int)
      rotate_left
      ·
       rw [if_neg c7] at H
       exact absurd H (by simp)
      rw [if_pos c7] at H
      have c7b0 := decide_eq_true c7
      clear c7
      by_cases c8 : x10_1 = 0
      ·
       rw [if_pos c8] at H
       have c8b0 : (x10_1 == 0) = true := beq_iff_eq.mpr c8
       have c8b1 : (x10_1 != 0) = false := bne_eq_false_iff_eq.mpr c8
       clear c8
       by_cases c9 : x3_1.length < 8796093022208
       rotate_left
       ·
        rw [if_neg c9] at H
        exact absurd H (by simp)
       rw [if_pos c9] at H
       have LMc9 := Ad_.mk c9
       clear c9
       obtain ⟨y403, hy403⟩ : ∃ y_ : List ByteArray, y_ = (x3_1 ++ [rdOf ByteArray.empty t401 x10_1]) := ⟨_, rfl⟩
       replace H : (impl_sorted.l0 k1 t401 y403 t401 (l0.length : Int) (wrap64 (x10_1 + 1))) = some (r1, r2) := by first | (rw [hy403]; with_reducible exact H) | (have H2_ := (Option.bind_some _ _).symm.trans H; rw [hy403]; with_reducible exact H2_) | (have H2_ := (Option.bind_some _ _).symm.trans H; with_reducible exact H2_) | with_reducible exact H | (rw [hy403]; exact H) | exact H
       have Ny403 := Ad_.mk hy403
       clear hy403
       have H' := Ad_.mk H
       clear H
       have p402 : 0 ≤ (x10_1 : Int) := od_
       have q402 : x10_1 < (t401.length : Int) := od_
       obtain ⟨ad402, e402, hx402_0⟩ := Kd.at_string (Kd.R_reads' HO_8.out).2.2 x10_1 p402 q402
       cases e402
       replace p402 := eq_true p402
       replace q402 := eq_true q402
       go_wp2_with (first | ((with_reducible refine gB_ (b := .append) (xs := #[.tmp 26, .tmp 28]) rfl ?_); at_builtin; refine Kd.R_append Kd.string (w0 := w0) w0.heap.size rfl (.tmp 26) (.tmp 28) 104 9 (.string ⟨#[]⟩) 16 rfl Tryd.underlying104 info9 rfl (by decide) (by omega) u3 x3_1 (rdOf ByteArray.empty t401 x10_1) [.string (rdOf ByteArray.empty t401 x10_1)] (fun k_ => (P0_ k_ ∨ w.heap.size ≤ k_) ∧ some k_ ≠ (.slice (some ad402) t401.length co3 : Value).ownBlock ∧ some k_ ≠ (.slice (some ad402) t401.length co3 : Value).ownBlock) (fun _ => False) rfl rfl ?aP (fun _ hk => hk.elim) ?aF ?aO ?aB ?aS ?aL ?_; (case aP => exact rfl); (case aB => exact (by repeat (with_reducible first | exact HB.out | apply bA_ | apply bN_ | apply b1_))); (case aF => exact (fun k_ hk => ⟨(.inr (Nat.le_trans (by first | exact HK.out.1 | exact (show Kept w _ (fun k_ => P0_ k_) from by repeat (first | (with_reducible first | exact HK.out | apply Kept.alloc | apply Kept.drewN | apply Kept.drew) | exact HK.out)).1) hk)), Kd.fresh' (Kd.R_lt (by (with_reducible repeat (first | apply Kd.R_alloc | apply Kd.R_drewN | apply Kd.R_drew)); exact HO_0.out)) k_ hk, Kd.fresh' (Kd.R_lt (by (with_reducible repeat (first | apply Kd.R_alloc | apply Kd.R_drewN | apply Kd.R_drew)); exact HO_8.out)) k_ hk⟩)); (case aO => exact (by (with_reducible repeat (first | apply Kd.R_alloc | apply Kd.R_drewN | apply Kd.R_drew)); exact HO_3.out)); (case aS => exact (bZ_ (by repeat (with_reducible first | exact HB.out | apply bA_ | apply bN_ | apply b1_)))); (case aL => have := LMc9.out; omega); intro v404 w10 ho hb hg hat; rw [← Ny403.out] at ho; have n0_ := Ad_.mk (Kd.R_after (ok := (fun k_ => (P0_ k_ ∨ w.heap.size ≤ k_))) (by (with_reducible repeat (first | apply Kd.R_alloc | apply Kd.R_drewN | apply Kd.R_drew)); exact HO_0.out) hg hat); have n1_ := Ad_.mk (Kd.R_after (ok := (fun k_ => (P0_ k_ ∨ w.heap.size ≤ k_))) (by (with_reducible repeat (first | apply Kd.R_alloc | apply Kd.R_drewN | apply Kd.R_drew)); exact HO_8.out) hg hat); have n2_ := Ad_.mk (hb); have n3_ := Ad_.mk (Kept.of_grown (S := (fun k_ => P0_ k_)) hg (by repeat (first | (with_reducible first | exact HK.out | apply Kept.alloc | apply Kept.drewN | apply Kept.drew) | exact HK.out)) (fun k_ e_ => (HO_3.out.1 k_ e_).1)); have n4_ := Ad_.mk (ho); clear HO_0; clear HO_8; clear HB; clear HK; clear HO_3; have HO_0 := n0_; have HO_8 := n1_; have HB := n2_; have HK := n3_; have HO405 := n4_; clear n0_ n1_ n2_ n3_ n4_; clear ho hb hg hat))
       (try simp only [← hl0_1])
       go_roundg k1
       case measure => have := HK1.out; omega
       case rel => exact ⟨(y403), (wrap64 (x10_1 + 1)), fs_, H', ⟨by have := HK1.out; omega⟩, ⟨by (try simp only [hl0_1]); (try simp only [hl8_1]); (with_reducible repeat (first | apply Kd.R_alloc | apply Kd.R_drewN | apply Kd.R_drew)); exact HO_0.out⟩, ⟨by (try simp only [hl0_1]); (try simp only [hl8_1]); (with_reducible repeat (first | apply Kd.R_alloc | apply Kd.R_drewN | apply Kd.R_drew)); exact HO405.out⟩, ⟨by (try simp only [hl0_1]); (try simp only [hl8_1]); (with_reducible repeat (first | apply Kd.R_alloc | apply Kd.R_drewN | apply Kd.R_drew)); exact HO_8.out⟩, ⟨by repeat (first | (with_reducible first | exact HK.out | apply Kept.alloc | apply Kept.drewN | apply Kept.drew) | exact HK.out)⟩, ⟨by repeat (with_reducible first | exact HB.out | apply bA_ | apply bN_ | apply b1_)⟩⟩
      rw [if_neg c8] at H
      have c8b0 : (x10_1 == 0) = false := beq_eq_false_iff_ne.mpr c8
      have c8b1 : (x10_1 != 0) = true := bne_iff_ne.mpr c8
      obtain ⟨ji11, hji11⟩ : ∃ j_ : Int, (wrap64 (x10_1 - 1)) = j_ := ⟨_, rfl⟩
      replace H : (if 0 ≤ (ji11) then (if (ji11) < (t401.length : Int) then (if (rdOf ByteArray.empty t401 (ji11)).toList = (rdOf ByteArray.empty t401 x10_1).toList then (impl_sorted.l0 k1 t401 x3_1 t401 (l0.length : Int) (wrap64 (x10_1 + 1))) else (if x3_1.length < 8796093022208 then (impl_sorted.l0 k1 t401 (x3_1 ++ [rdOf ByteArray.empty t401 x10_1]) t401 (l0.length : Int) (wrap64 (x10_1 + 1))) else (none))) else (none)) else (none)) = some (r1, r2) := by first | (rw [hji11] at H; exact H) | (simp only [hji11] at H ⊢; exact H)
      have hji11w : (IntKind.i64.wrap (x10_1 - 1)) = ji11 := (i64_w _).trans hji11
      by_cases c12 : 0 ≤ (ji11)
      rotate_left
      ·
       rw [if_neg c12] at H
       exact absurd H (by simp)
      rw [if_pos c12] at H
      have c12b0 := decide_eq_true c12
      clear c12
      by_cases c13 : (ji11) < (t401.length : Int)
      rotate_left
      ·
       rw [if_neg c13] at H
       exact absurd H (by simp)
      rw [if_pos c13] at H
      have c13b0 := decide_eq_true c13
      clear c13
      by_cases c14 : (rdOf ByteArray.empty t401 (ji11)).toList = (rdOf ByteArray.empty t401 x10_1).toList
      ·
       rw [if_pos c14] at H
       have c14b0 : ((rdOf ByteArray.empty t401 (ji11)).toList == (rdOf ByteArray.empty t401 x10_1).toList) = true := beq_iff_eq.mpr c14
       have c14b1 : ((rdOf ByteArray.empty t401 (ji11)).toList != (rdOf ByteArray.empty t401 x10_1).toList) = false := bne_eq_false_iff_eq.mpr c14
       clear c14
       have H' := Ad_.mk H
       clear H
       have p402 : 0 ≤ (x10_1 : Int) := od_
       have q402 : x10_1 < (t401.length : Int) := od_
       obtain ⟨ad402, e402, hx402_0⟩ := Kd.at_string (Kd.R_reads' HO_8.out).2.2 x10_1 p402 q402
       cases e402
       replace p402 := eq_true p402
       replace q402 := eq_true q402
       have p406 : 0 ≤ ((ji11) : Int) := od_
       have q406 : (ji11) < (t401.length : Int) := od_
       obtain ⟨ad406, e406, hx406_0⟩ := Kd.at_string (Kd.R_reads' HO_0.out).2.2 (ji11) p406 q406
       obtain rfl : ad402 = ad406 := (by injection e406)
       replace p406 := eq_true p406
       replace q406 := eq_true q406
       go_wp2
       (try simp only [← hl0_1])
       go_roundg k1
       case measure => have := HK1.out; omega
       case rel => exact ⟨(x3_1), (wrap64 (x10_1 + 1)), fs_, H', ⟨by have := HK1.out; omega⟩, ⟨by (try simp only [hl0_1]); (try simp only [hl8_1]); (with_reducible repeat (first | apply Kd.R_alloc | apply Kd.R_drewN | apply Kd.R_drew)); exact HO_0.out⟩, ⟨by (try simp only [hl0_1]); (try simp only [hl8_1]); (with_reducible repeat (first | apply Kd.R_alloc | apply Kd.R_drewN | apply Kd.R_drew)); exact HO_3.out⟩, ⟨by (try simp only [hl0_1]); (try simp only [hl8_1]); (with_reducible repeat (first | apply Kd.R_alloc | apply Kd.R_drewN | apply Kd.R_drew)); exact HO_8.out⟩, ⟨by repeat (first | (with_reducible first | exact HK.out | apply Kept.alloc | apply Kept.drewN | apply Kept.drew) | exact HK.out)⟩, ⟨by repeat (with_reducible first | exact HB.out | apply bA_ | apply bN_ | apply b1_)⟩⟩
      rw [if_neg c14] at H
      have c14b0 : ((rdOf ByteArray.empty t401 (ji11)).toList == (rdOf ByteArray.empty t401 x10_1).toList) = false := beq_eq_false_iff_ne.mpr c14
      have c14b1 : ((rdOf ByteArray.empty t401 (ji11)).toList != (rdOf ByteArray.empty t401 x10_1).toList) = true := bne_iff_ne.mpr c14
      by_cases c15 : x3_1.length < 8796093022208
      rotate_left
      ·
       rw [if_neg c15] at H
       exact absurd H (by simp)
      rw [if_pos c15] at H
      have LMc15 := Ad_.mk c15
      clear c15
      obtain ⟨y407, hy407⟩ : ∃ y_ : List ByteArray, y_ = (x3_1 ++ [rdOf ByteArray.empty t401 x10_1]) := ⟨_, rfl⟩
      replace H : (impl_sorted.l0 k1 t401 y407 t401 (l0.length : Int) (wrap64 (x10_1 + 1))) = some (r1, r2) := by first | (rw [hy407]; with_reducible exact H) | (have H2_ := (Option.bind_some _ _).symm.trans H; rw [hy407]; with_reducible exact H2_) | (have H2_ := (Option.bind_some _ _).symm.trans H; with_reducible exact H2_) | with_reducible exact H | (rw [hy407]; exact H) | exact H
      have Ny407 := Ad_.mk hy407
      clear hy407
      have H' := Ad_.mk H
      clear H
      have p402 : 0 ≤ (x10_1 : Int) := od_
      have q402 : x10_1 < (t401.length : Int) := od_
      obtain ⟨ad402, e402, hx402_0⟩ := Kd.at_string (Kd.R_reads' HO_8.out).2.2 x10_1 p402 q402
      cases e402
      replace p402 := eq_true p402
      replace q402 := eq_true q402
      have p406 : 0 ≤ ((ji11) : Int) := od_
      have q406 : (ji11) < (t401.length : Int) := od_
      obtain ⟨ad406, e406, hx406_0⟩ := Kd.at_string (Kd.R_reads' HO_0.out).2.2 (ji11) p406 q406
      obtain rfl : ad402 = ad406 := (by injection e406)
      replace p406 := eq_true p406
      replace q406 := eq_true q406
      go_wp2_with (first | ((with_reducible refine gB_ (b := .append) (xs := #[.tmp 26, .tmp 28]) rfl ?_); at_builtin; refine Kd.R_append Kd.string (w0 := w0) w0.heap.size rfl (.tmp 26) (.tmp 28) 104 9 (.string ⟨#[]⟩) 16 rfl Tryd.underlying104 info9 rfl (by decide) (by omega) u3 x3_1 (rdOf ByteArray.empty t401 x10_1) [.string (rdOf ByteArray.empty t401 x10_1)] (fun k_ => (P0_ k_ ∨ w.heap.size ≤ k_) ∧ some k_ ≠ (.slice (some ad402) t401.length co3 : Value).ownBlock ∧ some k_ ≠ (.slice (some ad402) t401.length co3 : Value).ownBlock) (fun _ => False) rfl rfl ?aP (fun _ hk => hk.elim) ?aF ?aO ?aB ?aS ?aL ?_; (case aP => exact rfl); (case aB => exact (by repeat (with_reducible first | exact HB.out | apply bA_ | apply bN_ | apply b1_))); (case aF => exact (fun k_ hk => ⟨(.inr (Nat.le_trans (by first | exact HK.out.1 | exact (show Kept w _ (fun k_ => P0_ k_) from by repeat (first | (with_reducible first | exact HK.out | apply Kept.alloc | apply Kept.drewN | apply Kept.drew) | exact HK.out)).1) hk)), Kd.fresh' (Kd.R_lt (by (with_reducible repeat (first | apply Kd.R_alloc | apply Kd.R_drewN | apply Kd.R_drew)); exact HO_0.out)) k_ hk, Kd.fresh' (Kd.R_lt (by (with_reducible repeat (first | apply Kd.R_alloc | apply Kd.R_drewN | apply Kd.R_drew)); exact HO_8.out)) k_ hk⟩)); (case aO => exact (by (with_reducible repeat (first | apply Kd.R_alloc | apply Kd.R_drewN | apply Kd.R_drew)); exact HO_3.out)); (case aS => exact (bZ_ (by repeat (with_reducible first | exact HB.out | apply bA_ | apply bN_ | apply b1_)))); (case aL => have := LMc15.out; omega); intro v408 w16 ho hb hg hat; rw [← Ny407.out] at ho; have n0_ := Ad_.mk (Kd.R_after (ok := (fun k_ => (P0_ k_ ∨ w.heap.size ≤ k_))) (by (with_reducible repeat (first | apply Kd.R_alloc | apply Kd.R_drewN | apply Kd.R_drew)); exact HO_0.out) hg hat); have n1_ := Ad_.mk (Kd.R_after (ok := (fun k_ => (P0_ k_ ∨ w.heap.size ≤ k_))) (by (with_reducible repeat (first | apply Kd.R_alloc | apply Kd.R_drewN | apply Kd.R_drew)); exact HO_8.out) hg hat); have n2_ := Ad_.mk (hb); have n3_ := Ad_.mk (Kept.of_grown (S := (fun k_ => P0_ k_)) hg (by repeat (first | (with_reducible first | exact HK.out | apply Kept.alloc | apply Kept.drewN | apply Kept.drew) | exact HK.out)) (fun k_ e_ => (HO_3.out.1 k_ e_).1)); have n4_ := Ad_.mk (ho); clear HO_0; clear HO_8; clear HB; clear HK; clear HO_3; have HO_0 := n0_; have HO_8 := n1_; have HB := n2_; have HK := n3_; have HO409 := n4_; clear n0_ n1_ n2_ n3_ n4_; clear ho hb hg hat))
      (try simp only [← hl0_1])
      go_roundg k1
      case measure => have := HK1.out; omega
      case rel => exact ⟨(y407), (wrap64 (x10_1 + 1)), fs_, H', ⟨by have := HK1.out; omega⟩, ⟨by (try simp only [hl0_1]); (try simp only [hl8_1]); (with_reducible repeat (first | apply Kd.R_alloc | apply Kd.R_drewN | apply Kd.R_drew)); exact HO_0.out⟩, ⟨by (try simp only [hl0_1]); (try simp only [hl8_1]); (with_reducible repeat (first | apply Kd.R_alloc | apply Kd.R_drewN | apply Kd.R_drew)); exact HO409.out⟩, ⟨by (try simp only [hl0_1]); (try simp only [hl8_1]); (with_reducible repeat (first | apply Kd.R_alloc | apply Kd.R_drewN | apply Kd.R_drew)); exact HO_8.out⟩, ⟨by repeat (first | (with_reducible first | exact HK.out | apply Kept.alloc | apply Kept.drewN | apply Kept.drew) | exact HK.out)⟩, ⟨by repeat (with_reducible first | exact HB.out | apply bA_ | apply bN_ | apply b1_)⟩⟩
def impl_FreeNames.l0 : Nat → List (S55) → List ByteArray → List (S59) → Int → Int → Option (List ByteArray)
  | 0, _, _, _, _, _ => none
  | k + 1, x0, x3, x10, x11, x12 => if x12 < x11 then (if 0 ≤ x12 then (if x12 < (x10.length : Int) then (if x12 < (x0.length : Int) then (if ((rd_T55 x0 x12).f0) = 1 then (if ((rd_T59 x10 x12).f0) < 0 then (if x3.length < 8796093022208 then (impl_FreeNames.l0 k x0 (x3 ++ [(rd_T55 x0 x12).f5]) x10 x11 (wrap64 (x12 + 1))) else (none)) else (impl_FreeNames.l0 k x0 x3 x10 x11 (wrap64 (x12 + 1)))) else (impl_FreeNames.l0 k x0 x3 x10 x11 (wrap64 (x12 + 1)))) else (none)) else (none)) else (none)) else ((impl_sorted.f k x3).bind fun bt421 => (some bt421.1))
def impl_FreeNames.f (k : Nat) (l0 : List (S55)) : Option (List ByteArray) := (impl_NodesOk.f k l0).bind fun t410 => (if t410 = true then ((impl_binders.f k l0).bind fun t411 => (impl_FreeNames.l0 k l0 ([] : List ByteArray) t411 (t411.length : Int) 0)) else (some ([] : List ByteArray)))
theorem impl_FreeNames.mono_l : ∀ k, (∀ y0 y1 y2 y3 y4, LeO (impl_FreeNames.l0 k y0 y1 y2 y3 y4) (impl_FreeNames.l0 (k + 1) y0 y1 y2 y3 y4))
  | 0 => fun _ _ _ _ _ r h => by simp [impl_FreeNames.l0] at h
  | k + 1 => by
    have ih0 := impl_FreeNames.mono_l k
    · intro y0 y1 y2 y3 y4
      unfold impl_FreeNames.l0
      repeat' first
      | (with_reducible exact ih0 _ _ _ _ _)
      | (with_reducible exact impl_NodesOk.mono _ _)
      | (with_reducible exact impl_binders.mono _ _)
      | (with_reducible exact impl_sorted.mono _ _)
      | (with_reducible exact LeO.refl _)
      | (with_reducible exact LeO.none _)
      | (with_reducible refine LeO.ite ?_ ?_)
      | (with_reducible refine LeO.bind ?_ (fun _ => ?_))
      | exact LeO.none _
      | refine LeO.ite ?_ ?_
      | refine LeO.bind ?_ (fun _ => ?_)
theorem impl_FreeNames.mono : ∀ a0 k, LeO (impl_FreeNames.f k a0) (impl_FreeNames.f (k + 1) a0) := by
  intro a0 k
  have ih0 := impl_FreeNames.mono_l k
  unfold impl_FreeNames.f
  repeat' first
      | (with_reducible exact ih0 _ _ _ _ _)
      | (with_reducible exact impl_NodesOk.mono _ _)
      | (with_reducible exact impl_binders.mono _ _)
      | (with_reducible exact impl_sorted.mono _ _)
      | (with_reducible exact LeO.refl _)
      | (with_reducible exact LeO.none _)
      | (with_reducible refine LeO.ite ?_ ?_)
      | (with_reducible refine LeO.bind ?_ (fun _ => ?_))
      | exact LeO.none _
      | refine LeO.ite ?_ ?_
      | refine LeO.bind ?_ (fun _ => ?_)
set_option maxHeartbeats 8000000 in
set_option maxRecDepth 100000 in
theorem impl_FreeNames.calls (k : Nat) (A0 : Option Addr) (c0 : Nat) (l0 : List (S55)) (r : List ByteArray) (w : World) (hr0 : Kd.C k55 w A0 l0.length l0) (hc0 : l0.length ≤ c0) (h : impl_FreeNames.f k l0 = some r) :
    Calls Tryd.prog 113 #[.slice A0 l0.length c0] w fun e w' => ∃ v0_ : Value, e = .returned (v0_) ∧ Kd.R Kd.string 9 w' w.heap.size (fun _ => True) v0_ r ∧ Below w.heap.size w w' := by
  have hu59 := Tryd.underlying59
  have HR0 := Ad_.mk hr0
  have HC0 := Ad_.mk hc0
  clear hr0 hc0
  have HB := Ad_.mk (Below.refl w.heap.size w)
  have H := h
  unfold impl_FreeNames.f at H
  clear h
  replace H := Option.bind_eq_some_iff.mp H
  obtain ⟨t410, A20, H⟩ := H
  try dsimp only at H
  have A2 := Ad_.mk A20
  clear A20
  by_cases c3 : t410 = true
  rotate_left
  ·
   replace c3 := Bool.eq_false_iff.mpr c3
   subst c3
   have H1 : (some ([] : List ByteArray)) = some r := by rw [if_neg (show ¬ (false = true) by decide)] at H; exact H
   clear H
   have H := H1
   clear H1
   obtain rfl := Option.some.inj H
   go_enter Tryd.func113, Tryd.ntmps113
   go_wp2_with (first | ((with_reducible refine gC_ (f := 48) rfl ?_); refine gM_ (some 7) rfl rfl Tryd.func48 (by kernel_rfl) rfl #[.slice A0 l0.length c0] rfl ?_; (with_reducible refine (impl_NodesOk.calls k _ _ l0 false _ ?side1 ?side2 A2.out).mono ?_); (case side1 => repeat (first | exact HR0.out | (with_reducible refine Kd.C_alloc ?_ _) | (with_reducible refine Kd.C_drewN ?_ _) | (with_reducible refine Kd.C_drew ?_))); (case side2 => exact HC0.out); rintro e w25 ⟨rfl, hb⟩; refine ⟨_, rfl, ?_⟩; have n0_ := Ad_.mk (bP_ (by repeat (with_reducible first | exact HB.out | apply bA_ | apply bN_ | apply b1_)) hb); clear HB; have HB := n0_; clear n0_; (try clear hb); (try clear hb2); (try clear hk); (try clear hi)))
   go_ret
   exact ⟨_, by first | rfl | (simp [errW_none, errW_some] <;> rfl) | (simp [*, errW_none, errW_some] <;> rfl), by first | exact Kd.R_nil _ _ _ _ _ | exact Kd.N_nil _ _ _ _ _ | exact Kd.V_nil _ _ _ _ _ | exact Kd.Q_nil _ _ _ _ _ | exact Kd.S_nil _ _ _ _ _, by repeat (with_reducible first | exact HB.out | apply bA_ | apply bN_ | apply b1_)⟩
  subst c3
  have H1 := H
  rw [if_pos rfl] at H1
  clear H
  have H := H1
  clear H1
  replace H := Option.bind_eq_some_iff.mp H
  obtain ⟨t411, A40, H⟩ := H
  try dsimp only at H
  have A4 := Ad_.mk A40
  clear A40
  have H' := Ad_.mk H
  clear H
  go_enter Tryd.func113, Tryd.ntmps113
  go_wp2_with (first | ((with_reducible refine gC_ (f := 48) rfl ?_); refine gM_ (some 7) rfl rfl Tryd.func48 (by kernel_rfl) rfl #[.slice A0 l0.length c0] rfl ?_; (with_reducible refine (impl_NodesOk.calls k _ _ l0 true _ ?side1 ?side2 A2.out).mono ?_); (case side1 => repeat (first | exact HR0.out | (with_reducible refine Kd.C_alloc ?_ _) | (with_reducible refine Kd.C_drewN ?_ _) | (with_reducible refine Kd.C_drew ?_))); (case side2 => exact HC0.out); rintro e w5 ⟨rfl, hb⟩; refine ⟨_, rfl, ?_⟩; have n0_ := Ad_.mk (bP_ (by repeat (with_reducible first | exact HB.out | apply bA_ | apply bN_ | apply b1_)) hb); clear HB; have HB := n0_; clear n0_; (try clear hb); (try clear hb2); (try clear hk); (try clear hi)) | ((with_reducible refine gC_ (f := 87) rfl ?_); refine gM_ (some 10) rfl rfl Tryd.func87 (by kernel_rfl) rfl #[.slice A0 l0.length c0] rfl ?_; (with_reducible refine (impl_binders.calls k _ _ l0 t411 _ ?side1 ?side2 A4.out).mono ?_); (case side1 => repeat (first | exact (Kd.C_below HR0.out HB.out) | (with_reducible refine Kd.C_alloc ?_ _) | (with_reducible refine Kd.C_drewN ?_ _) | (with_reducible refine Kd.C_drew ?_))); (case side2 => exact HC0.out); rintro e w6 ⟨v412, rfl, ho0, hb⟩; refine ⟨_, rfl, ?_⟩; have n0_ := Ad_.mk (Kd.R_lower ho0 (bZ_ (by repeat (with_reducible first | exact HB.out | apply bA_ | apply bN_ | apply b1_)))); have n1_ := Ad_.mk (bP_ (by repeat (with_reducible first | exact HB.out | apply bA_ | apply bN_ | apply b1_)) hb); clear HB; have HO413 := n0_; have HB := n1_; clear n0_ n1_; (try clear hb); (try clear hb2); (try clear hk); (try clear hi); (try clear ho0); obtain ⟨Ao7, co7, eo7⟩ := Kd.R_slice HO413.out; subst eo7))
  go_loopg [3, 12] k (fun kq v3 v12 w' => ∃ (x3_1 : List ByteArray) (x12_1 : Int), v12 = .int .i64 x12_1 ∧ Ad_ (impl_FreeNames.l0 kq l0 x3_1 t411 (t411.length : Int) x12_1 = some r) ∧ Ad_ (kq ≤ k) ∧ Ad_ (Kd.R Kd.string 9 w' w.heap.size (fun _ => True) v3 x3_1) ∧ Ad_ (Kd.R k59 59 w' w.heap.size (fun _ => True) (.slice Ao7 t411.length co7) t411) ∧ Ad_ (Below w.heap.size w w'))
  case atStart => exact ⟨(([] : List ByteArray)), (0), fs_, H', ⟨Nat.le_refl _⟩, ⟨by first | exact Kd.R_nil _ _ _ _ _ | exact Kd.N_nil _ _ _ _ _ | exact Kd.V_nil _ _ _ _ _ | exact Kd.Q_nil _ _ _ _ _ | exact Kd.S_nil _ _ _ _ _⟩, ⟨by (with_reducible repeat (first | apply Kd.R_alloc | apply Kd.R_drewN | apply Kd.R_drew)); exact HO413.out⟩, ⟨by repeat (with_reducible first | exact HB.out | apply bA_ | apply bN_ | apply b1_)⟩⟩
  case round =>
    clear H'
    try clear p2
    obtain ⟨x3_1, x12_1, rfl, HA, HK1, HO_3, HO_10, HB⟩ := hrel
    cases gk with
    | zero => exact absurd HA.out (by simp [impl_FreeNames.l0])
    | succ k1 =>
      have H := HA.out
      clear HA
      simp only [impl_FreeNames.l0] at H
      by_cases c8 : x12_1 < (t411.length : Int)
      rotate_left
      ·
       rw [if_neg c8] at H
       have c8b0 := decide_eq_false c8
       clear c8
       replace H := Option.bind_eq_some_iff.mp H
       obtain ⟨⟨t421, t424⟩, A220, H⟩ := H
       replace H : (some t421) = some r := H
       have A22 := Ad_.mk A220
       clear A220
       obtain rfl := Option.some.inj H
       obtain ⟨Ao23, co23, eo23⟩ := Kd.R_slice HO_3.out
       subst eo23
       go_wp2_with (first | ((with_reducible refine gC_ (f := 130) rfl ?_); refine gM_ (some 38) rfl rfl Tryd.func130 (by kernel_rfl) rfl #[.slice Ao23 x3_1.length co23] rfl ?_; (with_reducible refine (impl_sorted.calls k1 (fun k_ => some k_ = (.slice Ao23 x3_1.length co23 : Value).ownBlock) (.slice Ao23 x3_1.length co23) x3_1 t421 t424 w _ ?side1 ?side2 A22.out).mono ?_); (case side1 => repeat (with_reducible first | exact HB.out | apply bA_ | apply bN_ | apply b1_)); (case side2 => exact Kd.R_tight rfl HO_3.out); rintro e w24 ⟨v422, rfl, ho0, hy0, hb, hkp⟩; refine ⟨_, rfl, ?_⟩; have n0_ := Ad_.mk (Kd.R_reok rfl hy0 (fun k_ e_ => HO_3.out.1 k_ e_)); have n1_ := Ad_.mk (Kd.R_mono (ok' := fun k_ => True) (Kd.R_keptB ((Kd.R_apart' HO_10.out (Kd.R_typed HO_3.out) (by decide))) hkp (fun k_ hk_ hs_ => (hk_.2) hs_)) (fun k_ hk_ => trivial)); have n2_ := Ad_.mk (Kd.R_mono (ok' := fun k_ => some k_ ≠ (.slice Ao23 x3_1.length co23 : Value).ownBlock) ho0 (fun k_ hk_ => hk_.2)); have n3_ := Ad_.mk (hb); clear HO_3; clear HO_10; clear HB; have HO_3 := n0_; have HO_10 := n1_; have HO423 := n2_; have HB := n3_; clear n0_ n1_ n2_ n3_; (try clear hb); (try clear hkp); (try clear ho0); (try clear hy0)))
       go_ret
       exact ⟨_, by first | rfl | (simp [errW_none, errW_some] <;> rfl) | (simp [*, errW_none, errW_some] <;> rfl), by (with_reducible repeat (first | apply Kd.R_alloc | apply Kd.R_drewN | apply Kd.R_drew)); exact Kd.R_mono HO423.out (fun _ hk => trivial), by repeat (with_reducible first | exact HB.out | apply bA_ | apply bN_ | apply b1_)⟩
      rw [if_pos c8] at H
      have c8b0 := decide_eq_true c8
      clear c8
      by_cases c9 : 0 ≤ x12_1
      rotate_left
      ·
       rw [if_neg c9] at H
       exact absurd H (by simp)
      rw [if_pos c9] at H
      have c9b0 := decide_eq_true c9
      clear c9
      by_cases c10 : x12_1 < (t411.length : Int)
      rotate_left
      ·
       rw [if_neg c10] at H
       exact absurd H (by simp)
      rw [if_pos c10] at H
      have c10b0 := decide_eq_true c10
      clear c10
      by_cases c11 : x12_1 < (l0.length : Int)
      rotate_left
      ·
       rw [if_neg c11] at H
       exact absurd H (by simp)
      rw [if_pos c11] at H
      have c11b0 := decide_eq_true c11
      clear c11
      by_cases c12 : ((rd_T55 l0 x12_1).f0) = 1
      rotate_left
      ·
       rw [if_neg c12] at H
       have c12b0 : (((rd_T55 l0 x12_1).f0) == 1) = false := beq_eq_false_iff_ne.mpr c12
       have c12b1 : (((rd_T55 l0 x12_1).f0) != 1) = true := bne_iff_ne.mpr c12
       have H' := Ad_.mk H
       clear H
       have p414 : 0 ≤ (x12_1 : Int) := od_
       have q414 : x12_1 < (t411.length : Int) := od_
       obtain ⟨ad414, e414, hx414_0, hx414_1⟩ := at_T59 (Kd.R_reads' HO_10.out).2.2 x12_1 p414 q414
       cases e414
       replace p414 := eq_true p414
       replace q414 := eq_true q414
       go_wp2_with (first | ((with_reducible refine gD_ (N := 5) rfl ?_); refine bE_ ?hg (N := 5) ?hd (cs := #[.int .i64 0, .int .i64 0]) (t := 59) ?hr ?_; (case hd => rfl); (case hg => rfl); (case hr => first | (go_simp; done) | (go_simp; rfl)); intro gb415 hg w20 hbox hb; have n0_ := Ad_.mk (Kd.R_below (by (with_reducible repeat (first | apply Kd.R_alloc | apply Kd.R_drewN | apply Kd.R_drew)); exact HO_3.out) hb); have n1_ := Ad_.mk (Kd.R_below (Kd.R_elderB (by (with_reducible repeat (first | apply Kd.R_alloc | apply Kd.R_drewN | apply Kd.R_drew)); exact HO_10.out) gb415 (Nat.le_of_eq hg.symm)) hb); have n2_ := Ad_.mk (bP_ (by repeat (with_reducible first | exact HB.out | apply bA_ | apply bN_ | apply b1_)) hb); have n3_ := Ad_.mk (hbox); have n4_ := Ad_.mk ((by rw [hg]; exact (bZ_ (by repeat (with_reducible first | exact HB.out | apply bA_ | apply bN_ | apply b1_))) : w.heap.size ≤ gb415)); have n5_ := Ad_.mk ((by rw [hg]; exact (bZ_ (by repeat (with_reducible first | exact HB.out | apply bA_ | apply bN_ | apply b1_))) : w.heap.size ≤ gb415)); clear HO_3; clear HO_10; clear HB; have HO_3 := n0_; have HO_10 := n1_; have HB := n2_; have BK415 := n3_; have GW415 := n4_; have GE415 := n5_; clear n0_ n1_ n2_ n3_ n4_ n5_; clear hb hbox hg; obtain ⟨hcz21_0, hcz21_1⟩ := cells2_ BK415.out; obtain ⟨hfz21_0, hfz21_1⟩ := froz2_ BK415.out; have p416 : 0 ≤ (x12_1 : Int) := od_; have q416 : x12_1 < (l0.length : Int) := od_; obtain ⟨ad416, e416, hx416_0, hx416_1, hx416_2, hx416_3, hx416_4, hx416_5, hx416_6⟩ := at_T55 HR0.out x12_1 p416 q416; cases e416; have hn416_0 : ad416.block ≠ gb415 := Nat.ne_of_lt (Nat.lt_of_lt_of_le (by have := World.block_lt_of_cell? _ _ hx416_0; first | rwa [add_block] at this | exact this) GW415.out); have hn416_1 : ad416.block ≠ gb415 := Nat.ne_of_lt (Nat.lt_of_lt_of_le (by have := World.block_lt_of_cell? _ _ hx416_0; first | rwa [add_block] at this | exact this) GW415.out); replace hx416_0 := pB_ HB.out hx416_0; replace hx416_1 := pB_ HB.out hx416_1; replace hx416_2 := pB_ HB.out hx416_2; replace hx416_3 := pB_ HB.out hx416_3; replace hx416_4 := pB_ HB.out hx416_4; replace hx416_5 := pB_ HB.out hx416_5; replace hx416_6 := pB_ HB.out hx416_6; replace hx416_0 := (cell_far (p := ⟨gb415, 0, none⟩) (by first | (rw [add_block]; exact hn416_0) | (show (Addr.add _ _).block ≠ _; rw [add_block]; exact hn416_0) | exact hn416_0) (.int .i64 ((rd_T59 t411 x12_1).f0))).trans hx416_0; replace hx416_1 := (cell_far (p := ⟨gb415, 0, none⟩) (by first | (rw [add_block]; exact hn416_0) | (show (Addr.add _ _).block ≠ _; rw [add_block]; exact hn416_0) | exact hn416_0) (.int .i64 ((rd_T59 t411 x12_1).f0))).trans hx416_1; replace hx416_2 := (cell_far (p := ⟨gb415, 0, none⟩) (by first | (rw [add_block]; exact hn416_0) | (show (Addr.add _ _).block ≠ _; rw [add_block]; exact hn416_0) | exact hn416_0) (.int .i64 ((rd_T59 t411 x12_1).f0))).trans hx416_2; replace hx416_3 := (cell_far (p := ⟨gb415, 0, none⟩) (by first | (rw [add_block]; exact hn416_0) | (show (Addr.add _ _).block ≠ _; rw [add_block]; exact hn416_0) | exact hn416_0) (.int .i64 ((rd_T59 t411 x12_1).f0))).trans hx416_3; replace hx416_4 := (cell_far (p := ⟨gb415, 0, none⟩) (by first | (rw [add_block]; exact hn416_0) | (show (Addr.add _ _).block ≠ _; rw [add_block]; exact hn416_0) | exact hn416_0) (.int .i64 ((rd_T59 t411 x12_1).f0))).trans hx416_4; replace hx416_5 := (cell_far (p := ⟨gb415, 0, none⟩) (by first | (rw [add_block]; exact hn416_0) | (show (Addr.add _ _).block ≠ _; rw [add_block]; exact hn416_0) | exact hn416_0) (.int .i64 ((rd_T59 t411 x12_1).f0))).trans hx416_5; replace hx416_6 := (cell_far (p := ⟨gb415, 0, none⟩) (by first | (rw [add_block]; exact hn416_0) | (show (Addr.add _ _).block ≠ _; rw [add_block]; exact hn416_0) | exact hn416_0) (.int .i64 ((rd_T59 t411 x12_1).f0))).trans hx416_6; replace hx416_0 := (cell_far (p := ⟨gb415, 1, none⟩) (by first | (rw [add_block]; exact hn416_1) | (show (Addr.add _ _).block ≠ _; rw [add_block]; exact hn416_1) | exact hn416_1) (.int .i64 ((rd_T59 t411 x12_1).f1))).trans hx416_0; replace hx416_1 := (cell_far (p := ⟨gb415, 1, none⟩) (by first | (rw [add_block]; exact hn416_1) | (show (Addr.add _ _).block ≠ _; rw [add_block]; exact hn416_1) | exact hn416_1) (.int .i64 ((rd_T59 t411 x12_1).f1))).trans hx416_1; replace hx416_2 := (cell_far (p := ⟨gb415, 1, none⟩) (by first | (rw [add_block]; exact hn416_1) | (show (Addr.add _ _).block ≠ _; rw [add_block]; exact hn416_1) | exact hn416_1) (.int .i64 ((rd_T59 t411 x12_1).f1))).trans hx416_2; replace hx416_3 := (cell_far (p := ⟨gb415, 1, none⟩) (by first | (rw [add_block]; exact hn416_1) | (show (Addr.add _ _).block ≠ _; rw [add_block]; exact hn416_1) | exact hn416_1) (.int .i64 ((rd_T59 t411 x12_1).f1))).trans hx416_3; replace hx416_4 := (cell_far (p := ⟨gb415, 1, none⟩) (by first | (rw [add_block]; exact hn416_1) | (show (Addr.add _ _).block ≠ _; rw [add_block]; exact hn416_1) | exact hn416_1) (.int .i64 ((rd_T59 t411 x12_1).f1))).trans hx416_4; replace hx416_5 := (cell_far (p := ⟨gb415, 1, none⟩) (by first | (rw [add_block]; exact hn416_1) | (show (Addr.add _ _).block ≠ _; rw [add_block]; exact hn416_1) | exact hn416_1) (.int .i64 ((rd_T59 t411 x12_1).f1))).trans hx416_5; replace hx416_6 := (cell_far (p := ⟨gb415, 1, none⟩) (by first | (rw [add_block]; exact hn416_1) | (show (Addr.add _ _).block ≠ _; rw [add_block]; exact hn416_1) | exact hn416_1) (.int .i64 ((rd_T59 t411 x12_1).f1))).trans hx416_6; clear hn416_0; clear hn416_1; replace p416 := eq_true p416; replace q416 := eq_true q416))
       go_roundg k1
       case measure => have := HK1.out; omega
       case rel => exact ⟨(x3_1), (wrap64 (x12_1 + 1)), fs_, H', ⟨by have := HK1.out; omega⟩, ⟨by (with_reducible repeat (first | apply Kd.R_alloc | apply Kd.R_drewN | apply Kd.R_drew)); exact Kd.R_mono (Kd.R_far (p := ⟨gb415, 1, none⟩) (Kd.R_far (p := ⟨gb415, 0, none⟩) (Kd.R_types HO_3.out BK415.out (by decide)) (fun _ hk => hk.2) (.int .i64 ((rd_T59 t411 x12_1).f0))) (fun _ hk => hk.2) (.int .i64 ((rd_T59 t411 x12_1).f1))) (fun _ hk => trivial)⟩, ⟨by (with_reducible repeat (first | apply Kd.R_alloc | apply Kd.R_drewN | apply Kd.R_drew)); exact Kd.R_mono (Kd.R_far (p := ⟨gb415, 1, none⟩) (Kd.R_far (p := ⟨gb415, 0, none⟩) (Kd.R_mono HO_10.out (fun k_ hk => (⟨hk, hk.2⟩ : _ ∧ k_ ≠ gb415))) (fun _ hk => hk.2) (.int .i64 ((rd_T59 t411 x12_1).f0))) (fun _ hk => hk.2) (.int .i64 ((rd_T59 t411 x12_1).f1))) (fun _ hk => trivial)⟩, ⟨by repeat (with_reducible first | exact HB.out | apply bA_ | apply bN_ | apply b1_ | refine bS_ ?_ GE415.out)⟩⟩
      rw [if_pos c12] at H
      have c12b0 : (((rd_T55 l0 x12_1).f0) == 1) = true := beq_iff_eq.mpr c12
      have c12b1 : (((rd_T55 l0 x12_1).f0) != 1) = false := bne_eq_false_iff_eq.mpr c12
      clear c12
      by_cases c13 : ((rd_T59 t411 x12_1).f0) < 0
      rotate_left
      ·
       rw [if_neg c13] at H
       have c13b0 := decide_eq_false c13
       clear c13
       have H' := Ad_.mk H
       clear H
       have p414 : 0 ≤ (x12_1 : Int) := od_
       have q414 : x12_1 < (t411.length : Int) := od_
       obtain ⟨ad414, e414, hx414_0, hx414_1⟩ := at_T59 (Kd.R_reads' HO_10.out).2.2 x12_1 p414 q414
       cases e414
       replace p414 := eq_true p414
       replace q414 := eq_true q414
       go_wp2_with (first | ((with_reducible refine gD_ (N := 5) rfl ?_); refine bE_ ?hg (N := 5) ?hd (cs := #[.int .i64 0, .int .i64 0]) (t := 59) ?hr ?_; (case hd => rfl); (case hg => rfl); (case hr => first | (go_simp; done) | (go_simp; rfl)); intro gb415 hg w18 hbox hb; have n0_ := Ad_.mk (Kd.R_below (by (with_reducible repeat (first | apply Kd.R_alloc | apply Kd.R_drewN | apply Kd.R_drew)); exact HO_3.out) hb); have n1_ := Ad_.mk (Kd.R_below (Kd.R_elderB (by (with_reducible repeat (first | apply Kd.R_alloc | apply Kd.R_drewN | apply Kd.R_drew)); exact HO_10.out) gb415 (Nat.le_of_eq hg.symm)) hb); have n2_ := Ad_.mk (bP_ (by repeat (with_reducible first | exact HB.out | apply bA_ | apply bN_ | apply b1_)) hb); have n3_ := Ad_.mk (hbox); have n4_ := Ad_.mk ((by rw [hg]; exact (bZ_ (by repeat (with_reducible first | exact HB.out | apply bA_ | apply bN_ | apply b1_))) : w.heap.size ≤ gb415)); have n5_ := Ad_.mk ((by rw [hg]; exact (bZ_ (by repeat (with_reducible first | exact HB.out | apply bA_ | apply bN_ | apply b1_))) : w.heap.size ≤ gb415)); clear HO_3; clear HO_10; clear HB; have HO_3 := n0_; have HO_10 := n1_; have HB := n2_; have BK415 := n3_; have GW415 := n4_; have GE415 := n5_; clear n0_ n1_ n2_ n3_ n4_ n5_; clear hb hbox hg; obtain ⟨hcz19_0, hcz19_1⟩ := cells2_ BK415.out; obtain ⟨hfz19_0, hfz19_1⟩ := froz2_ BK415.out; have p416 : 0 ≤ (x12_1 : Int) := od_; have q416 : x12_1 < (l0.length : Int) := od_; obtain ⟨ad416, e416, hx416_0, hx416_1, hx416_2, hx416_3, hx416_4, hx416_5, hx416_6⟩ := at_T55 HR0.out x12_1 p416 q416; cases e416; have hn416_0 : ad416.block ≠ gb415 := Nat.ne_of_lt (Nat.lt_of_lt_of_le (by have := World.block_lt_of_cell? _ _ hx416_0; first | rwa [add_block] at this | exact this) GW415.out); have hn416_1 : ad416.block ≠ gb415 := Nat.ne_of_lt (Nat.lt_of_lt_of_le (by have := World.block_lt_of_cell? _ _ hx416_0; first | rwa [add_block] at this | exact this) GW415.out); replace hx416_0 := pB_ HB.out hx416_0; replace hx416_1 := pB_ HB.out hx416_1; replace hx416_2 := pB_ HB.out hx416_2; replace hx416_3 := pB_ HB.out hx416_3; replace hx416_4 := pB_ HB.out hx416_4; replace hx416_5 := pB_ HB.out hx416_5; replace hx416_6 := pB_ HB.out hx416_6; replace hx416_0 := (cell_far (p := ⟨gb415, 0, none⟩) (by first | (rw [add_block]; exact hn416_0) | (show (Addr.add _ _).block ≠ _; rw [add_block]; exact hn416_0) | exact hn416_0) (.int .i64 ((rd_T59 t411 x12_1).f0))).trans hx416_0; replace hx416_1 := (cell_far (p := ⟨gb415, 0, none⟩) (by first | (rw [add_block]; exact hn416_0) | (show (Addr.add _ _).block ≠ _; rw [add_block]; exact hn416_0) | exact hn416_0) (.int .i64 ((rd_T59 t411 x12_1).f0))).trans hx416_1; replace hx416_2 := (cell_far (p := ⟨gb415, 0, none⟩) (by first | (rw [add_block]; exact hn416_0) | (show (Addr.add _ _).block ≠ _; rw [add_block]; exact hn416_0) | exact hn416_0) (.int .i64 ((rd_T59 t411 x12_1).f0))).trans hx416_2; replace hx416_3 := (cell_far (p := ⟨gb415, 0, none⟩) (by first | (rw [add_block]; exact hn416_0) | (show (Addr.add _ _).block ≠ _; rw [add_block]; exact hn416_0) | exact hn416_0) (.int .i64 ((rd_T59 t411 x12_1).f0))).trans hx416_3; replace hx416_4 := (cell_far (p := ⟨gb415, 0, none⟩) (by first | (rw [add_block]; exact hn416_0) | (show (Addr.add _ _).block ≠ _; rw [add_block]; exact hn416_0) | exact hn416_0) (.int .i64 ((rd_T59 t411 x12_1).f0))).trans hx416_4; replace hx416_5 := (cell_far (p := ⟨gb415, 0, none⟩) (by first | (rw [add_block]; exact hn416_0) | (show (Addr.add _ _).block ≠ _; rw [add_block]; exact hn416_0) | exact hn416_0) (.int .i64 ((rd_T59 t411 x12_1).f0))).trans hx416_5; replace hx416_6 := (cell_far (p := ⟨gb415, 0, none⟩) (by first | (rw [add_block]; exact hn416_0) | (show (Addr.add _ _).block ≠ _; rw [add_block]; exact hn416_0) | exact hn416_0) (.int .i64 ((rd_T59 t411 x12_1).f0))).trans hx416_6; replace hx416_0 := (cell_far (p := ⟨gb415, 1, none⟩) (by first | (rw [add_block]; exact hn416_1) | (show (Addr.add _ _).block ≠ _; rw [add_block]; exact hn416_1) | exact hn416_1) (.int .i64 ((rd_T59 t411 x12_1).f1))).trans hx416_0; replace hx416_1 := (cell_far (p := ⟨gb415, 1, none⟩) (by first | (rw [add_block]; exact hn416_1) | (show (Addr.add _ _).block ≠ _; rw [add_block]; exact hn416_1) | exact hn416_1) (.int .i64 ((rd_T59 t411 x12_1).f1))).trans hx416_1; replace hx416_2 := (cell_far (p := ⟨gb415, 1, none⟩) (by first | (rw [add_block]; exact hn416_1) | (show (Addr.add _ _).block ≠ _; rw [add_block]; exact hn416_1) | exact hn416_1) (.int .i64 ((rd_T59 t411 x12_1).f1))).trans hx416_2; replace hx416_3 := (cell_far (p := ⟨gb415, 1, none⟩) (by first | (rw [add_block]; exact hn416_1) | (show (Addr.add _ _).block ≠ _; rw [add_block]; exact hn416_1) | exact hn416_1) (.int .i64 ((rd_T59 t411 x12_1).f1))).trans hx416_3; replace hx416_4 := (cell_far (p := ⟨gb415, 1, none⟩) (by first | (rw [add_block]; exact hn416_1) | (show (Addr.add _ _).block ≠ _; rw [add_block]; exact hn416_1) | exact hn416_1) (.int .i64 ((rd_T59 t411 x12_1).f1))).trans hx416_4; replace hx416_5 := (cell_far (p := ⟨gb415, 1, none⟩) (by first | (rw [add_block]; exact hn416_1) | (show (Addr.add _ _).block ≠ _; rw [add_block]; exact hn416_1) | exact hn416_1) (.int .i64 ((rd_T59 t411 x12_1).f1))).trans hx416_5; replace hx416_6 := (cell_far (p := ⟨gb415, 1, none⟩) (by first | (rw [add_block]; exact hn416_1) | (show (Addr.add _ _).block ≠ _; rw [add_block]; exact hn416_1) | exact hn416_1) (.int .i64 ((rd_T59 t411 x12_1).f1))).trans hx416_6; clear hn416_0; clear hn416_1; replace p416 := eq_true p416; replace q416 := eq_true q416))
       go_roundg k1
       case measure => have := HK1.out; omega
       case rel => exact ⟨(x3_1), (wrap64 (x12_1 + 1)), fs_, H', ⟨by have := HK1.out; omega⟩, ⟨by (with_reducible repeat (first | apply Kd.R_alloc | apply Kd.R_drewN | apply Kd.R_drew)); exact Kd.R_mono (Kd.R_far (p := ⟨gb415, 1, none⟩) (Kd.R_far (p := ⟨gb415, 0, none⟩) (Kd.R_types HO_3.out BK415.out (by decide)) (fun _ hk => hk.2) (.int .i64 ((rd_T59 t411 x12_1).f0))) (fun _ hk => hk.2) (.int .i64 ((rd_T59 t411 x12_1).f1))) (fun _ hk => trivial)⟩, ⟨by (with_reducible repeat (first | apply Kd.R_alloc | apply Kd.R_drewN | apply Kd.R_drew)); exact Kd.R_mono (Kd.R_far (p := ⟨gb415, 1, none⟩) (Kd.R_far (p := ⟨gb415, 0, none⟩) (Kd.R_mono HO_10.out (fun k_ hk => (⟨hk, hk.2⟩ : _ ∧ k_ ≠ gb415))) (fun _ hk => hk.2) (.int .i64 ((rd_T59 t411 x12_1).f0))) (fun _ hk => hk.2) (.int .i64 ((rd_T59 t411 x12_1).f1))) (fun _ hk => trivial)⟩, ⟨by repeat (with_reducible first | exact HB.out | apply bA_ | apply bN_ | apply b1_ | refine bS_ ?_ GE415.out)⟩⟩
      rw [if_pos c13] at H
      have c13b0 := decide_eq_true c13
      clear c13
      by_cases c14 : x3_1.length < 8796093022208
      rotate_left
      ·
       rw [if_neg c14] at H
       exact absurd H (by simp)
      rw [if_pos c14] at H
      have LMc14 := Ad_.mk c14
      clear c14
      obtain ⟨y418, hy418⟩ : ∃ y_ : List ByteArray, y_ = (x3_1 ++ [(rd_T55 l0 x12_1).f5]) := ⟨_, rfl⟩
      replace H : (impl_FreeNames.l0 k1 l0 y418 t411 (t411.length : Int) (wrap64 (x12_1 + 1))) = some r := by first | (rw [hy418]; with_reducible exact H) | (have H2_ := (Option.bind_some _ _).symm.trans H; rw [hy418]; with_reducible exact H2_) | (have H2_ := (Option.bind_some _ _).symm.trans H; with_reducible exact H2_) | with_reducible exact H | (rw [hy418]; exact H) | exact H
      have Ny418 := Ad_.mk hy418
      clear hy418
      have H' := Ad_.mk H
      clear H
      have p414 : 0 ≤ (x12_1 : Int) := od_
      have q414 : x12_1 < (t411.length : Int) := od_
      obtain ⟨ad414, e414, hx414_0, hx414_1⟩ := at_T59 (Kd.R_reads' HO_10.out).2.2 x12_1 p414 q414
      cases e414
      replace p414 := eq_true p414
      replace q414 := eq_true q414
      go_wp2_with (first | ((with_reducible refine gD_ (N := 5) rfl ?_); refine bE_ ?hg (N := 5) ?hd (cs := #[.int .i64 0, .int .i64 0]) (t := 59) ?hr ?_; (case hd => rfl); (case hg => rfl); (case hr => first | (go_simp; done) | (go_simp; rfl)); intro gb415 hg w15 hbox hb; have n0_ := Ad_.mk (Kd.R_below (by (with_reducible repeat (first | apply Kd.R_alloc | apply Kd.R_drewN | apply Kd.R_drew)); exact HO_3.out) hb); have n1_ := Ad_.mk (Kd.R_below (Kd.R_elderB (by (with_reducible repeat (first | apply Kd.R_alloc | apply Kd.R_drewN | apply Kd.R_drew)); exact HO_10.out) gb415 (Nat.le_of_eq hg.symm)) hb); have n2_ := Ad_.mk (bP_ (by repeat (with_reducible first | exact HB.out | apply bA_ | apply bN_ | apply b1_)) hb); have n3_ := Ad_.mk (hbox); have n4_ := Ad_.mk ((by rw [hg]; exact (bZ_ (by repeat (with_reducible first | exact HB.out | apply bA_ | apply bN_ | apply b1_))) : w.heap.size ≤ gb415)); have n5_ := Ad_.mk ((by rw [hg]; exact (bZ_ (by repeat (with_reducible first | exact HB.out | apply bA_ | apply bN_ | apply b1_))) : w.heap.size ≤ gb415)); clear HO_3; clear HO_10; clear HB; have HO_3 := n0_; have HO_10 := n1_; have HB := n2_; have BK415 := n3_; have GW415 := n4_; have GE415 := n5_; clear n0_ n1_ n2_ n3_ n4_ n5_; clear hb hbox hg; obtain ⟨hcz16_0, hcz16_1⟩ := cells2_ BK415.out; obtain ⟨hfz16_0, hfz16_1⟩ := froz2_ BK415.out; have p416 : 0 ≤ (x12_1 : Int) := od_; have q416 : x12_1 < (l0.length : Int) := od_; obtain ⟨ad416, e416, hx416_0, hx416_1, hx416_2, hx416_3, hx416_4, hx416_5, hx416_6⟩ := at_T55 HR0.out x12_1 p416 q416; cases e416; have hn416_0 : ad416.block ≠ gb415 := Nat.ne_of_lt (Nat.lt_of_lt_of_le (by have := World.block_lt_of_cell? _ _ hx416_0; first | rwa [add_block] at this | exact this) GW415.out); have hn416_1 : ad416.block ≠ gb415 := Nat.ne_of_lt (Nat.lt_of_lt_of_le (by have := World.block_lt_of_cell? _ _ hx416_0; first | rwa [add_block] at this | exact this) GW415.out); replace hx416_0 := pB_ HB.out hx416_0; replace hx416_1 := pB_ HB.out hx416_1; replace hx416_2 := pB_ HB.out hx416_2; replace hx416_3 := pB_ HB.out hx416_3; replace hx416_4 := pB_ HB.out hx416_4; replace hx416_5 := pB_ HB.out hx416_5; replace hx416_6 := pB_ HB.out hx416_6; replace hx416_0 := (cell_far (p := ⟨gb415, 0, none⟩) (by first | (rw [add_block]; exact hn416_0) | (show (Addr.add _ _).block ≠ _; rw [add_block]; exact hn416_0) | exact hn416_0) (.int .i64 ((rd_T59 t411 x12_1).f0))).trans hx416_0; replace hx416_1 := (cell_far (p := ⟨gb415, 0, none⟩) (by first | (rw [add_block]; exact hn416_0) | (show (Addr.add _ _).block ≠ _; rw [add_block]; exact hn416_0) | exact hn416_0) (.int .i64 ((rd_T59 t411 x12_1).f0))).trans hx416_1; replace hx416_2 := (cell_far (p := ⟨gb415, 0, none⟩) (by first | (rw [add_block]; exact hn416_0) | (show (Addr.add _ _).block ≠ _; rw [add_block]; exact hn416_0) | exact hn416_0) (.int .i64 ((rd_T59 t411 x12_1).f0))).trans hx416_2; replace hx416_3 := (cell_far (p := ⟨gb415, 0, none⟩) (by first | (rw [add_block]; exact hn416_0) | (show (Addr.add _ _).block ≠ _; rw [add_block]; exact hn416_0) | exact hn416_0) (.int .i64 ((rd_T59 t411 x12_1).f0))).trans hx416_3; replace hx416_4 := (cell_far (p := ⟨gb415, 0, none⟩) (by first | (rw [add_block]; exact hn416_0) | (show (Addr.add _ _).block ≠ _; rw [add_block]; exact hn416_0) | exact hn416_0) (.int .i64 ((rd_T59 t411 x12_1).f0))).trans hx416_4; replace hx416_5 := (cell_far (p := ⟨gb415, 0, none⟩) (by first | (rw [add_block]; exact hn416_0) | (show (Addr.add _ _).block ≠ _; rw [add_block]; exact hn416_0) | exact hn416_0) (.int .i64 ((rd_T59 t411 x12_1).f0))).trans hx416_5; replace hx416_6 := (cell_far (p := ⟨gb415, 0, none⟩) (by first | (rw [add_block]; exact hn416_0) | (show (Addr.add _ _).block ≠ _; rw [add_block]; exact hn416_0) | exact hn416_0) (.int .i64 ((rd_T59 t411 x12_1).f0))).trans hx416_6; replace hx416_0 := (cell_far (p := ⟨gb415, 1, none⟩) (by first | (rw [add_block]; exact hn416_1) | (show (Addr.add _ _).block ≠ _; rw [add_block]; exact hn416_1) | exact hn416_1) (.int .i64 ((rd_T59 t411 x12_1).f1))).trans hx416_0; replace hx416_1 := (cell_far (p := ⟨gb415, 1, none⟩) (by first | (rw [add_block]; exact hn416_1) | (show (Addr.add _ _).block ≠ _; rw [add_block]; exact hn416_1) | exact hn416_1) (.int .i64 ((rd_T59 t411 x12_1).f1))).trans hx416_1; replace hx416_2 := (cell_far (p := ⟨gb415, 1, none⟩) (by first | (rw [add_block]; exact hn416_1) | (show (Addr.add _ _).block ≠ _; rw [add_block]; exact hn416_1) | exact hn416_1) (.int .i64 ((rd_T59 t411 x12_1).f1))).trans hx416_2; replace hx416_3 := (cell_far (p := ⟨gb415, 1, none⟩) (by first | (rw [add_block]; exact hn416_1) | (show (Addr.add _ _).block ≠ _; rw [add_block]; exact hn416_1) | exact hn416_1) (.int .i64 ((rd_T59 t411 x12_1).f1))).trans hx416_3; replace hx416_4 := (cell_far (p := ⟨gb415, 1, none⟩) (by first | (rw [add_block]; exact hn416_1) | (show (Addr.add _ _).block ≠ _; rw [add_block]; exact hn416_1) | exact hn416_1) (.int .i64 ((rd_T59 t411 x12_1).f1))).trans hx416_4; replace hx416_5 := (cell_far (p := ⟨gb415, 1, none⟩) (by first | (rw [add_block]; exact hn416_1) | (show (Addr.add _ _).block ≠ _; rw [add_block]; exact hn416_1) | exact hn416_1) (.int .i64 ((rd_T59 t411 x12_1).f1))).trans hx416_5; replace hx416_6 := (cell_far (p := ⟨gb415, 1, none⟩) (by first | (rw [add_block]; exact hn416_1) | (show (Addr.add _ _).block ≠ _; rw [add_block]; exact hn416_1) | exact hn416_1) (.int .i64 ((rd_T59 t411 x12_1).f1))).trans hx416_6; clear hn416_0; clear hn416_1; replace p416 := eq_true p416; replace q416 := eq_true q416; have p417 : 0 ≤ (x12_1 : Int) := od_; have q417 : x12_1 < (l0.length : Int) := od_; obtain ⟨ad417, e417, hx417_0, hx417_1, hx417_2, hx417_3, hx417_4, hx417_5, hx417_6⟩ := at_T55 HR0.out x12_1 p417 q417; obtain rfl : ad416 = ad417 := (by injection e417); have hn417_0 : ad416.block ≠ gb415 := Nat.ne_of_lt (Nat.lt_of_lt_of_le (by have := World.block_lt_of_cell? _ _ hx417_0; first | rwa [add_block] at this | exact this) GW415.out); have hn417_1 : ad416.block ≠ gb415 := Nat.ne_of_lt (Nat.lt_of_lt_of_le (by have := World.block_lt_of_cell? _ _ hx417_0; first | rwa [add_block] at this | exact this) GW415.out); replace hx417_0 := pB_ HB.out hx417_0; replace hx417_1 := pB_ HB.out hx417_1; replace hx417_2 := pB_ HB.out hx417_2; replace hx417_3 := pB_ HB.out hx417_3; replace hx417_4 := pB_ HB.out hx417_4; replace hx417_5 := pB_ HB.out hx417_5; replace hx417_6 := pB_ HB.out hx417_6; replace hx417_0 := (cell_far (p := ⟨gb415, 0, none⟩) (by first | (rw [add_block]; exact hn417_0) | (show (Addr.add _ _).block ≠ _; rw [add_block]; exact hn417_0) | exact hn417_0) (.int .i64 ((rd_T59 t411 x12_1).f0))).trans hx417_0; replace hx417_1 := (cell_far (p := ⟨gb415, 0, none⟩) (by first | (rw [add_block]; exact hn417_0) | (show (Addr.add _ _).block ≠ _; rw [add_block]; exact hn417_0) | exact hn417_0) (.int .i64 ((rd_T59 t411 x12_1).f0))).trans hx417_1; replace hx417_2 := (cell_far (p := ⟨gb415, 0, none⟩) (by first | (rw [add_block]; exact hn417_0) | (show (Addr.add _ _).block ≠ _; rw [add_block]; exact hn417_0) | exact hn417_0) (.int .i64 ((rd_T59 t411 x12_1).f0))).trans hx417_2; replace hx417_3 := (cell_far (p := ⟨gb415, 0, none⟩) (by first | (rw [add_block]; exact hn417_0) | (show (Addr.add _ _).block ≠ _; rw [add_block]; exact hn417_0) | exact hn417_0) (.int .i64 ((rd_T59 t411 x12_1).f0))).trans hx417_3; replace hx417_4 := (cell_far (p := ⟨gb415, 0, none⟩) (by first | (rw [add_block]; exact hn417_0) | (show (Addr.add _ _).block ≠ _; rw [add_block]; exact hn417_0) | exact hn417_0) (.int .i64 ((rd_T59 t411 x12_1).f0))).trans hx417_4; replace hx417_5 := (cell_far (p := ⟨gb415, 0, none⟩) (by first | (rw [add_block]; exact hn417_0) | (show (Addr.add _ _).block ≠ _; rw [add_block]; exact hn417_0) | exact hn417_0) (.int .i64 ((rd_T59 t411 x12_1).f0))).trans hx417_5; replace hx417_6 := (cell_far (p := ⟨gb415, 0, none⟩) (by first | (rw [add_block]; exact hn417_0) | (show (Addr.add _ _).block ≠ _; rw [add_block]; exact hn417_0) | exact hn417_0) (.int .i64 ((rd_T59 t411 x12_1).f0))).trans hx417_6; replace hx417_0 := (cell_far (p := ⟨gb415, 1, none⟩) (by first | (rw [add_block]; exact hn417_1) | (show (Addr.add _ _).block ≠ _; rw [add_block]; exact hn417_1) | exact hn417_1) (.int .i64 ((rd_T59 t411 x12_1).f1))).trans hx417_0; replace hx417_1 := (cell_far (p := ⟨gb415, 1, none⟩) (by first | (rw [add_block]; exact hn417_1) | (show (Addr.add _ _).block ≠ _; rw [add_block]; exact hn417_1) | exact hn417_1) (.int .i64 ((rd_T59 t411 x12_1).f1))).trans hx417_1; replace hx417_2 := (cell_far (p := ⟨gb415, 1, none⟩) (by first | (rw [add_block]; exact hn417_1) | (show (Addr.add _ _).block ≠ _; rw [add_block]; exact hn417_1) | exact hn417_1) (.int .i64 ((rd_T59 t411 x12_1).f1))).trans hx417_2; replace hx417_3 := (cell_far (p := ⟨gb415, 1, none⟩) (by first | (rw [add_block]; exact hn417_1) | (show (Addr.add _ _).block ≠ _; rw [add_block]; exact hn417_1) | exact hn417_1) (.int .i64 ((rd_T59 t411 x12_1).f1))).trans hx417_3; replace hx417_4 := (cell_far (p := ⟨gb415, 1, none⟩) (by first | (rw [add_block]; exact hn417_1) | (show (Addr.add _ _).block ≠ _; rw [add_block]; exact hn417_1) | exact hn417_1) (.int .i64 ((rd_T59 t411 x12_1).f1))).trans hx417_4; replace hx417_5 := (cell_far (p := ⟨gb415, 1, none⟩) (by first | (rw [add_block]; exact hn417_1) | (show (Addr.add _ _).block ≠ _; rw [add_block]; exact hn417_1) | exact hn417_1) (.int .i64 ((rd_T59 t411 x12_1).f1))).trans hx417_5; replace hx417_6 := (cell_far (p := ⟨gb415, 1, none⟩) (by first | (rw [add_block]; exact hn417_1) | (show (Addr.add _ _).block ≠ _; rw [add_block]; exact hn417_1) | exact hn417_1) (.int .i64 ((rd_T59 t411 x12_1).f1))).trans hx417_6; clear hn417_0; clear hn417_1; replace p417 := eq_true p417; replace q417 := eq_true q417) | ((with_reducible refine gB_ (b := .append) (xs := #[.tmp 28, .tmp 34]) rfl ?_); at_builtin; refine Kd.R_append Kd.string (w0 := w) w.heap.size rfl (.tmp 28) (.tmp 34) 104 9 (.string ⟨#[]⟩) 16 rfl Tryd.underlying104 info9 rfl (by decide) (by omega) u3 x3_1 ((rd_T55 l0 x12_1).f5) [.string ((rd_T55 l0 x12_1).f5)] (fun _ => True) (fun _ => False) rfl (by first | (go_simp; done) | (go_simp; rfl)) ?aP (fun _ hk => hk.elim) ?aF ?aO ?aB ?aS ?aL ?_; (case aP => exact rfl); (case aB => exact (by repeat (with_reducible first | exact HB.out | apply bA_ | apply bN_ | apply b1_ | refine bS_ ?_ GE415.out))); (case aF => exact (fun _ _ => trivial)); (case aO => exact (by (with_reducible repeat (first | apply Kd.R_alloc | apply Kd.R_drewN | apply Kd.R_drew)); exact Kd.R_mono (Kd.R_far (p := ⟨gb415, 1, none⟩) (Kd.R_far (p := ⟨gb415, 0, none⟩) (Kd.R_types HO_3.out BK415.out (by decide)) (fun _ hk => hk.2) (.int .i64 ((rd_T59 t411 x12_1).f0))) (fun _ hk => hk.2) (.int .i64 ((rd_T59 t411 x12_1).f1))) (fun _ hk => trivial))); (case aS => exact (bZ_ (by repeat (with_reducible first | exact HB.out | apply bA_ | apply bN_ | apply b1_ | refine bS_ ?_ GE415.out)))); (case aL => have := LMc14.out; omega); intro v419 w17 ho hb hg hat; rw [← Ny418.out] at ho; have n0_ := Ad_.mk (Kd.R_over' (by (with_reducible repeat (first | apply Kd.R_alloc | apply Kd.R_drewN | apply Kd.R_drew)); exact (Kd.R_mono (Kd.R_far (p := ⟨gb415, 1, none⟩) (Kd.R_far (p := ⟨gb415, 0, none⟩) (Kd.R_mono HO_10.out (fun k_ hk => (⟨hk, hk.2⟩ : _ ∧ k_ ≠ gb415))) (fun _ hk => hk.2) (.int .i64 ((rd_T59 t411 x12_1).f0))) (fun _ hk => hk.2) (.int .i64 ((rd_T59 t411 x12_1).f1))) (fun _ h_ => h_.1))) (Kd.R_typed (by (with_reducible repeat (first | apply Kd.R_alloc | apply Kd.R_drewN | apply Kd.R_drew)); exact (Kd.R_mono (Kd.R_far (p := ⟨gb415, 1, none⟩) (Kd.R_far (p := ⟨gb415, 0, none⟩) (Kd.R_types HO_3.out BK415.out (by decide)) (fun _ hk => hk.2) (.int .i64 ((rd_T59 t411 x12_1).f0))) (fun _ hk => hk.2) (.int .i64 ((rd_T59 t411 x12_1).f1))) (fun _ h_ => h_.1)))) (by decide) hg); have n1_ := Ad_.mk (blk_grown (g := gb415) (o := .cells #[.int .i64 ((rd_T59 t411 x12_1).f0), .int .i64 ((rd_T59 t411 x12_1).f1)] 59 (0, 0)) (by (with_reducible repeat (first | refine kN_ ?_ _ | refine k1_ ?_ | refine kA_ ?_ _)); refine blk_put (cs := #[.int .i64 ((rd_T59 t411 x12_1).f0), .int .i64 0]) ?_ 1 _ rfl; (with_reducible repeat (first | refine kN_ ?_ _ | refine k1_ ?_ | refine kA_ ?_ _)); refine blk_put (cs := #[.int .i64 0, .int .i64 0]) ?_ 0 _ rfl; (with_reducible repeat (first | refine kN_ ?_ _ | refine k1_ ?_ | refine kA_ ?_ _)); exact BK415.out) hg (Kd.R_ne HO_3.out BK415.out (by decide))); have n2_ := Ad_.mk (hb); have n3_ := Ad_.mk (ho); clear HO_10; clear BK415; clear HB; clear HO_3; have HO_10 := n0_; have BK415 := n1_; have HB := n2_; have HO420 := n3_; clear n0_ n1_ n2_ n3_; clear ho hb hg hat))
      go_roundg k1
      case measure => have := HK1.out; omega
      case rel => exact ⟨(y418), (wrap64 (x12_1 + 1)), fs_, H', ⟨by have := HK1.out; omega⟩, ⟨by (with_reducible repeat (first | apply Kd.R_alloc | apply Kd.R_drewN | apply Kd.R_drew)); exact HO420.out⟩, ⟨by (with_reducible repeat (first | apply Kd.R_alloc | apply Kd.R_drewN | apply Kd.R_drew)); exact Kd.R_mono HO_10.out (fun _ hk => trivial)⟩, ⟨by repeat (with_reducible first | exact HB.out | apply bA_ | apply bN_ | apply b1_ | refine bS_ ?_ GE415.out)⟩⟩
def impl_Closed.f (k : Nat) (l0 : List (S55)) : Option (Bool) := (impl_NodesOk.f k l0).bind fun t425 => (if t425 = true then ((impl_FreeNames.f k l0).bind fun t426 => (some ((t426.length : Int) == 0))) else (some false))
theorem impl_Closed.mono : ∀ a0 k, LeO (impl_Closed.f k a0) (impl_Closed.f (k + 1) a0) := by
  intro a0 k
  unfold impl_Closed.f
  repeat' first
      | (with_reducible exact impl_FreeNames.mono _ _)
      | (with_reducible exact impl_NodesOk.mono _ _)
      | (with_reducible exact LeO.refl _)
      | (with_reducible exact LeO.none _)
      | (with_reducible refine LeO.ite ?_ ?_)
      | (with_reducible refine LeO.bind ?_ (fun _ => ?_))
      | exact LeO.none _
      | refine LeO.ite ?_ ?_
      | refine LeO.bind ?_ (fun _ => ?_)
set_option maxHeartbeats 8000000 in
set_option maxRecDepth 100000 in
theorem impl_Closed.calls (k : Nat) (A0 : Option Addr) (c0 : Nat) (l0 : List (S55)) (r : Bool) (w : World) (hr0 : Kd.C k55 w A0 l0.length l0) (hc0 : l0.length ≤ c0) (h : impl_Closed.f k l0 = some r) :
    Calls Tryd.prog 90 #[.slice A0 l0.length c0] w fun e w' => e = .returned (.bool r) ∧ Below w.heap.size w w' := by
  have HR0 := Ad_.mk hr0
  have HC0 := Ad_.mk hc0
  clear hr0 hc0
  have HB := Ad_.mk (Below.refl w.heap.size w)
  have H := h
  unfold impl_Closed.f at H
  clear h
  replace H := Option.bind_eq_some_iff.mp H
  obtain ⟨t425, A20, H⟩ := H
  try dsimp only at H
  have A2 := Ad_.mk A20
  clear A20
  by_cases c3 : t425 = true
  rotate_left
  ·
   replace c3 := Bool.eq_false_iff.mpr c3
   subst c3
   have H1 : (some false) = some r := by rw [if_neg (show ¬ (false = true) by decide)] at H; exact H
   clear H
   have H := H1
   clear H1
   obtain rfl := Option.some.inj H
   go_enter Tryd.func90, Tryd.ntmps90
   go_wp2_with (first | ((with_reducible refine gC_ (f := 48) rfl ?_); refine gM_ (some 4) rfl rfl Tryd.func48 (by kernel_rfl) rfl #[.slice A0 l0.length c0] rfl ?_; (with_reducible refine (impl_NodesOk.calls k _ _ l0 false _ ?side1 ?side2 A2.out).mono ?_); (case side1 => repeat (first | exact HR0.out | (with_reducible refine Kd.C_alloc ?_ _) | (with_reducible refine Kd.C_drewN ?_ _) | (with_reducible refine Kd.C_drew ?_))); (case side2 => exact HC0.out); rintro e w8 ⟨rfl, hb⟩; refine ⟨_, rfl, ?_⟩; have n0_ := Ad_.mk (bP_ (by repeat (with_reducible first | exact HB.out | apply bA_ | apply bN_ | apply b1_)) hb); clear HB; have HB := n0_; clear n0_; (try clear hb); (try clear hb2); (try clear hk); (try clear hi)))
   go_ret
   exact ⟨by first | rfl | (simp [errW_none, errW_some] <;> rfl) | (simp [*, errW_none, errW_some] <;> rfl), by repeat (with_reducible first | exact HB.out | apply bA_ | apply bN_ | apply b1_)⟩
  subst c3
  have H1 := H
  rw [if_pos rfl] at H1
  clear H
  have H := H1
  clear H1
  replace H := Option.bind_eq_some_iff.mp H
  obtain ⟨t426, A40, H⟩ := H
  replace H : (some ((t426.length : Int) == 0)) = some r := H
  have A4 := Ad_.mk A40
  clear A40
  obtain rfl := Option.some.inj H
  go_enter Tryd.func90, Tryd.ntmps90
  go_wp2_with (first | ((with_reducible refine gC_ (f := 48) rfl ?_); refine gM_ (some 4) rfl rfl Tryd.func48 (by kernel_rfl) rfl #[.slice A0 l0.length c0] rfl ?_; (with_reducible refine (impl_NodesOk.calls k _ _ l0 true _ ?side1 ?side2 A2.out).mono ?_); (case side1 => repeat (first | exact HR0.out | (with_reducible refine Kd.C_alloc ?_ _) | (with_reducible refine Kd.C_drewN ?_ _) | (with_reducible refine Kd.C_drew ?_))); (case side2 => exact HC0.out); rintro e w5 ⟨rfl, hb⟩; refine ⟨_, rfl, ?_⟩; have n0_ := Ad_.mk (bP_ (by repeat (with_reducible first | exact HB.out | apply bA_ | apply bN_ | apply b1_)) hb); clear HB; have HB := n0_; clear n0_; (try clear hb); (try clear hb2); (try clear hk); (try clear hi)) | (go_at_call 113; (with_reducible refine (impl_FreeNames.calls k _ _ l0 t426 _ ?side1 ?side2 A4.out).mono ?_); (case side1 => repeat (first | exact (Kd.C_below HR0.out HB.out) | (with_reducible refine Kd.C_alloc ?_ _) | (with_reducible refine Kd.C_drewN ?_ _) | (with_reducible refine Kd.C_drew ?_))); (case side2 => exact HC0.out); rintro e w6 ⟨v427, rfl, ho0, hb⟩; have n0_ := Ad_.mk (Kd.R_lower ho0 (bZ_ (by repeat (with_reducible first | exact HB.out | apply bA_ | apply bN_ | apply b1_)))); have n1_ := Ad_.mk (bP_ (by repeat (with_reducible first | exact HB.out | apply bA_ | apply bN_ | apply b1_)) hb); clear HB; have HO428 := n0_; have HB := n1_; clear n0_ n1_; (try clear hb); (try clear hb2); (try clear hk); (try clear hi); (try clear ho0); obtain ⟨Ao7, co7, eo7⟩ := Kd.R_slice HO428.out; subst eo7))
  go_ret
  exact ⟨by first | rfl | (simp [errW_none, errW_some] <;> rfl) | (simp [*, errW_none, errW_some] <;> rfl), by repeat (with_reducible first | exact HB.out | apply bA_ | apply bN_ | apply b1_)⟩
def impl_FlowOk.f (k : Nat) (l0 : List (S55)) (a1 : Int) : Option (Bool) := (impl_Closed.f k l0).bind fun t429 => (if t429 = true then ((impl_in.f a1 0 2).bind fun t430 => (some t430)) else (some false))
theorem impl_FlowOk.mono : ∀ a0 a1 k, LeO (impl_FlowOk.f k a0 a1) (impl_FlowOk.f (k + 1) a0 a1) := by
  intro a0 a1 k
  unfold impl_FlowOk.f
  repeat' first
      | (with_reducible exact impl_Closed.mono _ _)
      | (with_reducible exact LeO.refl _)
      | (with_reducible exact LeO.none _)
      | (with_reducible refine LeO.ite ?_ ?_)
      | (with_reducible refine LeO.bind ?_ (fun _ => ?_))
      | exact LeO.none _
      | refine LeO.ite ?_ ?_
      | refine LeO.bind ?_ (fun _ => ?_)
set_option maxHeartbeats 8000000 in
set_option maxRecDepth 100000 in
theorem impl_FlowOk.calls (k : Nat) (A0 : Option Addr) (c0 : Nat) (l0 : List (S55)) (a1 : Int) (r : Bool) (w : World) (hr0 : Kd.C k55 w A0 l0.length l0) (hc0 : l0.length ≤ c0) (h : impl_FlowOk.f k l0 a1 = some r) :
    Calls Tryd.prog 45 #[.slice A0 l0.length c0, .int .i64 a1] w fun e w' => e = .returned (.bool r) ∧ Below w.heap.size w w' := by
  have HR0 := Ad_.mk hr0
  have HC0 := Ad_.mk hc0
  clear hr0 hc0
  have HB := Ad_.mk (Below.refl w.heap.size w)
  have H := h
  unfold impl_FlowOk.f at H
  clear h
  replace H := Option.bind_eq_some_iff.mp H
  obtain ⟨t429, A30, H⟩ := H
  try dsimp only at H
  have A3 := Ad_.mk A30
  clear A30
  by_cases c4 : t429 = true
  rotate_left
  ·
   replace c4 := Bool.eq_false_iff.mpr c4
   subst c4
   have H1 : (some false) = some r := by rw [if_neg (show ¬ (false = true) by decide)] at H; exact H
   clear H
   have H := H1
   clear H1
   obtain rfl := Option.some.inj H
   go_enter Tryd.func45, Tryd.ntmps45
   go_wp2_with (first | ((with_reducible refine gC_ (f := 90) rfl ?_); refine gM_ (some 6) rfl rfl Tryd.func90 (by kernel_rfl) rfl #[.slice A0 l0.length c0] rfl ?_; (with_reducible refine (impl_Closed.calls k _ _ l0 false _ ?side1 ?side2 A3.out).mono ?_); (case side1 => repeat (first | exact HR0.out | (with_reducible refine Kd.C_alloc ?_ _) | (with_reducible refine Kd.C_drewN ?_ _) | (with_reducible refine Kd.C_drew ?_))); (case side2 => exact HC0.out); rintro e w7 ⟨rfl, hb⟩; refine ⟨_, rfl, ?_⟩; have n0_ := Ad_.mk (bP_ (by repeat (with_reducible first | exact HB.out | apply bA_ | apply bN_ | apply b1_)) hb); clear HB; have HB := n0_; clear n0_; (try clear hb); (try clear hb2); (try clear hk); (try clear hi)))
   go_ret
   exact ⟨by first | rfl | (simp [errW_none, errW_some] <;> rfl) | (simp [*, errW_none, errW_some] <;> rfl), by repeat (with_reducible first | exact HB.out | apply bA_ | apply bN_ | apply b1_)⟩
  subst c4
  have H1 := H
  rw [if_pos rfl] at H1
  clear H
  have H := H1
  clear H1
  replace H := Option.bind_eq_some_iff.mp H
  obtain ⟨t430, A50, H⟩ := H
  replace H : (some t430) = some r := H
  have A5 := Ad_.mk A50
  clear A50
  obtain rfl := Option.some.inj H
  go_enter Tryd.func45, Tryd.ntmps45
  go_wp2_with (first | ((with_reducible refine gC_ (f := 90) rfl ?_); refine gM_ (some 6) rfl rfl Tryd.func90 (by kernel_rfl) rfl #[.slice A0 l0.length c0] rfl ?_; (with_reducible refine (impl_Closed.calls k _ _ l0 true _ ?side1 ?side2 A3.out).mono ?_); (case side1 => repeat (first | exact HR0.out | (with_reducible refine Kd.C_alloc ?_ _) | (with_reducible refine Kd.C_drewN ?_ _) | (with_reducible refine Kd.C_drew ?_))); (case side2 => exact HC0.out); rintro e w6 ⟨rfl, hb⟩; refine ⟨_, rfl, ?_⟩; have n0_ := Ad_.mk (bP_ (by repeat (with_reducible first | exact HB.out | apply bA_ | apply bN_ | apply b1_)) hb); clear HB; have HB := n0_; clear n0_; (try clear hb); (try clear hb2); (try clear hk); (try clear hi)) | (go_at_call 71; (with_reducible refine (impl_in.calls a1 0 2 t430 _ A5.out).mono ?_); rintro e w' ⟨rfl, ⟨nd, rfl⟩⟩))
  go_ret
  exact ⟨by first | rfl | (simp [errW_none, errW_some] <;> rfl) | (simp [*, errW_none, errW_some] <;> rfl), by repeat (with_reducible first | exact HB.out | apply bA_ | apply bN_ | apply b1_)⟩
def laws_FnExactFlowOk.f (k : Nat) (l0 : List (S62)) (a1 : Int) : Option (Bool) := (laws_szNodeS.f k l0 1048576).bind fun t431 => (if t431 < 0 then (some true) else ((laws_toNodeS.f k l0).bind fun t432 => ((spec_FlowOk.f k t432 a1).bind fun t435 => ((laws_toNodeS.f k l0).bind fun t436 => ((impl_FlowOk.f k t436 a1).bind fun t439 => (if (t439 != t435) = true then (some false) else ((laws_toNodeS.f k l0).bind fun t440 => ((laws_eqNodeS.f k t436 t440).bind fun t443 => (if t443 = true then (some true) else (some false))))))))))
theorem laws_FnExactFlowOk.mono : ∀ a0 a1 k, LeO (laws_FnExactFlowOk.f k a0 a1) (laws_FnExactFlowOk.f (k + 1) a0 a1) := by
  intro a0 a1 k
  unfold laws_FnExactFlowOk.f
  repeat' first
      | (with_reducible exact impl_FlowOk.mono _ _ _)
      | (with_reducible exact laws_eqNodeS.mono _ _ _)
      | (with_reducible exact laws_szNodeS.mono _ _ _)
      | (with_reducible exact laws_toNodeS.mono _ _)
      | (with_reducible exact spec_FlowOk.mono _ _ _)
      | (with_reducible exact LeO.refl _)
      | (with_reducible exact LeO.none _)
      | (with_reducible refine LeO.ite ?_ ?_)
      | (with_reducible refine LeO.bind ?_ (fun _ => ?_))
      | exact LeO.none _
      | refine LeO.ite ?_ ?_
      | refine LeO.bind ?_ (fun _ => ?_)
set_option maxHeartbeats 8000000 in
set_option maxRecDepth 100000 in
theorem laws_FnExactFlowOk.calls (k : Nat) (A0 : Option Addr) (c0 : Nat) (l0 : List (S62)) (a1 : Int) (r : Bool) (w : World) (hr0 : Kd.C k62 w A0 l0.length l0) (hc0 : l0.length ≤ c0) (h : laws_FnExactFlowOk.f k l0 a1 = some r) :
    Calls Tryd.prog 11 #[.slice A0 l0.length c0, .int .i64 a1] w fun e w' => e = .returned (.bool r) ∧ Below w.heap.size w w' := by
  have HR0 := Ad_.mk hr0
  have HC0 := Ad_.mk hc0
  clear hr0 hc0
  have HB := Ad_.mk (Below.refl w.heap.size w)
  have H := h
  unfold laws_FnExactFlowOk.f at H
  clear h
  replace H := Option.bind_eq_some_iff.mp H
  obtain ⟨t431, A30, H⟩ := H
  try dsimp only at H
  have A3 := Ad_.mk A30
  clear A30
  by_cases c4 : t431 < 0
  ·
   rw [if_pos c4] at H
   have c4b0 := decide_eq_true c4
   clear c4
   obtain rfl := Option.some.inj H
   go_enter Tryd.func11, Tryd.ntmps11
   go_wp2_with (first | ((with_reducible refine gC_ (f := 14) rfl ?_); refine gM_ (some 11) rfl rfl Tryd.func14 (by kernel_rfl) rfl #[.slice A0 l0.length c0, .int .i64 1048576] rfl ?_; (with_reducible refine (laws_szNodeS.calls k _ _ l0 1048576 t431 _ ?side1 ?side2 A3.out).mono ?_); (case side1 => repeat (first | exact HR0.out | (with_reducible refine Kd.C_alloc ?_ _) | (with_reducible refine Kd.C_drewN ?_ _) | (with_reducible refine Kd.C_drew ?_))); (case side2 => exact HC0.out); rintro e w5 ⟨rfl, hb⟩; refine ⟨_, rfl, ?_⟩; have n0_ := Ad_.mk (bP_ (by repeat (with_reducible first | exact HB.out | apply bA_ | apply bN_ | apply b1_)) hb); clear HB; have HB := n0_; clear n0_; (try clear hb); (try clear hb2); (try clear hk); (try clear hi)))
   go_ret
   exact ⟨by first | rfl | (simp [errW_none, errW_some] <;> rfl) | (simp [*, errW_none, errW_some] <;> rfl), by repeat (with_reducible first | exact HB.out | apply bA_ | apply bN_ | apply b1_)⟩
  rw [if_neg c4] at H
  have c4b0 := decide_eq_false c4
  clear c4
  replace H := Option.bind_eq_some_iff.mp H
  obtain ⟨t432, A60, H⟩ := H
  try dsimp only at H
  have A6 := Ad_.mk A60
  clear A60
  replace H := Option.bind_eq_some_iff.mp H
  obtain ⟨t435, A70, H⟩ := H
  try dsimp only at H
  have A7 := Ad_.mk A70
  clear A70
  replace H := Option.bind_eq_some_iff.mp H
  obtain ⟨t436, A80, H⟩ := H
  try dsimp only at H
  have A8 := Ad_.mk A80
  clear A80
  replace H := Option.bind_eq_some_iff.mp H
  obtain ⟨t439, A90, H⟩ := H
  try dsimp only at H
  have A9 := Ad_.mk A90
  clear A90
  by_cases c10 : (t439 != t435) = true
  ·
   rw [if_pos c10] at H
   have c10b0 : (t439 != t435) = true := c10
   (try (have c10b1 : decide (t439 = t435) = false := by simpa using c10))
   (try (have c10b2 : (t439 == t435) = false := by simpa using c10))
   (try (have c10b3 : ¬ (t439 = t435) := by simpa using c10))
   clear c10
   obtain rfl := Option.some.inj H
   go_enter Tryd.func11, Tryd.ntmps11
   go_wp2_with (first | ((with_reducible refine gC_ (f := 14) rfl ?_); refine gM_ (some 11) rfl rfl Tryd.func14 (by kernel_rfl) rfl #[.slice A0 l0.length c0, .int .i64 1048576] rfl ?_; (with_reducible refine (laws_szNodeS.calls k _ _ l0 1048576 t431 _ ?side1 ?side2 A3.out).mono ?_); (case side1 => repeat (first | exact HR0.out | (with_reducible refine Kd.C_alloc ?_ _) | (with_reducible refine Kd.C_drewN ?_ _) | (with_reducible refine Kd.C_drew ?_))); (case side2 => exact HC0.out); rintro e w11 ⟨rfl, hb⟩; refine ⟨_, rfl, ?_⟩; have n0_ := Ad_.mk (bP_ (by repeat (with_reducible first | exact HB.out | apply bA_ | apply bN_ | apply b1_)) hb); clear HB; have HB := n0_; clear n0_; (try clear hb); (try clear hb2); (try clear hk); (try clear hi)) | ((with_reducible refine gC_ (f := 16) rfl ?_); refine gM_ (some 15) rfl rfl Tryd.func16 (by kernel_rfl) rfl #[.slice A0 l0.length c0] rfl ?_; (with_reducible refine (laws_toNodeS.calls k _ _ l0 t432 _ ?side1 ?side2 A6.out).mono ?_); (case side1 => repeat (first | exact (Kd.C_below HR0.out HB.out) | (with_reducible refine Kd.C_alloc ?_ _) | (with_reducible refine Kd.C_drewN ?_ _) | (with_reducible refine Kd.C_drew ?_))); (case side2 => exact HC0.out); rintro e w12 ⟨v433, rfl, ho0, hb⟩; refine ⟨_, rfl, ?_⟩; have n0_ := Ad_.mk (Kd.R_lower ho0 (bZ_ (by repeat (with_reducible first | exact HB.out | apply bA_ | apply bN_ | apply b1_)))); have n1_ := Ad_.mk (bP_ (by repeat (with_reducible first | exact HB.out | apply bA_ | apply bN_ | apply b1_)) hb); clear HB; have HO434 := n0_; have HB := n1_; clear n0_ n1_; (try clear hb); (try clear hb2); (try clear hk); (try clear hi); (try clear ho0); obtain ⟨Ao13, co13, eo13⟩ := Kd.R_slice HO434.out; subst eo13) | ((with_reducible refine gC_ (f := 44) rfl ?_); refine gM_ (some 17) rfl rfl Tryd.func44 (by kernel_rfl) rfl #[.slice Ao13 t432.length co13, .int .i64 a1] rfl ?_; (with_reducible refine (spec_FlowOk.calls k _ _ t432 a1 t435 _ ?side1 ?side2 A7.out).mono ?_); (case side1 => repeat (first | exact (Kd.R_reads' HO434.out).2.2 | (with_reducible refine Kd.C_alloc ?_ _) | (with_reducible refine Kd.C_drewN ?_ _) | (with_reducible refine Kd.C_drew ?_))); (case side2 => exact (Kd.R_reads' HO434.out).2.1); rintro e w14 ⟨rfl, hb⟩; refine ⟨_, rfl, ?_⟩; have n0_ := Ad_.mk (Kd.R_below (by (with_reducible repeat (first | apply Kd.R_alloc | apply Kd.R_drewN | apply Kd.R_drew)); exact HO434.out) hb); have n1_ := Ad_.mk (bP_ (by repeat (with_reducible first | exact HB.out | apply bA_ | apply bN_ | apply b1_)) hb); clear HO434; clear HB; have HO434 := n0_; have HB := n1_; clear n0_ n1_; (try clear hb); (try clear hb2); (try clear hk); (try clear hi)) | ((with_reducible refine gC_ (f := 16) rfl ?_); refine gM_ (some 19) rfl rfl Tryd.func16 (by kernel_rfl) rfl #[.slice A0 l0.length c0] rfl ?_; (with_reducible refine (laws_toNodeS.calls k _ _ l0 t436 _ ?side1 ?side2 A8.out).mono ?_); (case side1 => repeat (first | exact (Kd.C_below HR0.out HB.out) | (with_reducible refine Kd.C_alloc ?_ _) | (with_reducible refine Kd.C_drewN ?_ _) | (with_reducible refine Kd.C_drew ?_))); (case side2 => exact HC0.out); rintro e w15 ⟨v437, rfl, ho0, hb⟩; refine ⟨_, rfl, ?_⟩; have n0_ := Ad_.mk (Kd.R_elder' (by (with_reducible repeat (first | apply Kd.R_alloc | apply Kd.R_drewN | apply Kd.R_drew)); exact HO434.out) (Kd.R_base ho0) hb); have n1_ := Ad_.mk (Kd.R_lower (Kd.R_new' ho0 (Kd.R_lt (by (with_reducible repeat (first | apply Kd.R_alloc | apply Kd.R_drewN | apply Kd.R_drew)); exact HO434.out))) (bZ_ (by repeat (with_reducible first | exact HB.out | apply bA_ | apply bN_ | apply b1_)))); have n2_ := Ad_.mk (bP_ (by repeat (with_reducible first | exact HB.out | apply bA_ | apply bN_ | apply b1_)) hb); clear HO434; clear HB; have HO434 := n0_; have HO438 := n1_; have HB := n2_; clear n0_ n1_ n2_; (try clear hb); (try clear hb2); (try clear hk); (try clear hi); (try clear ho0); obtain ⟨Ao16, co16, eo16⟩ := Kd.R_slice HO438.out; subst eo16) | ((with_reducible refine gC_ (f := 45) rfl ?_); refine gM_ (some 22) rfl rfl Tryd.func45 (by kernel_rfl) rfl #[.slice Ao16 t436.length co16, .int .i64 a1] rfl ?_; (with_reducible refine (impl_FlowOk.calls k _ _ t436 a1 t439 _ ?side1 ?side2 A9.out).mono ?_); (case side1 => repeat (first | exact (Kd.R_reads' HO438.out).2.2 | (with_reducible refine Kd.C_alloc ?_ _) | (with_reducible refine Kd.C_drewN ?_ _) | (with_reducible refine Kd.C_drew ?_))); (case side2 => exact (Kd.R_reads' HO438.out).2.1); rintro e w17 ⟨rfl, hb⟩; refine ⟨_, rfl, ?_⟩; have n0_ := Ad_.mk (Kd.R_below (by (with_reducible repeat (first | apply Kd.R_alloc | apply Kd.R_drewN | apply Kd.R_drew)); exact HO434.out) hb); have n1_ := Ad_.mk (Kd.R_below (by (with_reducible repeat (first | apply Kd.R_alloc | apply Kd.R_drewN | apply Kd.R_drew)); exact HO438.out) hb); have n2_ := Ad_.mk (bP_ (by repeat (with_reducible first | exact HB.out | apply bA_ | apply bN_ | apply b1_)) hb); clear HO434; clear HO438; clear HB; have HO434 := n0_; have HO438 := n1_; have HB := n2_; clear n0_ n1_ n2_; (try clear hb); (try clear hb2); (try clear hk); (try clear hi)))
   go_ret
   exact ⟨by first | rfl | (simp [errW_none, errW_some] <;> rfl) | (simp [*, errW_none, errW_some] <;> rfl), by repeat (with_reducible first | exact HB.out | apply bA_ | apply bN_ | apply b1_)⟩
  rw [if_neg c10] at H
  have c10b0 : (t439 != t435) = false := by simpa using c10
  (try (have c10b1 : decide (t439 = t435) = true := by simpa using c10))
  (try (have c10b2 : (t439 == t435) = true := by simpa using c10))
  clear c10
  replace H := Option.bind_eq_some_iff.mp H
  obtain ⟨t440, A180, H⟩ := H
  try dsimp only at H
  have A18 := Ad_.mk A180
  clear A180
  replace H := Option.bind_eq_some_iff.mp H
  obtain ⟨t443, A190, H⟩ := H
  try dsimp only at H
  have A19 := Ad_.mk A190
  clear A190
  by_cases c20 : t443 = true
  ·
   subst c20
   have H1 : (some true) = some r := by rw [if_pos rfl] at H; exact H
   clear H
   have H := H1
   clear H1
   obtain rfl := Option.some.inj H
   go_enter Tryd.func11, Tryd.ntmps11
   go_wp2_with (first | ((with_reducible refine gC_ (f := 14) rfl ?_); refine gM_ (some 11) rfl rfl Tryd.func14 (by kernel_rfl) rfl #[.slice A0 l0.length c0, .int .i64 1048576] rfl ?_; (with_reducible refine (laws_szNodeS.calls k _ _ l0 1048576 t431 _ ?side1 ?side2 A3.out).mono ?_); (case side1 => repeat (first | exact HR0.out | (with_reducible refine Kd.C_alloc ?_ _) | (with_reducible refine Kd.C_drewN ?_ _) | (with_reducible refine Kd.C_drew ?_))); (case side2 => exact HC0.out); rintro e w21 ⟨rfl, hb⟩; refine ⟨_, rfl, ?_⟩; have n0_ := Ad_.mk (bP_ (by repeat (with_reducible first | exact HB.out | apply bA_ | apply bN_ | apply b1_)) hb); clear HB; have HB := n0_; clear n0_; (try clear hb); (try clear hb2); (try clear hk); (try clear hi)) | ((with_reducible refine gC_ (f := 16) rfl ?_); refine gM_ (some 15) rfl rfl Tryd.func16 (by kernel_rfl) rfl #[.slice A0 l0.length c0] rfl ?_; (with_reducible refine (laws_toNodeS.calls k _ _ l0 t432 _ ?side1 ?side2 A6.out).mono ?_); (case side1 => repeat (first | exact (Kd.C_below HR0.out HB.out) | (with_reducible refine Kd.C_alloc ?_ _) | (with_reducible refine Kd.C_drewN ?_ _) | (with_reducible refine Kd.C_drew ?_))); (case side2 => exact HC0.out); rintro e w22 ⟨v433, rfl, ho0, hb⟩; refine ⟨_, rfl, ?_⟩; have n0_ := Ad_.mk (Kd.R_lower ho0 (bZ_ (by repeat (with_reducible first | exact HB.out | apply bA_ | apply bN_ | apply b1_)))); have n1_ := Ad_.mk (bP_ (by repeat (with_reducible first | exact HB.out | apply bA_ | apply bN_ | apply b1_)) hb); clear HB; have HO434 := n0_; have HB := n1_; clear n0_ n1_; (try clear hb); (try clear hb2); (try clear hk); (try clear hi); (try clear ho0); obtain ⟨Ao23, co23, eo23⟩ := Kd.R_slice HO434.out; subst eo23) | ((with_reducible refine gC_ (f := 44) rfl ?_); refine gM_ (some 17) rfl rfl Tryd.func44 (by kernel_rfl) rfl #[.slice Ao23 t432.length co23, .int .i64 a1] rfl ?_; (with_reducible refine (spec_FlowOk.calls k _ _ t432 a1 t435 _ ?side1 ?side2 A7.out).mono ?_); (case side1 => repeat (first | exact (Kd.R_reads' HO434.out).2.2 | (with_reducible refine Kd.C_alloc ?_ _) | (with_reducible refine Kd.C_drewN ?_ _) | (with_reducible refine Kd.C_drew ?_))); (case side2 => exact (Kd.R_reads' HO434.out).2.1); rintro e w24 ⟨rfl, hb⟩; refine ⟨_, rfl, ?_⟩; have n0_ := Ad_.mk (Kd.R_below (by (with_reducible repeat (first | apply Kd.R_alloc | apply Kd.R_drewN | apply Kd.R_drew)); exact HO434.out) hb); have n1_ := Ad_.mk (bP_ (by repeat (with_reducible first | exact HB.out | apply bA_ | apply bN_ | apply b1_)) hb); clear HO434; clear HB; have HO434 := n0_; have HB := n1_; clear n0_ n1_; (try clear hb); (try clear hb2); (try clear hk); (try clear hi)) | ((with_reducible refine gC_ (f := 16) rfl ?_); refine gM_ (some 19) rfl rfl Tryd.func16 (by kernel_rfl) rfl #[.slice A0 l0.length c0] rfl ?_; (with_reducible refine (laws_toNodeS.calls k _ _ l0 t436 _ ?side1 ?side2 A8.out).mono ?_); (case side1 => repeat (first | exact (Kd.C_below HR0.out HB.out) | (with_reducible refine Kd.C_alloc ?_ _) | (with_reducible refine Kd.C_drewN ?_ _) | (with_reducible refine Kd.C_drew ?_))); (case side2 => exact HC0.out); rintro e w25 ⟨v437, rfl, ho0, hb⟩; refine ⟨_, rfl, ?_⟩; have n0_ := Ad_.mk (Kd.R_elder' (by (with_reducible repeat (first | apply Kd.R_alloc | apply Kd.R_drewN | apply Kd.R_drew)); exact HO434.out) (Kd.R_base ho0) hb); have n1_ := Ad_.mk (Kd.R_lower (Kd.R_new' ho0 (Kd.R_lt (by (with_reducible repeat (first | apply Kd.R_alloc | apply Kd.R_drewN | apply Kd.R_drew)); exact HO434.out))) (bZ_ (by repeat (with_reducible first | exact HB.out | apply bA_ | apply bN_ | apply b1_)))); have n2_ := Ad_.mk (bP_ (by repeat (with_reducible first | exact HB.out | apply bA_ | apply bN_ | apply b1_)) hb); clear HO434; clear HB; have HO434 := n0_; have HO438 := n1_; have HB := n2_; clear n0_ n1_ n2_; (try clear hb); (try clear hb2); (try clear hk); (try clear hi); (try clear ho0); obtain ⟨Ao26, co26, eo26⟩ := Kd.R_slice HO438.out; subst eo26) | ((with_reducible refine gC_ (f := 45) rfl ?_); refine gM_ (some 22) rfl rfl Tryd.func45 (by kernel_rfl) rfl #[.slice Ao26 t436.length co26, .int .i64 a1] rfl ?_; (with_reducible refine (impl_FlowOk.calls k _ _ t436 a1 t439 _ ?side1 ?side2 A9.out).mono ?_); (case side1 => repeat (first | exact (Kd.R_reads' HO438.out).2.2 | (with_reducible refine Kd.C_alloc ?_ _) | (with_reducible refine Kd.C_drewN ?_ _) | (with_reducible refine Kd.C_drew ?_))); (case side2 => exact (Kd.R_reads' HO438.out).2.1); rintro e w27 ⟨rfl, hb⟩; refine ⟨_, rfl, ?_⟩; have n0_ := Ad_.mk (Kd.R_below (by (with_reducible repeat (first | apply Kd.R_alloc | apply Kd.R_drewN | apply Kd.R_drew)); exact HO434.out) hb); have n1_ := Ad_.mk (Kd.R_below (by (with_reducible repeat (first | apply Kd.R_alloc | apply Kd.R_drewN | apply Kd.R_drew)); exact HO438.out) hb); have n2_ := Ad_.mk (bP_ (by repeat (with_reducible first | exact HB.out | apply bA_ | apply bN_ | apply b1_)) hb); clear HO434; clear HO438; clear HB; have HO434 := n0_; have HO438 := n1_; have HB := n2_; clear n0_ n1_ n2_; (try clear hb); (try clear hb2); (try clear hk); (try clear hi)) | ((with_reducible refine gC_ (f := 16) rfl ?_); refine gM_ (some 28) rfl rfl Tryd.func16 (by kernel_rfl) rfl #[.slice A0 l0.length c0] rfl ?_; (with_reducible refine (laws_toNodeS.calls k _ _ l0 t440 _ ?side1 ?side2 A18.out).mono ?_); (case side1 => repeat (first | exact (Kd.C_below HR0.out HB.out) | (with_reducible refine Kd.C_alloc ?_ _) | (with_reducible refine Kd.C_drewN ?_ _) | (with_reducible refine Kd.C_drew ?_))); (case side2 => exact HC0.out); rintro e w28 ⟨v441, rfl, ho0, hb⟩; refine ⟨_, rfl, ?_⟩; have n0_ := Ad_.mk (Kd.R_elder' (by (with_reducible repeat (first | apply Kd.R_alloc | apply Kd.R_drewN | apply Kd.R_drew)); exact HO434.out) (Kd.R_base ho0) hb); have n1_ := Ad_.mk (Kd.R_elder' (by (with_reducible repeat (first | apply Kd.R_alloc | apply Kd.R_drewN | apply Kd.R_drew)); exact HO438.out) (Kd.R_base ho0) hb); have n2_ := Ad_.mk (Kd.R_lower (Kd.R_new' (Kd.R_new' ho0 (Kd.R_lt (by (with_reducible repeat (first | apply Kd.R_alloc | apply Kd.R_drewN | apply Kd.R_drew)); exact HO434.out))) (Kd.R_lt (by (with_reducible repeat (first | apply Kd.R_alloc | apply Kd.R_drewN | apply Kd.R_drew)); exact HO438.out))) (bZ_ (by repeat (with_reducible first | exact HB.out | apply bA_ | apply bN_ | apply b1_)))); have n3_ := Ad_.mk (bP_ (by repeat (with_reducible first | exact HB.out | apply bA_ | apply bN_ | apply b1_)) hb); clear HO434; clear HO438; clear HB; have HO434 := n0_; have HO438 := n1_; have HO442 := n2_; have HB := n3_; clear n0_ n1_ n2_ n3_; (try clear hb); (try clear hb2); (try clear hk); (try clear hi); (try clear ho0); obtain ⟨Ao29, co29, eo29⟩ := Kd.R_slice HO442.out; subst eo29) | ((with_reducible refine gC_ (f := 18) rfl ?_); refine gM_ (some 29) rfl rfl Tryd.func18 (by kernel_rfl) rfl #[.slice Ao26 t436.length co26, .slice Ao29 t440.length co29] rfl ?_; (with_reducible refine (laws_eqNodeS.calls k _ _ t436 _ _ t440 true _ ?side1 ?side2 ?side3 ?side4 A19.out).mono ?_); (case side1 => repeat (first | exact (Kd.R_reads' HO438.out).2.2 | (with_reducible refine Kd.C_alloc ?_ _) | (with_reducible refine Kd.C_drewN ?_ _) | (with_reducible refine Kd.C_drew ?_))); (case side2 => exact (Kd.R_reads' HO438.out).2.1); (case side3 => repeat (first | exact (Kd.R_reads' HO442.out).2.2 | (with_reducible refine Kd.C_alloc ?_ _) | (with_reducible refine Kd.C_drewN ?_ _) | (with_reducible refine Kd.C_drew ?_))); (case side4 => exact (Kd.R_reads' HO442.out).2.1); rintro e w30 ⟨rfl, hb⟩; refine ⟨_, rfl, ?_⟩; have n0_ := Ad_.mk (Kd.R_below (by (with_reducible repeat (first | apply Kd.R_alloc | apply Kd.R_drewN | apply Kd.R_drew)); exact HO434.out) hb); have n1_ := Ad_.mk (Kd.R_below (by (with_reducible repeat (first | apply Kd.R_alloc | apply Kd.R_drewN | apply Kd.R_drew)); exact HO438.out) hb); have n2_ := Ad_.mk (Kd.R_below (by (with_reducible repeat (first | apply Kd.R_alloc | apply Kd.R_drewN | apply Kd.R_drew)); exact HO442.out) hb); have n3_ := Ad_.mk (bP_ (by repeat (with_reducible first | exact HB.out | apply bA_ | apply bN_ | apply b1_)) hb); clear HO434; clear HO438; clear HO442; clear HB; have HO434 := n0_; have HO438 := n1_; have HO442 := n2_; have HB := n3_; clear n0_ n1_ n2_ n3_; (try clear hb); (try clear hb2); (try clear hk); (try clear hi)))
   go_ret
   exact ⟨by first | rfl | (simp [errW_none, errW_some] <;> rfl) | (simp [*, errW_none, errW_some] <;> rfl), by repeat (with_reducible first | exact HB.out | apply bA_ | apply bN_ | apply b1_)⟩
  replace c20 := Bool.eq_false_iff.mpr c20
  subst c20
  have H1 : (some false) = some r := by rw [if_neg (show ¬ (false = true) by decide)] at H; exact H
  clear H
  have H := H1
  clear H1
  obtain rfl := Option.some.inj H
  go_enter Tryd.func11, Tryd.ntmps11
  go_wp2_with (first | ((with_reducible refine gC_ (f := 14) rfl ?_); refine gM_ (some 11) rfl rfl Tryd.func14 (by kernel_rfl) rfl #[.slice A0 l0.length c0, .int .i64 1048576] rfl ?_; (with_reducible refine (laws_szNodeS.calls k _ _ l0 1048576 t431 _ ?side1 ?side2 A3.out).mono ?_); (case side1 => repeat (first | exact HR0.out | (with_reducible refine Kd.C_alloc ?_ _) | (with_reducible refine Kd.C_drewN ?_ _) | (with_reducible refine Kd.C_drew ?_))); (case side2 => exact HC0.out); rintro e w31 ⟨rfl, hb⟩; refine ⟨_, rfl, ?_⟩; have n0_ := Ad_.mk (bP_ (by repeat (with_reducible first | exact HB.out | apply bA_ | apply bN_ | apply b1_)) hb); clear HB; have HB := n0_; clear n0_; (try clear hb); (try clear hb2); (try clear hk); (try clear hi)) | ((with_reducible refine gC_ (f := 16) rfl ?_); refine gM_ (some 15) rfl rfl Tryd.func16 (by kernel_rfl) rfl #[.slice A0 l0.length c0] rfl ?_; (with_reducible refine (laws_toNodeS.calls k _ _ l0 t432 _ ?side1 ?side2 A6.out).mono ?_); (case side1 => repeat (first | exact (Kd.C_below HR0.out HB.out) | (with_reducible refine Kd.C_alloc ?_ _) | (with_reducible refine Kd.C_drewN ?_ _) | (with_reducible refine Kd.C_drew ?_))); (case side2 => exact HC0.out); rintro e w32 ⟨v433, rfl, ho0, hb⟩; refine ⟨_, rfl, ?_⟩; have n0_ := Ad_.mk (Kd.R_lower ho0 (bZ_ (by repeat (with_reducible first | exact HB.out | apply bA_ | apply bN_ | apply b1_)))); have n1_ := Ad_.mk (bP_ (by repeat (with_reducible first | exact HB.out | apply bA_ | apply bN_ | apply b1_)) hb); clear HB; have HO434 := n0_; have HB := n1_; clear n0_ n1_; (try clear hb); (try clear hb2); (try clear hk); (try clear hi); (try clear ho0); obtain ⟨Ao33, co33, eo33⟩ := Kd.R_slice HO434.out; subst eo33) | ((with_reducible refine gC_ (f := 44) rfl ?_); refine gM_ (some 17) rfl rfl Tryd.func44 (by kernel_rfl) rfl #[.slice Ao33 t432.length co33, .int .i64 a1] rfl ?_; (with_reducible refine (spec_FlowOk.calls k _ _ t432 a1 t435 _ ?side1 ?side2 A7.out).mono ?_); (case side1 => repeat (first | exact (Kd.R_reads' HO434.out).2.2 | (with_reducible refine Kd.C_alloc ?_ _) | (with_reducible refine Kd.C_drewN ?_ _) | (with_reducible refine Kd.C_drew ?_))); (case side2 => exact (Kd.R_reads' HO434.out).2.1); rintro e w34 ⟨rfl, hb⟩; refine ⟨_, rfl, ?_⟩; have n0_ := Ad_.mk (Kd.R_below (by (with_reducible repeat (first | apply Kd.R_alloc | apply Kd.R_drewN | apply Kd.R_drew)); exact HO434.out) hb); have n1_ := Ad_.mk (bP_ (by repeat (with_reducible first | exact HB.out | apply bA_ | apply bN_ | apply b1_)) hb); clear HO434; clear HB; have HO434 := n0_; have HB := n1_; clear n0_ n1_; (try clear hb); (try clear hb2); (try clear hk); (try clear hi)) | ((with_reducible refine gC_ (f := 16) rfl ?_); refine gM_ (some 19) rfl rfl Tryd.func16 (by kernel_rfl) rfl #[.slice A0 l0.length c0] rfl ?_; (with_reducible refine (laws_toNodeS.calls k _ _ l0 t436 _ ?side1 ?side2 A8.out).mono ?_); (case side1 => repeat (first | exact (Kd.C_below HR0.out HB.out) | (with_reducible refine Kd.C_alloc ?_ _) | (with_reducible refine Kd.C_drewN ?_ _) | (with_reducible refine Kd.C_drew ?_))); (case side2 => exact HC0.out); rintro e w35 ⟨v437, rfl, ho0, hb⟩; refine ⟨_, rfl, ?_⟩; have n0_ := Ad_.mk (Kd.R_elder' (by (with_reducible repeat (first | apply Kd.R_alloc | apply Kd.R_drewN | apply Kd.R_drew)); exact HO434.out) (Kd.R_base ho0) hb); have n1_ := Ad_.mk (Kd.R_lower (Kd.R_new' ho0 (Kd.R_lt (by (with_reducible repeat (first | apply Kd.R_alloc | apply Kd.R_drewN | apply Kd.R_drew)); exact HO434.out))) (bZ_ (by repeat (with_reducible first | exact HB.out | apply bA_ | apply bN_ | apply b1_)))); have n2_ := Ad_.mk (bP_ (by repeat (with_reducible first | exact HB.out | apply bA_ | apply bN_ | apply b1_)) hb); clear HO434; clear HB; have HO434 := n0_; have HO438 := n1_; have HB := n2_; clear n0_ n1_ n2_; (try clear hb); (try clear hb2); (try clear hk); (try clear hi); (try clear ho0); obtain ⟨Ao36, co36, eo36⟩ := Kd.R_slice HO438.out; subst eo36) | ((with_reducible refine gC_ (f := 45) rfl ?_); refine gM_ (some 22) rfl rfl Tryd.func45 (by kernel_rfl) rfl #[.slice Ao36 t436.length co36, .int .i64 a1] rfl ?_; (with_reducible refine (impl_FlowOk.calls k _ _ t436 a1 t439 _ ?side1 ?side2 A9.out).mono ?_); (case side1 => repeat (first | exact (Kd.R_reads' HO438.out).2.2 | (with_reducible refine Kd.C_alloc ?_ _) | (with_reducible refine Kd.C_drewN ?_ _) | (with_reducible refine Kd.C_drew ?_))); (case side2 => exact (Kd.R_reads' HO438.out).2.1); rintro e w37 ⟨rfl, hb⟩; refine ⟨_, rfl, ?_⟩; have n0_ := Ad_.mk (Kd.R_below (by (with_reducible repeat (first | apply Kd.R_alloc | apply Kd.R_drewN | apply Kd.R_drew)); exact HO434.out) hb); have n1_ := Ad_.mk (Kd.R_below (by (with_reducible repeat (first | apply Kd.R_alloc | apply Kd.R_drewN | apply Kd.R_drew)); exact HO438.out) hb); have n2_ := Ad_.mk (bP_ (by repeat (with_reducible first | exact HB.out | apply bA_ | apply bN_ | apply b1_)) hb); clear HO434; clear HO438; clear HB; have HO434 := n0_; have HO438 := n1_; have HB := n2_; clear n0_ n1_ n2_; (try clear hb); (try clear hb2); (try clear hk); (try clear hi)) | ((with_reducible refine gC_ (f := 16) rfl ?_); refine gM_ (some 28) rfl rfl Tryd.func16 (by kernel_rfl) rfl #[.slice A0 l0.length c0] rfl ?_; (with_reducible refine (laws_toNodeS.calls k _ _ l0 t440 _ ?side1 ?side2 A18.out).mono ?_); (case side1 => repeat (first | exact (Kd.C_below HR0.out HB.out) | (with_reducible refine Kd.C_alloc ?_ _) | (with_reducible refine Kd.C_drewN ?_ _) | (with_reducible refine Kd.C_drew ?_))); (case side2 => exact HC0.out); rintro e w38 ⟨v441, rfl, ho0, hb⟩; refine ⟨_, rfl, ?_⟩; have n0_ := Ad_.mk (Kd.R_elder' (by (with_reducible repeat (first | apply Kd.R_alloc | apply Kd.R_drewN | apply Kd.R_drew)); exact HO434.out) (Kd.R_base ho0) hb); have n1_ := Ad_.mk (Kd.R_elder' (by (with_reducible repeat (first | apply Kd.R_alloc | apply Kd.R_drewN | apply Kd.R_drew)); exact HO438.out) (Kd.R_base ho0) hb); have n2_ := Ad_.mk (Kd.R_lower (Kd.R_new' (Kd.R_new' ho0 (Kd.R_lt (by (with_reducible repeat (first | apply Kd.R_alloc | apply Kd.R_drewN | apply Kd.R_drew)); exact HO434.out))) (Kd.R_lt (by (with_reducible repeat (first | apply Kd.R_alloc | apply Kd.R_drewN | apply Kd.R_drew)); exact HO438.out))) (bZ_ (by repeat (with_reducible first | exact HB.out | apply bA_ | apply bN_ | apply b1_)))); have n3_ := Ad_.mk (bP_ (by repeat (with_reducible first | exact HB.out | apply bA_ | apply bN_ | apply b1_)) hb); clear HO434; clear HO438; clear HB; have HO434 := n0_; have HO438 := n1_; have HO442 := n2_; have HB := n3_; clear n0_ n1_ n2_ n3_; (try clear hb); (try clear hb2); (try clear hk); (try clear hi); (try clear ho0); obtain ⟨Ao39, co39, eo39⟩ := Kd.R_slice HO442.out; subst eo39) | ((with_reducible refine gC_ (f := 18) rfl ?_); refine gM_ (some 29) rfl rfl Tryd.func18 (by kernel_rfl) rfl #[.slice Ao36 t436.length co36, .slice Ao39 t440.length co39] rfl ?_; (with_reducible refine (laws_eqNodeS.calls k _ _ t436 _ _ t440 false _ ?side1 ?side2 ?side3 ?side4 A19.out).mono ?_); (case side1 => repeat (first | exact (Kd.R_reads' HO438.out).2.2 | (with_reducible refine Kd.C_alloc ?_ _) | (with_reducible refine Kd.C_drewN ?_ _) | (with_reducible refine Kd.C_drew ?_))); (case side2 => exact (Kd.R_reads' HO438.out).2.1); (case side3 => repeat (first | exact (Kd.R_reads' HO442.out).2.2 | (with_reducible refine Kd.C_alloc ?_ _) | (with_reducible refine Kd.C_drewN ?_ _) | (with_reducible refine Kd.C_drew ?_))); (case side4 => exact (Kd.R_reads' HO442.out).2.1); rintro e w40 ⟨rfl, hb⟩; refine ⟨_, rfl, ?_⟩; have n0_ := Ad_.mk (Kd.R_below (by (with_reducible repeat (first | apply Kd.R_alloc | apply Kd.R_drewN | apply Kd.R_drew)); exact HO434.out) hb); have n1_ := Ad_.mk (Kd.R_below (by (with_reducible repeat (first | apply Kd.R_alloc | apply Kd.R_drewN | apply Kd.R_drew)); exact HO438.out) hb); have n2_ := Ad_.mk (Kd.R_below (by (with_reducible repeat (first | apply Kd.R_alloc | apply Kd.R_drewN | apply Kd.R_drew)); exact HO442.out) hb); have n3_ := Ad_.mk (bP_ (by repeat (with_reducible first | exact HB.out | apply bA_ | apply bN_ | apply b1_)) hb); clear HO434; clear HO438; clear HO442; clear HB; have HO434 := n0_; have HO438 := n1_; have HO442 := n2_; have HB := n3_; clear n0_ n1_ n2_ n3_; (try clear hb); (try clear hb2); (try clear hk); (try clear hi)))
  go_ret
  exact ⟨by first | rfl | (simp [errW_none, errW_some] <;> rfl) | (simp [*, errW_none, errW_some] <;> rfl), by repeat (with_reducible first | exact HB.out | apply bA_ | apply bN_ | apply b1_)⟩
end Go.Proofs.YtfmlamheflbgdaaDoor.PAll
end
section
namespace Go.Proofs.YtfmlamheflbgdaaDoor.PAll
open Go.RowKit Go.Proofs.YtfmlamheflbgdaaDoorW.PrintWords Go.Proofs.YtfmlamheflbgdaaDoorW.PrintLast Go.Proofs.YtfmlamheflbgdaaDoorW.PrintMore
attribute [local go_sem] max2_int min2_int max_two min_two max_three min_three max_four min_four
set_option linter.unusedVariables false
set_option linter.unusedSimpArgs false
def spec_l16Lambda.f (a0_0 : Int) (a0_1 : Int) (a0_2 : Int) (a0_3 : Int) (a0_4 : Int) (a0_5 : ByteArray) (a0_6 : ByteArray) : Option (Bool) := if a0_0 = 3 then (some true) else (some (a0_0 == 6))
set_option maxHeartbeats 8000000 in
set_option maxRecDepth 100000 in
theorem spec_l16Lambda.calls (a0_0 : Int) (a0_1 : Int) (a0_2 : Int) (a0_3 : Int) (a0_4 : Int) (a0_5 : ByteArray) (a0_6 : ByteArray) (r : Bool) (w : World) (h : spec_l16Lambda.f a0_0 a0_1 a0_2 a0_3 a0_4 a0_5 a0_6 = some r) :
    Calls Tryd.prog 70 #[.agg #[.int .i64 a0_0, .int .i64 a0_1, .int .i64 a0_2, .int .i64 a0_3, .int .i64 a0_4, .string a0_5, .string a0_6]] w fun e w' => e = .returned (.bool r) ∧ Below w.heap.size w w' := by
  have hu55 := Tryd.underlying55
  have HB := Ad_.mk (Below.refl w.heap.size w)
  have H : (if a0_0 = 3 then (some true) else (some (a0_0 == 6))) = some r := h
  clear h
  by_cases c2 : a0_0 = 3
  rotate_left
  ·
   rw [if_neg c2] at H
   have c2b0 : (a0_0 == 3) = false := beq_eq_false_iff_ne.mpr c2
   have c2b1 : (a0_0 != 3) = true := bne_iff_ne.mpr c2
   obtain rfl := Option.some.inj H
   go_enter Tryd.func70, Tryd.ntmps70
   go_wp2_with (first | ((with_reducible refine gD_ (N := 1) rfl ?_); refine bE_ ?hg (N := 1) ?hd (cs := #[.int .i64 a0_0, .int .i64 a0_1, .int .i64 a0_2, .int .i64 a0_3, .int .i64 a0_4, .string a0_5, .string a0_6]) (t := 55) ?hr ?_; (case hd => rfl); (case hg => rfl); (case hr => first | (go_simp; done) | (go_simp; rfl)); intro gb282 hg w5 hbox hb; have n0_ := Ad_.mk (bP_ (by repeat (with_reducible first | exact HB.out | apply bA_ | apply bN_ | apply b1_)) hb); have n1_ := Ad_.mk (hbox); have n2_ := Ad_.mk ((by rw [hg]; exact (bZ_ (by repeat (with_reducible first | exact HB.out | apply bA_ | apply bN_ | apply b1_))) : w.heap.size ≤ gb282)); have n3_ := Ad_.mk ((by rw [hg]; exact (bZ_ (by repeat (with_reducible first | exact HB.out | apply bA_ | apply bN_ | apply b1_))) : w.heap.size ≤ gb282)); clear HB; have HB := n0_; have BK282 := n1_; have GW282 := n2_; have GE282 := n3_; clear n0_ n1_ n2_ n3_; clear hb hbox hg; obtain ⟨hcz6_0, hcz6_1, hcz6_2, hcz6_3, hcz6_4, hcz6_5, hcz6_6⟩ := cells7_ BK282.out; obtain ⟨hfz6_0, hfz6_1, hfz6_2, hfz6_3, hfz6_4, hfz6_5, hfz6_6⟩ := froz7_ BK282.out))
   go_ret
   exact ⟨by first | rfl | (simp [errW_none, errW_some] <;> rfl) | (simp [*, errW_none, errW_some] <;> rfl), by repeat (with_reducible first | exact HB.out | apply bA_ | apply bN_ | apply b1_ | refine bS_ ?_ GE282.out)⟩
  rw [if_pos c2] at H
  have c2b0 : (a0_0 == 3) = true := beq_iff_eq.mpr c2
  have c2b1 : (a0_0 != 3) = false := bne_eq_false_iff_eq.mpr c2
  clear c2
  obtain rfl := Option.some.inj H
  go_enter Tryd.func70, Tryd.ntmps70
  go_wp2_with (first | ((with_reducible refine gD_ (N := 1) rfl ?_); refine bE_ ?hg (N := 1) ?hd (cs := #[.int .i64 a0_0, .int .i64 a0_1, .int .i64 a0_2, .int .i64 a0_3, .int .i64 a0_4, .string a0_5, .string a0_6]) (t := 55) ?hr ?_; (case hd => rfl); (case hg => rfl); (case hr => first | (go_simp; done) | (go_simp; rfl)); intro gb282 hg w3 hbox hb; have n0_ := Ad_.mk (bP_ (by repeat (with_reducible first | exact HB.out | apply bA_ | apply bN_ | apply b1_)) hb); have n1_ := Ad_.mk (hbox); have n2_ := Ad_.mk ((by rw [hg]; exact (bZ_ (by repeat (with_reducible first | exact HB.out | apply bA_ | apply bN_ | apply b1_))) : w.heap.size ≤ gb282)); have n3_ := Ad_.mk ((by rw [hg]; exact (bZ_ (by repeat (with_reducible first | exact HB.out | apply bA_ | apply bN_ | apply b1_))) : w.heap.size ≤ gb282)); clear HB; have HB := n0_; have BK282 := n1_; have GW282 := n2_; have GE282 := n3_; clear n0_ n1_ n2_ n3_; clear hb hbox hg; obtain ⟨hcz4_0, hcz4_1, hcz4_2, hcz4_3, hcz4_4, hcz4_5, hcz4_6⟩ := cells7_ BK282.out; obtain ⟨hfz4_0, hfz4_1, hfz4_2, hfz4_3, hfz4_4, hfz4_5, hfz4_6⟩ := froz7_ BK282.out))
  go_ret
  exact ⟨by first | rfl | (simp [errW_none, errW_some] <;> rfl) | (simp [*, errW_none, errW_some] <;> rfl), by repeat (with_reducible first | exact HB.out | apply bA_ | apply bN_ | apply b1_ | refine bS_ ?_ GE282.out)⟩
mutual
def spec_HomeOf.j0 : Nat → List (S55) → Int → Bool → Option (Int)
  | 0, _, _, _ => none
  | k + 1, x0, x1, x17 => if x17 = true then (some (-1)) else ((spec_ParentOf.f k x0 x1).bind fun t285 => (spec_HomeOf.l0 k x0 x1 t285))
def spec_HomeOf.l0 : Nat → List (S55) → Int → Int → Option (Int)
  | 0, _, _, _ => none
  | k + 1, x0, x5, x6 => if x6 ≥ 0 then (if 0 ≤ x6 then (if x6 < (x0.length : Int) then ((spec_l16Lambda.f ((rd_T55 x0 x6).f0) ((rd_T55 x0 x6).f1) ((rd_T55 x0 x6).f2) ((rd_T55 x0 x6).f3) ((rd_T55 x0 x6).f4) ((rd_T55 x0 x6).f5) ((rd_T55 x0 x6).f6)).bind fun t287 => (if t287 = true then (if ((rd_T55 x0 x6).f1) = x5 then (some x6) else ((spec_ParentOf.f k x0 x6).bind fun t289 => (spec_HomeOf.l0 k x0 x6 t289))) else ((spec_ParentOf.f k x0 x6).bind fun t290 => (spec_HomeOf.l0 k x0 x6 t290)))) else (none)) else (none)) else (some (-1))
end
def spec_HomeOf.f (k : Nat) (l0 : List (S55)) (a1 : Int) : Option (Int) := (spec_NodesOk.f k l0).bind fun t283 => (if t283 = true then ((spec_l1In.f a1 0 (wrap64 ((l0.length : Int) - 1))).bind fun t284 => (spec_HomeOf.j0 k l0 a1 (!t284))) else (spec_HomeOf.j0 k l0 a1 true))
theorem spec_HomeOf.mono_l : ∀ k, (∀ y0 y1 y2, LeO (spec_HomeOf.j0 k y0 y1 y2) (spec_HomeOf.j0 (k + 1) y0 y1 y2)) ∧ (∀ y0 y1 y2, LeO (spec_HomeOf.l0 k y0 y1 y2) (spec_HomeOf.l0 (k + 1) y0 y1 y2))
  | 0 => ⟨fun _ _ _ r h => by simp [spec_HomeOf.j0] at h, fun _ _ _ r h => by simp [spec_HomeOf.l0] at h⟩
  | k + 1 => by
    obtain ⟨ih0, ih1⟩ := spec_HomeOf.mono_l k
    refine ⟨?_, ?_⟩
    (intro y0 y1 y2; unfold spec_HomeOf.j0; rotate_left)
    (intro y0 y1 y2; unfold spec_HomeOf.l0; rotate_left)
    all_goals
      repeat' first
      | (with_reducible exact ih0 _ _ _)
      | (with_reducible exact ih1 _ _ _)
      | (with_reducible exact spec_NodesOk.mono _ _)
      | (with_reducible exact spec_ParentOf.mono _ _ _)
      | (with_reducible exact LeO.refl _)
      | (with_reducible exact LeO.none _)
      | (with_reducible refine LeO.ite ?_ ?_)
      | (with_reducible refine LeO.bind ?_ (fun _ => ?_))
      | exact LeO.none _
      | refine LeO.ite ?_ ?_
      | refine LeO.bind ?_ (fun _ => ?_)
theorem spec_HomeOf.mono : ∀ a0 a1 k, LeO (spec_HomeOf.f k a0 a1) (spec_HomeOf.f (k + 1) a0 a1) := by
  intro a0 a1 k
  obtain ⟨ih0, ih1⟩ := spec_HomeOf.mono_l k
  unfold spec_HomeOf.f
  repeat' first
      | (with_reducible exact ih0 _ _ _)
      | (with_reducible exact ih1 _ _ _)
      | (with_reducible exact spec_NodesOk.mono _ _)
      | (with_reducible exact spec_ParentOf.mono _ _ _)
      | (with_reducible exact LeO.refl _)
      | (with_reducible exact LeO.none _)
      | (with_reducible refine LeO.ite ?_ ?_)
      | (with_reducible refine LeO.bind ?_ (fun _ => ?_))
      | exact LeO.none _
      | refine LeO.ite ?_ ?_
      | refine LeO.bind ?_ (fun _ => ?_)
set_option maxHeartbeats 8000000 in
set_option maxRecDepth 100000 in
theorem spec_HomeOf.calls (k : Nat) (A0 : Option Addr) (c0 : Nat) (l0 : List (S55)) (a1 : Int) (r : Int) (w : World) (hr0 : Kd.C k55 w A0 l0.length l0) (hc0 : l0.length ≤ c0) (h : spec_HomeOf.f k l0 a1 = some r) :
    Calls Tryd.prog 19 #[.slice A0 l0.length c0, .int .i64 a1] w fun e w' => e = .returned (.int .i64 r) ∧ Below w.heap.size w w' := by
  have hu55 := Tryd.underlying55
  have HR0 := Ad_.mk hr0
  have HC0 := Ad_.mk hc0
  clear hr0 hc0
  have HB := Ad_.mk (Below.refl w.heap.size w)
  have H := h
  unfold spec_HomeOf.f at H
  clear h
  have HC3 := Ad_.mk H
  clear H
  go_enter Tryd.func19, Tryd.ntmps19
  go_upto_region 1 with (fail)
  go_cut [17] (fun v17 wc => ∃ (kq : Nat) (x17_2 : Bool), v17 = .bool x17_2 ∧ Ad_ (spec_HomeOf.j0 kq l0 a1 x17_2 = some r) ∧ Ad_ (kq ≤ k) ∧ Ad_ (Below w.heap.size w wc))
  case first =>
    have H := HC3.out
    clear HC3
    replace H := Option.bind_eq_some_iff.mp H
    obtain ⟨t283, A40, H⟩ := H
    try dsimp only at H
    have A4 := Ad_.mk A40
    clear A40
    by_cases c5 : t283 = true
    rotate_left
    ·
     replace c5 := Bool.eq_false_iff.mpr c5
     subst c5
     have H1 : (spec_HomeOf.j0 k l0 a1 true) = some r := by rw [if_neg (show ¬ (false = true) by decide)] at H; exact H
     clear H
     have H := H1
     clear H1
     have H' := Ad_.mk H
     clear H
     go_wp2_with (first | ((with_reducible refine gC_ (f := 49) rfl ?_); refine gM_ (some 8) rfl rfl Tryd.func49 (by kernel_rfl) rfl #[.slice A0 l0.length c0] rfl ?_; (with_reducible refine (spec_NodesOk.calls k _ _ l0 false _ ?side1 ?side2 A4.out).mono ?_); (case side1 => repeat (first | exact (Kd.C_below HR0.out HB.out) | (with_reducible refine Kd.C_alloc ?_ _) | (with_reducible refine Kd.C_drewN ?_ _) | (with_reducible refine Kd.C_drew ?_))); (case side2 => exact HC0.out); rintro e w8 ⟨rfl, hb⟩; refine ⟨_, rfl, ?_⟩; have n0_ := Ad_.mk (bP_ (by repeat (with_reducible first | exact HB.out | apply bA_ | apply bN_ | apply b1_)) hb); clear HB; have HB := n0_; clear n0_; (try clear hb); (try clear hb2); (try clear hk); (try clear hi)))
     go_meet
     case rel => exact ⟨_, (true), fs_, H', ⟨by first | omega | exact Nat.le_refl _⟩, ⟨by repeat (with_reducible first | exact HB.out | apply bA_ | apply bN_ | apply b1_)⟩⟩
    subst c5
    have H1 := H
    rw [if_pos rfl] at H1
    clear H
    have H := H1
    clear H1
    replace H := Option.bind_eq_some_iff.mp H
    obtain ⟨t284, A60, H⟩ := H
    replace H : (spec_HomeOf.j0 k l0 a1 (!t284)) = some r := H
    have A6 := Ad_.mk A60
    clear A60
    have H' := Ad_.mk H
    clear H
    go_wp2_with (first | ((with_reducible refine gC_ (f := 49) rfl ?_); refine gM_ (some 8) rfl rfl Tryd.func49 (by kernel_rfl) rfl #[.slice A0 l0.length c0] rfl ?_; (with_reducible refine (spec_NodesOk.calls k _ _ l0 true _ ?side1 ?side2 A4.out).mono ?_); (case side1 => repeat (first | exact (Kd.C_below HR0.out HB.out) | (with_reducible refine Kd.C_alloc ?_ _) | (with_reducible refine Kd.C_drewN ?_ _) | (with_reducible refine Kd.C_drew ?_))); (case side2 => exact HC0.out); rintro e w7 ⟨rfl, hb⟩; refine ⟨_, rfl, ?_⟩; have n0_ := Ad_.mk (bP_ (by repeat (with_reducible first | exact HB.out | apply bA_ | apply bN_ | apply b1_)) hb); clear HB; have HB := n0_; clear n0_; (try clear hb); (try clear hb2); (try clear hk); (try clear hi)) | (go_at_call 68; (with_reducible refine (spec_l1In.calls a1 0 (wrap64 ((l0.length : Int) - 1)) t284 _ A6.out).mono ?_); rintro e w' ⟨rfl, ⟨nd, rfl⟩⟩))
    go_meet
    case rel => exact ⟨_, (!t284), fs_, H', ⟨by first | omega | exact Nat.le_refl _⟩, ⟨by repeat (with_reducible first | exact HB.out | apply bA_ | apply bN_ | apply b1_)⟩⟩
  case rest =>
    clear HC3
    try clear p2
    try clear p6
    obtain ⟨kq, x17_2, rfl, HA, HJ2, HB⟩ := hcut
    cases kq with
    | zero => exact absurd HA.out (by simp [spec_HomeOf.j0])
    | succ kj2 =>
      have H := HA.out
      clear HA
      simp only [spec_HomeOf.j0] at H
      by_cases c9 : x17_2 = true
      ·
       subst c9
       have H1 : (some (-1)) = some r := by rw [if_pos rfl] at H; exact H
       clear H
       have H := H1
       clear H1
       obtain rfl := Option.some.inj H
       go_wp2
       go_ret
       exact ⟨by first | rfl | (simp [errW_none, errW_some] <;> rfl) | (simp [*, errW_none, errW_some] <;> rfl), by repeat (with_reducible first | exact HB.out | apply bA_ | apply bN_ | apply b1_)⟩
      replace c9 := Bool.eq_false_iff.mpr c9
      subst c9
      have H1 : ((spec_ParentOf.f kj2 l0 a1).bind fun t285 => (spec_HomeOf.l0 kj2 l0 a1 t285)) = some r := by rw [if_neg (show ¬ (false = true) by decide)] at H; exact H
      clear H
      have H := H1
      clear H1
      replace H := Option.bind_eq_some_iff.mp H
      obtain ⟨t285, A100, H⟩ := H
      replace H : (spec_HomeOf.l0 kj2 l0 a1 t285) = some r := H
      have A10 := Ad_.mk A100
      clear A100
      have H' := Ad_.mk H
      clear H
      go_wp2_with (first | ((with_reducible refine gC_ (f := 69) rfl ?_); refine gM_ (some 21) rfl rfl Tryd.func69 (by kernel_rfl) rfl #[.slice A0 l0.length c0, .int .i64 a1] rfl ?_; (with_reducible refine (spec_ParentOf.calls kj2 _ _ l0 a1 t285 _ ?side1 ?side2 A10.out).mono ?_); (case side1 => repeat (first | exact (Kd.C_below HR0.out HB.out) | (with_reducible refine Kd.C_alloc ?_ _) | (with_reducible refine Kd.C_drewN ?_ _) | (with_reducible refine Kd.C_drew ?_))); (case side2 => exact HC0.out); rintro e w11 ⟨rfl, hb⟩; refine ⟨_, rfl, ?_⟩; have n0_ := Ad_.mk (bP_ (by repeat (with_reducible first | exact HB.out | apply bA_ | apply bN_ | apply b1_)) hb); clear HB; have HB := n0_; clear n0_; (try clear hb); (try clear hb2); (try clear hk); (try clear hi)))
      go_loopg [5, 6] kj2 (fun kq v5 v6 w' => ∃ (x5_2 : Int) (x6_2 : Int), v5 = .int .i64 x5_2 ∧ v6 = .int .i64 x6_2 ∧ Ad_ (spec_HomeOf.l0 kq l0 x5_2 x6_2 = some r) ∧ Ad_ (kq ≤ kj2) ∧ Ad_ (Below w.heap.size w w'))
      case atStart => exact ⟨(a1), (t285), fs_, fs_, H', ⟨Nat.le_refl _⟩, ⟨by repeat (with_reducible first | exact HB.out | apply bA_ | apply bN_ | apply b1_)⟩⟩
      case round =>
        clear H'
        try clear p2
        try clear p6
        try clear p2
        try clear p6
        obtain ⟨x5_2, x6_2, rfl, rfl, HA, HK2, HB⟩ := hrel
        cases gk with
        | zero => exact absurd HA.out (by simp [spec_HomeOf.l0])
        | succ k2 =>
          have H := HA.out
          clear HA
          simp only [spec_HomeOf.l0] at H
          by_cases c12 : x6_2 ≥ 0
          rotate_left
          ·
           rw [if_neg c12] at H
           have c12b0 := decide_eq_false c12
           clear c12
           obtain rfl := Option.some.inj H
           go_wp2
           go_ret
           exact ⟨by first | rfl | (simp [errW_none, errW_some] <;> rfl) | (simp [*, errW_none, errW_some] <;> rfl), by repeat (with_reducible first | exact HB.out | apply bA_ | apply bN_ | apply b1_)⟩
          rw [if_pos c12] at H
          have c12b0 := decide_eq_true c12
          clear c12
          by_cases c13 : 0 ≤ x6_2
          rotate_left
          ·
           rw [if_neg c13] at H
           exact absurd H (by simp)
          rw [if_pos c13] at H
          have c13b0 := decide_eq_true c13
          clear c13
          by_cases c14 : x6_2 < (l0.length : Int)
          rotate_left
          ·
           rw [if_neg c14] at H
           exact absurd H (by simp)
          rw [if_pos c14] at H
          have c14b0 := decide_eq_true c14
          clear c14
          replace H := Option.bind_eq_some_iff.mp H
          obtain ⟨t287, A150, H⟩ := H
          try dsimp only at H
          have A15 := Ad_.mk A150
          clear A150
          by_cases c16 : t287 = true
          rotate_left
          ·
           replace c16 := Bool.eq_false_iff.mpr c16
           subst c16
           have H1 : ((spec_ParentOf.f k2 l0 x6_2).bind fun t290 => (spec_HomeOf.l0 k2 l0 x6_2 t290)) = some r := by rw [if_neg (show ¬ (false = true) by decide)] at H; exact H
           clear H
           have H := H1
           clear H1
           replace H := Option.bind_eq_some_iff.mp H
           obtain ⟨t290, A220, H⟩ := H
           replace H : (spec_HomeOf.l0 k2 l0 x6_2 t290) = some r := H
           have A22 := Ad_.mk A220
           clear A220
           have H' := Ad_.mk H
           clear H
           have p286 : 0 ≤ (x6_2 : Int) := od_
           have q286 : x6_2 < (l0.length : Int) := od_
           obtain ⟨ad286, e286, hx286_0, hx286_1, hx286_2, hx286_3, hx286_4, hx286_5, hx286_6⟩ := at_T55 HR0.out x6_2 p286 q286
           cases e286
           replace hx286_0 := pB_ HB.out hx286_0
           replace hx286_1 := pB_ HB.out hx286_1
           replace hx286_2 := pB_ HB.out hx286_2
           replace hx286_3 := pB_ HB.out hx286_3
           replace hx286_4 := pB_ HB.out hx286_4
           replace hx286_5 := pB_ HB.out hx286_5
           replace hx286_6 := pB_ HB.out hx286_6
           replace p286 := eq_true p286
           replace q286 := eq_true q286
           go_wp2_with (first | ((with_reducible refine gC_ (f := 70) rfl ?_); refine gM_ (some 31) rfl rfl Tryd.func70 (by kernel_rfl) rfl #[.agg #[.int .i64 ((rd_T55 l0 x6_2).f0), .int .i64 ((rd_T55 l0 x6_2).f1), .int .i64 ((rd_T55 l0 x6_2).f2), .int .i64 ((rd_T55 l0 x6_2).f3), .int .i64 ((rd_T55 l0 x6_2).f4), .string ((rd_T55 l0 x6_2).f5), .string ((rd_T55 l0 x6_2).f6)]] rfl ?_; (with_reducible refine (spec_l16Lambda.calls ((rd_T55 l0 x6_2).f0) ((rd_T55 l0 x6_2).f1) ((rd_T55 l0 x6_2).f2) ((rd_T55 l0 x6_2).f3) ((rd_T55 l0 x6_2).f4) ((rd_T55 l0 x6_2).f5) ((rd_T55 l0 x6_2).f6) false _ A15.out).mono ?_); rintro e w23 ⟨rfl, hb⟩; refine ⟨_, rfl, ?_⟩; have n0_ := Ad_.mk (bP_ (by repeat (with_reducible first | exact HB.out | apply bA_ | apply bN_ | apply b1_)) hb); clear HB; have HB := n0_; clear n0_; (try clear hb); (try clear hb2); (try clear hk); (try clear hi)) | ((with_reducible refine gC_ (f := 69) rfl ?_); refine gM_ (some 26) rfl rfl Tryd.func69 (by kernel_rfl) rfl #[.slice (some ad286) l0.length c0, .int .i64 x6_2] rfl ?_; (with_reducible refine (spec_ParentOf.calls k2 _ _ l0 x6_2 t290 _ ?side1 ?side2 A22.out).mono ?_); (case side1 => repeat (first | exact (Kd.C_below HR0.out HB.out) | (with_reducible refine Kd.C_alloc ?_ _) | (with_reducible refine Kd.C_drewN ?_ _) | (with_reducible refine Kd.C_drew ?_))); (case side2 => exact HC0.out); rintro e w24 ⟨rfl, hb⟩; refine ⟨_, rfl, ?_⟩; have n0_ := Ad_.mk (bP_ (by repeat (with_reducible first | exact HB.out | apply bA_ | apply bN_ | apply b1_)) hb); clear HB; have HB := n0_; clear n0_; (try clear hb); (try clear hb2); (try clear hk); (try clear hi)))
           go_roundg k2
           case measure => have := HJ2.out; have := HK2.out; omega
           case rel => exact ⟨(x6_2), (t290), fs_, fs_, H', ⟨by have := HJ2.out; have := HK2.out; omega⟩, ⟨by repeat (with_reducible first | exact HB.out | apply bA_ | apply bN_ | apply b1_)⟩⟩
          subst c16
          have H1 := H
          rw [if_pos rfl] at H1
          clear H
          have H := H1
          clear H1
          by_cases c17 : ((rd_T55 l0 x6_2).f1) = x5_2
          ·
           rw [if_pos c17] at H
           have c17b0 : (((rd_T55 l0 x6_2).f1) == x5_2) = true := beq_iff_eq.mpr c17
           have c17b1 : (((rd_T55 l0 x6_2).f1) != x5_2) = false := bne_eq_false_iff_eq.mpr c17
           clear c17
           obtain rfl := Option.some.inj H
           have p286 : 0 ≤ (x6_2 : Int) := od_
           have q286 : x6_2 < (l0.length : Int) := od_
           obtain ⟨ad286, e286, hx286_0, hx286_1, hx286_2, hx286_3, hx286_4, hx286_5, hx286_6⟩ := at_T55 HR0.out x6_2 p286 q286
           cases e286
           replace hx286_0 := pB_ HB.out hx286_0
           replace hx286_1 := pB_ HB.out hx286_1
           replace hx286_2 := pB_ HB.out hx286_2
           replace hx286_3 := pB_ HB.out hx286_3
           replace hx286_4 := pB_ HB.out hx286_4
           replace hx286_5 := pB_ HB.out hx286_5
           replace hx286_6 := pB_ HB.out hx286_6
           replace p286 := eq_true p286
           replace q286 := eq_true q286
           go_wp2_with (first | ((with_reducible refine gC_ (f := 70) rfl ?_); refine gM_ (some 31) rfl rfl Tryd.func70 (by kernel_rfl) rfl #[.agg #[.int .i64 ((rd_T55 l0 x6_2).f0), .int .i64 ((rd_T55 l0 x6_2).f1), .int .i64 ((rd_T55 l0 x6_2).f2), .int .i64 ((rd_T55 l0 x6_2).f3), .int .i64 ((rd_T55 l0 x6_2).f4), .string ((rd_T55 l0 x6_2).f5), .string ((rd_T55 l0 x6_2).f6)]] rfl ?_; (with_reducible refine (spec_l16Lambda.calls ((rd_T55 l0 x6_2).f0) ((rd_T55 l0 x6_2).f1) ((rd_T55 l0 x6_2).f2) ((rd_T55 l0 x6_2).f3) ((rd_T55 l0 x6_2).f4) ((rd_T55 l0 x6_2).f5) ((rd_T55 l0 x6_2).f6) true _ A15.out).mono ?_); rintro e w18 ⟨rfl, hb⟩; refine ⟨_, rfl, ?_⟩; have n0_ := Ad_.mk (bP_ (by repeat (with_reducible first | exact HB.out | apply bA_ | apply bN_ | apply b1_)) hb); clear HB; have HB := n0_; clear n0_; (try clear hb); (try clear hb2); (try clear hk); (try clear hi); have p288 : 0 ≤ (x6_2 : Int) := od_; have q288 : x6_2 < (l0.length : Int) := od_; obtain ⟨ad288, e288, hx288_0, hx288_1, hx288_2, hx288_3, hx288_4, hx288_5, hx288_6⟩ := at_T55 HR0.out x6_2 p288 q288; obtain rfl : ad286 = ad288 := (by injection e288); replace hx288_0 := pB_ HB.out hx288_0; replace hx288_1 := pB_ HB.out hx288_1; replace hx288_2 := pB_ HB.out hx288_2; replace hx288_3 := pB_ HB.out hx288_3; replace hx288_4 := pB_ HB.out hx288_4; replace hx288_5 := pB_ HB.out hx288_5; replace hx288_6 := pB_ HB.out hx288_6; replace p288 := eq_true p288; replace q288 := eq_true q288))
           go_ret
           exact ⟨by first | rfl | (simp [errW_none, errW_some] <;> rfl) | (simp [*, errW_none, errW_some] <;> rfl), by repeat (with_reducible first | exact HB.out | apply bA_ | apply bN_ | apply b1_)⟩
          rw [if_neg c17] at H
          have c17b0 : (((rd_T55 l0 x6_2).f1) == x5_2) = false := beq_eq_false_iff_ne.mpr c17
          have c17b1 : (((rd_T55 l0 x6_2).f1) != x5_2) = true := bne_iff_ne.mpr c17
          replace H := Option.bind_eq_some_iff.mp H
          obtain ⟨t289, A190, H⟩ := H
          replace H : (spec_HomeOf.l0 k2 l0 x6_2 t289) = some r := H
          have A19 := Ad_.mk A190
          clear A190
          have H' := Ad_.mk H
          clear H
          have p286 : 0 ≤ (x6_2 : Int) := od_
          have q286 : x6_2 < (l0.length : Int) := od_
          obtain ⟨ad286, e286, hx286_0, hx286_1, hx286_2, hx286_3, hx286_4, hx286_5, hx286_6⟩ := at_T55 HR0.out x6_2 p286 q286
          cases e286
          replace hx286_0 := pB_ HB.out hx286_0
          replace hx286_1 := pB_ HB.out hx286_1
          replace hx286_2 := pB_ HB.out hx286_2
          replace hx286_3 := pB_ HB.out hx286_3
          replace hx286_4 := pB_ HB.out hx286_4
          replace hx286_5 := pB_ HB.out hx286_5
          replace hx286_6 := pB_ HB.out hx286_6
          replace p286 := eq_true p286
          replace q286 := eq_true q286
          go_wp2_with (first | ((with_reducible refine gC_ (f := 70) rfl ?_); refine gM_ (some 31) rfl rfl Tryd.func70 (by kernel_rfl) rfl #[.agg #[.int .i64 ((rd_T55 l0 x6_2).f0), .int .i64 ((rd_T55 l0 x6_2).f1), .int .i64 ((rd_T55 l0 x6_2).f2), .int .i64 ((rd_T55 l0 x6_2).f3), .int .i64 ((rd_T55 l0 x6_2).f4), .string ((rd_T55 l0 x6_2).f5), .string ((rd_T55 l0 x6_2).f6)]] rfl ?_; (with_reducible refine (spec_l16Lambda.calls ((rd_T55 l0 x6_2).f0) ((rd_T55 l0 x6_2).f1) ((rd_T55 l0 x6_2).f2) ((rd_T55 l0 x6_2).f3) ((rd_T55 l0 x6_2).f4) ((rd_T55 l0 x6_2).f5) ((rd_T55 l0 x6_2).f6) true _ A15.out).mono ?_); rintro e w20 ⟨rfl, hb⟩; refine ⟨_, rfl, ?_⟩; have n0_ := Ad_.mk (bP_ (by repeat (with_reducible first | exact HB.out | apply bA_ | apply bN_ | apply b1_)) hb); clear HB; have HB := n0_; clear n0_; (try clear hb); (try clear hb2); (try clear hk); (try clear hi); have p288 : 0 ≤ (x6_2 : Int) := od_; have q288 : x6_2 < (l0.length : Int) := od_; obtain ⟨ad288, e288, hx288_0, hx288_1, hx288_2, hx288_3, hx288_4, hx288_5, hx288_6⟩ := at_T55 HR0.out x6_2 p288 q288; obtain rfl : ad286 = ad288 := (by injection e288); replace hx288_0 := pB_ HB.out hx288_0; replace hx288_1 := pB_ HB.out hx288_1; replace hx288_2 := pB_ HB.out hx288_2; replace hx288_3 := pB_ HB.out hx288_3; replace hx288_4 := pB_ HB.out hx288_4; replace hx288_5 := pB_ HB.out hx288_5; replace hx288_6 := pB_ HB.out hx288_6; replace p288 := eq_true p288; replace q288 := eq_true q288) | ((with_reducible refine gC_ (f := 69) rfl ?_); refine gM_ (some 26) rfl rfl Tryd.func69 (by kernel_rfl) rfl #[.slice (some ad286) l0.length c0, .int .i64 x6_2] rfl ?_; (with_reducible refine (spec_ParentOf.calls k2 _ _ l0 x6_2 t289 _ ?side1 ?side2 A19.out).mono ?_); (case side1 => repeat (first | exact (Kd.C_below HR0.out HB.out) | (with_reducible refine Kd.C_alloc ?_ _) | (with_reducible refine Kd.C_drewN ?_ _) | (with_reducible refine Kd.C_drew ?_))); (case side2 => exact HC0.out); rintro e w21 ⟨rfl, hb⟩; refine ⟨_, rfl, ?_⟩; have n0_ := Ad_.mk (bP_ (by repeat (with_reducible first | exact HB.out | apply bA_ | apply bN_ | apply b1_)) hb); clear HB; have HB := n0_; clear n0_; (try clear hb); (try clear hb2); (try clear hk); (try clear hi)))
          go_roundg k2
          case measure => have := HJ2.out; have := HK2.out; omega
          case rel => exact ⟨(x6_2), (t289), fs_, fs_, H', ⟨by have := HJ2.out; have := HK2.out; omega⟩, ⟨by repeat (with_reducible first | exact HB.out | apply bA_ | apply bN_ | apply b1_)⟩⟩
def impl_isFun.f (l0 : List (S55)) (a1 : Int) : Option (Bool) := if 0 ≤ a1 then (if a1 < (l0.length : Int) then (if ((rd_T55 l0 a1).f0) = 3 then (some true) else (some (((rd_T55 l0 a1).f0) == 6))) else (none)) else (none)
set_option maxHeartbeats 8000000 in
set_option maxRecDepth 100000 in
theorem impl_isFun.calls (A0 : Option Addr) (c0 : Nat) (l0 : List (S55)) (a1 : Int) (r : Bool) (w : World) (hr0 : Kd.C k55 w A0 l0.length l0) (hc0 : l0.length ≤ c0) (h : impl_isFun.f l0 a1 = some r) :
    Calls Tryd.prog 85 #[.slice A0 l0.length c0, .int .i64 a1] w fun e w' => e = .returned (.bool r) ∧ Drawn0 w w' := by
  have HR0 := Ad_.mk hr0
  have HC0 := Ad_.mk hc0
  clear hr0 hc0
  have H := h
  unfold impl_isFun.f at H
  clear h
  by_cases c3 : 0 ≤ a1
  rotate_left
  ·
   rw [if_neg c3] at H
   exact absurd H (by simp)
  rw [if_pos c3] at H
  have c3b0 := decide_eq_true c3
  clear c3
  by_cases c4 : a1 < (l0.length : Int)
  rotate_left
  ·
   rw [if_neg c4] at H
   exact absurd H (by simp)
  rw [if_pos c4] at H
  have c4b0 := decide_eq_true c4
  clear c4
  by_cases c5 : ((rd_T55 l0 a1).f0) = 3
  ·
   rw [if_pos c5] at H
   have c5b0 : (((rd_T55 l0 a1).f0) == 3) = true := beq_iff_eq.mpr c5
   have c5b1 : (((rd_T55 l0 a1).f0) != 3) = false := bne_eq_false_iff_eq.mpr c5
   clear c5
   obtain rfl := Option.some.inj H
   have p291 : 0 ≤ (a1 : Int) := od_
   have q291 : a1 < (l0.length : Int) := od_
   obtain ⟨ad291, e291, hx291_0, hx291_1, hx291_2, hx291_3, hx291_4, hx291_5, hx291_6⟩ := at_T55 HR0.out a1 p291 q291
   cases e291
   replace p291 := eq_true p291
   replace q291 := eq_true q291
   go_enter Tryd.func85, Tryd.ntmps85
   go_wp2
   go_ret
   exact ⟨by first | rfl | (simp; done) | (simp [*]; done), by repeat (first | exact Drawn0.refl _ | apply Drawn0.step)⟩
  rw [if_neg c5] at H
  have c5b0 : (((rd_T55 l0 a1).f0) == 3) = false := beq_eq_false_iff_ne.mpr c5
  have c5b1 : (((rd_T55 l0 a1).f0) != 3) = true := bne_iff_ne.mpr c5
  obtain rfl := Option.some.inj H
  have p291 : 0 ≤ (a1 : Int) := od_
  have q291 : a1 < (l0.length : Int) := od_
  obtain ⟨ad291, e291, hx291_0, hx291_1, hx291_2, hx291_3, hx291_4, hx291_5, hx291_6⟩ := at_T55 HR0.out a1 p291 q291
  cases e291
  replace p291 := eq_true p291
  replace q291 := eq_true q291
  have p292 : 0 ≤ (a1 : Int) := od_
  have q292 : a1 < (l0.length : Int) := od_
  obtain ⟨ad292, e292, hx292_0, hx292_1, hx292_2, hx292_3, hx292_4, hx292_5, hx292_6⟩ := at_T55 HR0.out a1 p292 q292
  obtain rfl : ad291 = ad292 := (by injection e292)
  replace p292 := eq_true p292
  replace q292 := eq_true q292
  go_enter Tryd.func85, Tryd.ntmps85
  go_wp2
  go_ret
  exact ⟨by first | rfl | (simp; done) | (simp [*]; done), by repeat (first | exact Drawn0.refl _ | apply Drawn0.step)⟩
end Go.Proofs.YtfmlamheflbgdaaDoor.PAll
end
section
namespace Go.Proofs.YtfmlamheflbgdaaDoor.PAll
open Go.RowKit Go.Proofs.YtfmlamheflbgdaaDoorW.PrintWords Go.Proofs.YtfmlamheflbgdaaDoorW.PrintLast Go.Proofs.YtfmlamheflbgdaaDoorW.PrintMore
attribute [local go_sem] max2_int min2_int max_two min_two max_three min_three max_four min_four
set_option linter.unusedVariables false
set_option linter.unusedSimpArgs false
def impl_homeOf.l0 : Nat → List (S55) → List Int → Int → Option (Int)
  | 0, _, _, _ => none
  | k + 1, x0, x1, x2 => if 0 ≤ x2 then (if x2 < (x1.length : Int) then (if (rd x1 x2) ≥ 0 then ((impl_isFun.f x0 (rd x1 x2)).bind fun t295 => (if t295 = true then (if 0 ≤ (rd x1 x2) then (if (rd x1 x2) < (x0.length : Int) then (if ((rd_T55 x0 (rd x1 x2)).f1) = x2 then (some (rd x1 x2)) else (impl_homeOf.l0 k x0 x1 (rd x1 x2))) else (none)) else (none)) else (impl_homeOf.l0 k x0 x1 (rd x1 x2)))) else (some (-1))) else (none)) else (none)
def impl_homeOf.f (k : Nat) (l0 : List (S55)) (l1 : List Int) (a2 : Int) : Option (Int) := impl_homeOf.l0 k l0 l1 a2
theorem impl_homeOf.mono_l : ∀ k, (∀ y0 y1 y2, LeO (impl_homeOf.l0 k y0 y1 y2) (impl_homeOf.l0 (k + 1) y0 y1 y2))
  | 0 => fun _ _ _ r h => by simp [impl_homeOf.l0] at h
  | k + 1 => by
    have ih0 := impl_homeOf.mono_l k
    · intro y0 y1 y2
      unfold impl_homeOf.l0
      repeat' first
      | (with_reducible exact ih0 _ _ _)
      | (with_reducible exact LeO.refl _)
      | (with_reducible exact LeO.none _)
      | (with_reducible refine LeO.ite ?_ ?_)
      | (with_reducible refine LeO.bind ?_ (fun _ => ?_))
      | exact LeO.none _
      | refine LeO.ite ?_ ?_
      | refine LeO.bind ?_ (fun _ => ?_)
theorem impl_homeOf.mono : ∀ a0 a1 a2 k, LeO (impl_homeOf.f k a0 a1 a2) (impl_homeOf.f (k + 1) a0 a1 a2) := by
  intro a0 a1 a2 k
  have ih0 := impl_homeOf.mono_l k
  unfold impl_homeOf.f
  repeat' first
      | (with_reducible exact ih0 _ _ _)
      | (with_reducible exact LeO.refl _)
      | (with_reducible exact LeO.none _)
      | (with_reducible refine LeO.ite ?_ ?_)
      | (with_reducible refine LeO.bind ?_ (fun _ => ?_))
      | exact LeO.none _
      | refine LeO.ite ?_ ?_
      | refine LeO.bind ?_ (fun _ => ?_)
set_option maxHeartbeats 8000000 in
set_option maxRecDepth 100000 in
theorem impl_homeOf.calls (k : Nat) (A0 : Option Addr) (c0 : Nat) (l0 : List (S55)) (A1 : Option Addr) (c1 : Nat) (l1 : List Int) (a2 : Int) (r : Int) (w : World) (hr0 : Kd.C k55 w A0 l0.length l0) (hc0 : l0.length ≤ c0) (hr1 : Kd.C (Kd.int .i64) w A1 l1.length l1) (hc1 : l1.length ≤ c1) (h : impl_homeOf.f k l0 l1 a2 = some r) :
    Calls Tryd.prog 72 #[.slice A0 l0.length c0, .slice A1 l1.length c1, .int .i64 a2] w fun e w' => e = .returned (.int .i64 r) ∧ Drawn0 w w' := by
  have HR0 := Ad_.mk hr0
  have HC0 := Ad_.mk hc0
  clear hr0 hc0
  have HR1 := Ad_.mk hr1
  have HC1 := Ad_.mk hc1
  clear hr1 hc1
  have H : (impl_homeOf.l0 k l0 l1 a2) = some r := h
  clear h
  have H' := Ad_.mk H
  clear H
  go_enter Tryd.func72, Tryd.ntmps72
  go_wp2
  go_loopg [2] k (fun kq v2 w' => ∃ (x2_1 : Int), v2 = .int .i64 x2_1 ∧ Ad_ (impl_homeOf.l0 kq l0 l1 x2_1 = some r) ∧ Ad_ (kq ≤ k) ∧ Drawn0 w w')
  case atStart => exact ⟨(a2), fs_, H', ⟨Nat.le_refl _⟩, by repeat (first | exact Drawn0.refl _ | apply Drawn0.step)⟩
  case round =>
    clear H'
    try clear p2
    obtain ⟨x2_1, rfl, HA, HK1, ⟨m1, rfl⟩⟩ := hrel
    cases gk with
    | zero => exact absurd HA.out (by simp [impl_homeOf.l0])
    | succ k1 =>
      have H := HA.out
      clear HA
      simp only [impl_homeOf.l0] at H
      by_cases c4 : 0 ≤ x2_1
      rotate_left
      ·
       rw [if_neg c4] at H
       exact absurd H (by simp)
      rw [if_pos c4] at H
      have c4b0 := decide_eq_true c4
      clear c4
      by_cases c5 : x2_1 < (l1.length : Int)
      rotate_left
      ·
       rw [if_neg c5] at H
       exact absurd H (by simp)
      rw [if_pos c5] at H
      have c5b0 := decide_eq_true c5
      clear c5
      by_cases c6 : (rd l1 x2_1) ≥ 0
      rotate_left
      ·
       rw [if_neg c6] at H
       have c6b0 := decide_eq_false c6
       clear c6
       obtain rfl := Option.some.inj H
       have p293 : 0 ≤ (x2_1 : Int) := od_
       have q293 : x2_1 < (l1.length : Int) := od_
       obtain ⟨ad293, e293, hx293_0⟩ := Kd.at_int HR1.out x2_1 p293 q293
       cases e293
       replace p293 := eq_true p293
       replace q293 := eq_true q293
       go_wp2
       go_ret
       exact ⟨by first | rfl | (simp; done) | (simp [*]; done), by repeat (first | exact Drawn0.refl _ | apply Drawn0.step)⟩
      rw [if_pos c6] at H
      have c6b0 := decide_eq_true c6
      clear c6
      replace H := Option.bind_eq_some_iff.mp H
      obtain ⟨t295, A70, H⟩ := H
      try dsimp only at H
      have A7 := Ad_.mk A70
      clear A70
      by_cases c8 : t295 = true
      rotate_left
      ·
       replace c8 := Bool.eq_false_iff.mpr c8
       subst c8
       have H1 : (impl_homeOf.l0 k1 l0 l1 (rd l1 x2_1)) = some r := by rw [if_neg (show ¬ (false = true) by decide)] at H; exact H
       clear H
       have H := H1
       clear H1
       have H' := Ad_.mk H
       clear H
       have p293 : 0 ≤ (x2_1 : Int) := od_
       have q293 : x2_1 < (l1.length : Int) := od_
       obtain ⟨ad293, e293, hx293_0⟩ := Kd.at_int HR1.out x2_1 p293 q293
       cases e293
       replace p293 := eq_true p293
       replace q293 := eq_true q293
       have p294 : 0 ≤ (x2_1 : Int) := od_
       have q294 : x2_1 < (l1.length : Int) := od_
       obtain ⟨ad294, e294, hx294_0⟩ := Kd.at_int HR1.out x2_1 p294 q294
       obtain rfl : ad293 = ad294 := (by injection e294)
       replace p294 := eq_true p294
       replace q294 := eq_true q294
       go_wp2_with (first | ((with_reducible refine gC_ (f := 85) rfl ?_); refine gM_ (some 19) rfl rfl Tryd.func85 (by kernel_rfl) rfl #[.slice A0 l0.length c0, .int .i64 (rd l1 x2_1)] rfl ?_; (with_reducible refine (impl_isFun.calls _ _ l0 (rd l1 x2_1) false _ ?side1 ?side2 A7.out).mono ?_); (case side1 => repeat (first | exact HR0.out | (with_reducible refine Kd.C_alloc ?_ _) | (with_reducible refine Kd.C_drewN ?_ _) | (with_reducible refine Kd.C_drew ?_))); (case side2 => exact HC0.out); rintro e w' ⟨rfl, ⟨nd, rfl⟩⟩; refine ⟨_, rfl, ?_⟩; have p298 : 0 ≤ (x2_1 : Int) := od_; have q298 : x2_1 < (l1.length : Int) := od_; obtain ⟨ad298, e298, hx298_0⟩ := Kd.at_int HR1.out x2_1 p298 q298; obtain rfl : ad293 = ad298 := (by injection e298); replace p298 := eq_true p298; replace q298 := eq_true q298))
       go_roundg k1
       case measure => have := HK1.out; omega
       case rel => exact ⟨(rd l1 x2_1), fs_, H', ⟨by have := HK1.out; omega⟩, by repeat (first | exact Drawn0.refl _ | apply Drawn0.step)⟩
      subst c8
      have H1 := H
      rw [if_pos rfl] at H1
      clear H
      have H := H1
      clear H1
      by_cases c9 : 0 ≤ (rd l1 x2_1)
      rotate_left
      ·
       rw [if_neg c9] at H
       exact absurd H (by simp)
      rw [if_pos c9] at H
      have c9b0 := decide_eq_true c9
      clear c9
      by_cases c10 : (rd l1 x2_1) < (l0.length : Int)
      rotate_left
      ·
       rw [if_neg c10] at H
       exact absurd H (by simp)
      rw [if_pos c10] at H
      have c10b0 := decide_eq_true c10
      clear c10
      by_cases c11 : ((rd_T55 l0 (rd l1 x2_1)).f1) = x2_1
      ·
       rw [if_pos c11] at H
       have c11b0 : (((rd_T55 l0 (rd l1 x2_1)).f1) == x2_1) = true := beq_iff_eq.mpr c11
       have c11b1 : (((rd_T55 l0 (rd l1 x2_1)).f1) != x2_1) = false := bne_eq_false_iff_eq.mpr c11
       clear c11
       obtain rfl := Option.some.inj H
       have p293 : 0 ≤ (x2_1 : Int) := od_
       have q293 : x2_1 < (l1.length : Int) := od_
       obtain ⟨ad293, e293, hx293_0⟩ := Kd.at_int HR1.out x2_1 p293 q293
       cases e293
       replace p293 := eq_true p293
       replace q293 := eq_true q293
       have p294 : 0 ≤ (x2_1 : Int) := od_
       have q294 : x2_1 < (l1.length : Int) := od_
       obtain ⟨ad294, e294, hx294_0⟩ := Kd.at_int HR1.out x2_1 p294 q294
       obtain rfl : ad293 = ad294 := (by injection e294)
       replace p294 := eq_true p294
       replace q294 := eq_true q294
       go_wp2_with (first | ((with_reducible refine gC_ (f := 85) rfl ?_); refine gM_ (some 19) rfl rfl Tryd.func85 (by kernel_rfl) rfl #[.slice A0 l0.length c0, .int .i64 (rd l1 x2_1)] rfl ?_; (with_reducible refine (impl_isFun.calls _ _ l0 (rd l1 x2_1) true _ ?side1 ?side2 A7.out).mono ?_); (case side1 => repeat (first | exact HR0.out | (with_reducible refine Kd.C_alloc ?_ _) | (with_reducible refine Kd.C_drewN ?_ _) | (with_reducible refine Kd.C_drew ?_))); (case side2 => exact HC0.out); rintro e w' ⟨rfl, ⟨nd, rfl⟩⟩; refine ⟨_, rfl, ?_⟩; have p296 : 0 ≤ ((rd l1 x2_1) : Int) := od_; have q296 : (rd l1 x2_1) < (l0.length : Int) := od_; obtain ⟨ad296, e296, hx296_0, hx296_1, hx296_2, hx296_3, hx296_4, hx296_5, hx296_6⟩ := at_T55 HR0.out (rd l1 x2_1) p296 q296; cases e296; replace p296 := eq_true p296; replace q296 := eq_true q296))
       go_ret
       exact ⟨by first | rfl | (simp; done) | (simp [*]; done), by repeat (first | exact Drawn0.refl _ | apply Drawn0.step)⟩
      rw [if_neg c11] at H
      have c11b0 : (((rd_T55 l0 (rd l1 x2_1)).f1) == x2_1) = false := beq_eq_false_iff_ne.mpr c11
      have c11b1 : (((rd_T55 l0 (rd l1 x2_1)).f1) != x2_1) = true := bne_iff_ne.mpr c11
      have H' := Ad_.mk H
      clear H
      have p293 : 0 ≤ (x2_1 : Int) := od_
      have q293 : x2_1 < (l1.length : Int) := od_
      obtain ⟨ad293, e293, hx293_0⟩ := Kd.at_int HR1.out x2_1 p293 q293
      cases e293
      replace p293 := eq_true p293
      replace q293 := eq_true q293
      have p294 : 0 ≤ (x2_1 : Int) := od_
      have q294 : x2_1 < (l1.length : Int) := od_
      obtain ⟨ad294, e294, hx294_0⟩ := Kd.at_int HR1.out x2_1 p294 q294
      obtain rfl : ad293 = ad294 := (by injection e294)
      replace p294 := eq_true p294
      replace q294 := eq_true q294
      go_wp2_with (first | ((with_reducible refine gC_ (f := 85) rfl ?_); refine gM_ (some 19) rfl rfl Tryd.func85 (by kernel_rfl) rfl #[.slice A0 l0.length c0, .int .i64 (rd l1 x2_1)] rfl ?_; (with_reducible refine (impl_isFun.calls _ _ l0 (rd l1 x2_1) true _ ?side1 ?side2 A7.out).mono ?_); (case side1 => repeat (first | exact HR0.out | (with_reducible refine Kd.C_alloc ?_ _) | (with_reducible refine Kd.C_drewN ?_ _) | (with_reducible refine Kd.C_drew ?_))); (case side2 => exact HC0.out); rintro e w' ⟨rfl, ⟨nd, rfl⟩⟩; refine ⟨_, rfl, ?_⟩; have p296 : 0 ≤ ((rd l1 x2_1) : Int) := od_; have q296 : (rd l1 x2_1) < (l0.length : Int) := od_; obtain ⟨ad296, e296, hx296_0, hx296_1, hx296_2, hx296_3, hx296_4, hx296_5, hx296_6⟩ := at_T55 HR0.out (rd l1 x2_1) p296 q296; cases e296; replace p296 := eq_true p296; replace q296 := eq_true q296; have p297 : 0 ≤ (x2_1 : Int) := od_; have q297 : x2_1 < (l1.length : Int) := od_; obtain ⟨ad297, e297, hx297_0⟩ := Kd.at_int HR1.out x2_1 p297 q297; obtain rfl : ad293 = ad297 := (by injection e297); replace p297 := eq_true p297; replace q297 := eq_true q297))
      go_roundg k1
      case measure => have := HK1.out; omega
      case rel => exact ⟨(rd l1 x2_1), fs_, H', ⟨by have := HK1.out; omega⟩, by repeat (first | exact Drawn0.refl _ | apply Drawn0.step)⟩
end Go.Proofs.YtfmlamheflbgdaaDoor.PAll
end
section
namespace Go.Proofs.YtfmlamheflbgdaaDoor.PAll
open Go.RowKit Go.Proofs.YtfmlamheflbgdaaDoorW.PrintWords Go.Proofs.YtfmlamheflbgdaaDoorW.PrintLast Go.Proofs.YtfmlamheflbgdaaDoorW.PrintMore
attribute [local go_sem] max2_int min2_int max_two min_two max_three min_three max_four min_four
set_option linter.unusedVariables false
set_option linter.unusedSimpArgs false
def impl_HomeOf.j0 : Nat → List (S55) → Int → Bool → Option (Int)
  | 0, _, _, _ => none
  | k + 1, x0, x1, x15 => if x15 = true then (some (-1)) else ((impl_parents.f k x0).bind fun t312 => ((impl_homeOf.f k x0 t312 x1).bind fun t315 => (some t315)))
def impl_HomeOf.f (k : Nat) (l0 : List (S55)) (a1 : Int) : Option (Int) := (impl_NodesOk.f k l0).bind fun t310 => (if t310 = true then ((impl_in.f a1 0 (wrap64 ((l0.length : Int) - 1))).bind fun t311 => (impl_HomeOf.j0 k l0 a1 (!t311))) else (impl_HomeOf.j0 k l0 a1 true))
theorem impl_HomeOf.mono_l : ∀ k, (∀ y0 y1 y2, LeO (impl_HomeOf.j0 k y0 y1 y2) (impl_HomeOf.j0 (k + 1) y0 y1 y2))
  | 0 => fun _ _ _ r h => by simp [impl_HomeOf.j0] at h
  | k + 1 => by
    have ih0 := impl_HomeOf.mono_l k
    · intro y0 y1 y2
      unfold impl_HomeOf.j0
      repeat' first
      | (with_reducible exact ih0 _ _ _)
      | (with_reducible exact impl_NodesOk.mono _ _)
      | (with_reducible exact impl_homeOf.mono _ _ _ _)
      | (with_reducible exact impl_parents.mono _ _)
      | (with_reducible exact LeO.refl _)
      | (with_reducible exact LeO.none _)
      | (with_reducible refine LeO.ite ?_ ?_)
      | (with_reducible refine LeO.bind ?_ (fun _ => ?_))
      | exact LeO.none _
      | refine LeO.ite ?_ ?_
      | refine LeO.bind ?_ (fun _ => ?_)
theorem impl_HomeOf.mono : ∀ a0 a1 k, LeO (impl_HomeOf.f k a0 a1) (impl_HomeOf.f (k + 1) a0 a1) := by
  intro a0 a1 k
  have ih0 := impl_HomeOf.mono_l k
  unfold impl_HomeOf.f
  repeat' first
      | (with_reducible exact ih0 _ _ _)
      | (with_reducible exact impl_NodesOk.mono _ _)
      | (with_reducible exact impl_homeOf.mono _ _ _ _)
      | (with_reducible exact impl_parents.mono _ _)
      | (with_reducible exact LeO.refl _)
      | (with_reducible exact LeO.none _)
      | (with_reducible refine LeO.ite ?_ ?_)
      | (with_reducible refine LeO.bind ?_ (fun _ => ?_))
      | exact LeO.none _
      | refine LeO.ite ?_ ?_
      | refine LeO.bind ?_ (fun _ => ?_)
set_option maxHeartbeats 8000000 in
set_option maxRecDepth 100000 in
theorem impl_HomeOf.calls (k : Nat) (A0 : Option Addr) (c0 : Nat) (l0 : List (S55)) (a1 : Int) (r : Int) (w : World) (hr0 : Kd.C k55 w A0 l0.length l0) (hc0 : l0.length ≤ c0) (h : impl_HomeOf.f k l0 a1 = some r) :
    Calls Tryd.prog 20 #[.slice A0 l0.length c0, .int .i64 a1] w fun e w' => e = .returned (.int .i64 r) ∧ Below w.heap.size w w' := by
  have HR0 := Ad_.mk hr0
  have HC0 := Ad_.mk hc0
  clear hr0 hc0
  have HB := Ad_.mk (Below.refl w.heap.size w)
  have H := h
  unfold impl_HomeOf.f at H
  clear h
  have HC3 := Ad_.mk H
  clear H
  go_enter Tryd.func20, Tryd.ntmps20
  go_upto_region 1 with (fail)
  go_cut [15] (fun v15 wc => ∃ (kq : Nat) (x15_2 : Bool), v15 = .bool x15_2 ∧ Ad_ (impl_HomeOf.j0 kq l0 a1 x15_2 = some r) ∧ Ad_ (kq ≤ k) ∧ Ad_ (Below w.heap.size w wc))
  case first =>
    have H := HC3.out
    clear HC3
    replace H := Option.bind_eq_some_iff.mp H
    obtain ⟨t310, A40, H⟩ := H
    try dsimp only at H
    have A4 := Ad_.mk A40
    clear A40
    by_cases c5 : t310 = true
    rotate_left
    ·
     replace c5 := Bool.eq_false_iff.mpr c5
     subst c5
     have H1 : (impl_HomeOf.j0 k l0 a1 true) = some r := by rw [if_neg (show ¬ (false = true) by decide)] at H; exact H
     clear H
     have H := H1
     clear H1
     have H' := Ad_.mk H
     clear H
     go_wp2_with (first | ((with_reducible refine gC_ (f := 48) rfl ?_); refine gM_ (some 6) rfl rfl Tryd.func48 (by kernel_rfl) rfl #[.slice A0 l0.length c0] rfl ?_; (with_reducible refine (impl_NodesOk.calls k _ _ l0 false _ ?side1 ?side2 A4.out).mono ?_); (case side1 => repeat (first | exact (Kd.C_below HR0.out HB.out) | (with_reducible refine Kd.C_alloc ?_ _) | (with_reducible refine Kd.C_drewN ?_ _) | (with_reducible refine Kd.C_drew ?_))); (case side2 => exact HC0.out); rintro e w8 ⟨rfl, hb⟩; refine ⟨_, rfl, ?_⟩; have n0_ := Ad_.mk (bP_ (by repeat (with_reducible first | exact HB.out | apply bA_ | apply bN_ | apply b1_)) hb); clear HB; have HB := n0_; clear n0_; (try clear hb); (try clear hb2); (try clear hk); (try clear hi)))
     go_meet
     case rel => exact ⟨_, (true), fs_, H', ⟨by first | omega | exact Nat.le_refl _⟩, ⟨by repeat (with_reducible first | exact HB.out | apply bA_ | apply bN_ | apply b1_)⟩⟩
    subst c5
    have H1 := H
    rw [if_pos rfl] at H1
    clear H
    have H := H1
    clear H1
    replace H := Option.bind_eq_some_iff.mp H
    obtain ⟨t311, A60, H⟩ := H
    replace H : (impl_HomeOf.j0 k l0 a1 (!t311)) = some r := H
    have A6 := Ad_.mk A60
    clear A60
    have H' := Ad_.mk H
    clear H
    go_wp2_with (first | ((with_reducible refine gC_ (f := 48) rfl ?_); refine gM_ (some 6) rfl rfl Tryd.func48 (by kernel_rfl) rfl #[.slice A0 l0.length c0] rfl ?_; (with_reducible refine (impl_NodesOk.calls k _ _ l0 true _ ?side1 ?side2 A4.out).mono ?_); (case side1 => repeat (first | exact (Kd.C_below HR0.out HB.out) | (with_reducible refine Kd.C_alloc ?_ _) | (with_reducible refine Kd.C_drewN ?_ _) | (with_reducible refine Kd.C_drew ?_))); (case side2 => exact HC0.out); rintro e w7 ⟨rfl, hb⟩; refine ⟨_, rfl, ?_⟩; have n0_ := Ad_.mk (bP_ (by repeat (with_reducible first | exact HB.out | apply bA_ | apply bN_ | apply b1_)) hb); clear HB; have HB := n0_; clear n0_; (try clear hb); (try clear hb2); (try clear hk); (try clear hi)) | (go_at_call 71; (with_reducible refine (impl_in.calls a1 0 (wrap64 ((l0.length : Int) - 1)) t311 _ A6.out).mono ?_); rintro e w' ⟨rfl, ⟨nd, rfl⟩⟩))
    go_meet
    case rel => exact ⟨_, (!t311), fs_, H', ⟨by first | omega | exact Nat.le_refl _⟩, ⟨by repeat (with_reducible first | exact HB.out | apply bA_ | apply bN_ | apply b1_)⟩⟩
  case rest =>
    clear HC3
    try clear p2
    try clear p6
    obtain ⟨kq, x15_2, rfl, HA, HJ2, HB⟩ := hcut
    cases kq with
    | zero => exact absurd HA.out (by simp [impl_HomeOf.j0])
    | succ kj2 =>
      have H := HA.out
      clear HA
      simp only [impl_HomeOf.j0] at H
      by_cases c9 : x15_2 = true
      ·
       subst c9
       have H1 : (some (-1)) = some r := by rw [if_pos rfl] at H; exact H
       clear H
       have H := H1
       clear H1
       obtain rfl := Option.some.inj H
       go_wp2
       go_ret
       exact ⟨by first | rfl | (simp [errW_none, errW_some] <;> rfl) | (simp [*, errW_none, errW_some] <;> rfl), by repeat (with_reducible first | exact HB.out | apply bA_ | apply bN_ | apply b1_)⟩
      replace c9 := Bool.eq_false_iff.mpr c9
      subst c9
      have H1 : ((impl_parents.f kj2 l0).bind fun t312 => ((impl_homeOf.f kj2 l0 t312 a1).bind fun t315 => (some t315))) = some r := by rw [if_neg (show ¬ (false = true) by decide)] at H; exact H
      clear H
      have H := H1
      clear H1
      replace H := Option.bind_eq_some_iff.mp H
      obtain ⟨t312, A100, H⟩ := H
      try dsimp only at H
      have A10 := Ad_.mk A100
      clear A100
      replace H := Option.bind_eq_some_iff.mp H
      obtain ⟨t315, A110, H⟩ := H
      replace H : (some t315) = some r := H
      have A11 := Ad_.mk A110
      clear A110
      obtain rfl := Option.some.inj H
      go_wp2_with (first | ((with_reducible refine gC_ (f := 73) rfl ?_); refine gM_ (some 18) rfl rfl Tryd.func73 (by kernel_rfl) rfl #[.slice A0 l0.length c0] rfl ?_; (with_reducible refine (impl_parents.calls kj2 _ _ l0 t312 _ ?side1 ?side2 A10.out).mono ?_); (case side1 => repeat (first | exact (Kd.C_below HR0.out HB.out) | (with_reducible refine Kd.C_alloc ?_ _) | (with_reducible refine Kd.C_drewN ?_ _) | (with_reducible refine Kd.C_drew ?_))); (case side2 => exact HC0.out); rintro e w12 ⟨v313, rfl, ho0, hb⟩; refine ⟨_, rfl, ?_⟩; have n0_ := Ad_.mk (Kd.R_lower ho0 (bZ_ (by repeat (with_reducible first | exact HB.out | apply bA_ | apply bN_ | apply b1_)))); have n1_ := Ad_.mk (bP_ (by repeat (with_reducible first | exact HB.out | apply bA_ | apply bN_ | apply b1_)) hb); clear HB; have HO314 := n0_; have HB := n1_; clear n0_ n1_; (try clear hb); (try clear hb2); (try clear hk); (try clear hi); (try clear ho0); obtain ⟨Ao13, co13, eo13⟩ := Kd.R_slice HO314.out; subst eo13) | ((with_reducible refine gC_ (f := 72) rfl ?_); refine gM_ (some 20) rfl rfl Tryd.func72 (by kernel_rfl) rfl #[.slice A0 l0.length c0, .slice Ao13 t312.length co13, .int .i64 a1] rfl ?_; (with_reducible refine (impl_homeOf.calls kj2 _ _ l0 _ _ t312 a1 t315 _ ?side1 ?side2 ?side3 ?side4 A11.out).mono ?_); (case side1 => repeat (first | exact (Kd.C_below HR0.out HB.out) | (with_reducible refine Kd.C_alloc ?_ _) | (with_reducible refine Kd.C_drewN ?_ _) | (with_reducible refine Kd.C_drew ?_))); (case side2 => exact HC0.out); (case side3 => repeat (first | exact (Kd.R_reads' HO314.out).2.2 | (with_reducible refine Kd.C_alloc ?_ _) | (with_reducible refine Kd.C_drewN ?_ _) | (with_reducible refine Kd.C_drew ?_))); (case side4 => exact (Kd.R_reads' HO314.out).2.1); rintro e w' ⟨rfl, ⟨nd, rfl⟩⟩; refine ⟨_, rfl, ?_⟩))
      go_ret
      exact ⟨by first | rfl | (simp [errW_none, errW_some] <;> rfl) | (simp [*, errW_none, errW_some] <;> rfl), by repeat (with_reducible first | exact HB.out | apply bA_ | apply bN_ | apply b1_)⟩
def laws_FnExactHomeOf.f (k : Nat) (l0 : List (S62)) (a1 : Int) : Option (Bool) := (laws_szNodeS.f k l0 1048576).bind fun t316 => (if t316 < 0 then (some true) else ((laws_toNodeS.f k l0).bind fun t317 => ((spec_HomeOf.f k t317 a1).bind fun t320 => ((laws_toNodeS.f k l0).bind fun t321 => ((impl_HomeOf.f k t321 a1).bind fun t324 => (if t324 = t320 then ((laws_toNodeS.f k l0).bind fun t325 => ((laws_eqNodeS.f k t321 t325).bind fun t328 => (if t328 = true then (some true) else (some false)))) else (some false)))))))
theorem laws_FnExactHomeOf.mono : ∀ a0 a1 k, LeO (laws_FnExactHomeOf.f k a0 a1) (laws_FnExactHomeOf.f (k + 1) a0 a1) := by
  intro a0 a1 k
  unfold laws_FnExactHomeOf.f
  repeat' first
      | (with_reducible exact impl_HomeOf.mono _ _ _)
      | (with_reducible exact laws_eqNodeS.mono _ _ _)
      | (with_reducible exact laws_szNodeS.mono _ _ _)
      | (with_reducible exact laws_toNodeS.mono _ _)
      | (with_reducible exact spec_HomeOf.mono _ _ _)
      | (with_reducible exact LeO.refl _)
      | (with_reducible exact LeO.none _)
      | (with_reducible refine LeO.ite ?_ ?_)
      | (with_reducible refine LeO.bind ?_ (fun _ => ?_))
      | exact LeO.none _
      | refine LeO.ite ?_ ?_
      | refine LeO.bind ?_ (fun _ => ?_)
set_option maxHeartbeats 8000000 in
set_option maxRecDepth 100000 in
theorem laws_FnExactHomeOf.calls (k : Nat) (A0 : Option Addr) (c0 : Nat) (l0 : List (S62)) (a1 : Int) (r : Bool) (w : World) (hr0 : Kd.C k62 w A0 l0.length l0) (hc0 : l0.length ≤ c0) (h : laws_FnExactHomeOf.f k l0 a1 = some r) :
    Calls Tryd.prog 4 #[.slice A0 l0.length c0, .int .i64 a1] w fun e w' => e = .returned (.bool r) ∧ Below w.heap.size w w' := by
  have HR0 := Ad_.mk hr0
  have HC0 := Ad_.mk hc0
  clear hr0 hc0
  have HB := Ad_.mk (Below.refl w.heap.size w)
  have H := h
  unfold laws_FnExactHomeOf.f at H
  clear h
  replace H := Option.bind_eq_some_iff.mp H
  obtain ⟨t316, A30, H⟩ := H
  try dsimp only at H
  have A3 := Ad_.mk A30
  clear A30
  by_cases c4 : t316 < 0
  ·
   rw [if_pos c4] at H
   have c4b0 := decide_eq_true c4
   clear c4
   obtain rfl := Option.some.inj H
   go_enter Tryd.func4, Tryd.ntmps4
   go_wp2_with (first | ((with_reducible refine gC_ (f := 14) rfl ?_); refine gM_ (some 11) rfl rfl Tryd.func14 (by kernel_rfl) rfl #[.slice A0 l0.length c0, .int .i64 1048576] rfl ?_; (with_reducible refine (laws_szNodeS.calls k _ _ l0 1048576 t316 _ ?side1 ?side2 A3.out).mono ?_); (case side1 => repeat (first | exact HR0.out | (with_reducible refine Kd.C_alloc ?_ _) | (with_reducible refine Kd.C_drewN ?_ _) | (with_reducible refine Kd.C_drew ?_))); (case side2 => exact HC0.out); rintro e w5 ⟨rfl, hb⟩; refine ⟨_, rfl, ?_⟩; have n0_ := Ad_.mk (bP_ (by repeat (with_reducible first | exact HB.out | apply bA_ | apply bN_ | apply b1_)) hb); clear HB; have HB := n0_; clear n0_; (try clear hb); (try clear hb2); (try clear hk); (try clear hi)))
   go_ret
   exact ⟨by first | rfl | (simp [errW_none, errW_some] <;> rfl) | (simp [*, errW_none, errW_some] <;> rfl), by repeat (with_reducible first | exact HB.out | apply bA_ | apply bN_ | apply b1_)⟩
  rw [if_neg c4] at H
  have c4b0 := decide_eq_false c4
  clear c4
  replace H := Option.bind_eq_some_iff.mp H
  obtain ⟨t317, A60, H⟩ := H
  try dsimp only at H
  have A6 := Ad_.mk A60
  clear A60
  replace H := Option.bind_eq_some_iff.mp H
  obtain ⟨t320, A70, H⟩ := H
  try dsimp only at H
  have A7 := Ad_.mk A70
  clear A70
  replace H := Option.bind_eq_some_iff.mp H
  obtain ⟨t321, A80, H⟩ := H
  try dsimp only at H
  have A8 := Ad_.mk A80
  clear A80
  replace H := Option.bind_eq_some_iff.mp H
  obtain ⟨t324, A90, H⟩ := H
  try dsimp only at H
  have A9 := Ad_.mk A90
  clear A90
  by_cases c10 : t324 = t320
  rotate_left
  ·
   rw [if_neg c10] at H
   have c10b0 : (t324 == t320) = false := beq_eq_false_iff_ne.mpr c10
   have c10b1 : (t324 != t320) = true := bne_iff_ne.mpr c10
   obtain rfl := Option.some.inj H
   go_enter Tryd.func4, Tryd.ntmps4
   go_wp2_with (first | ((with_reducible refine gC_ (f := 14) rfl ?_); refine gM_ (some 11) rfl rfl Tryd.func14 (by kernel_rfl) rfl #[.slice A0 l0.length c0, .int .i64 1048576] rfl ?_; (with_reducible refine (laws_szNodeS.calls k _ _ l0 1048576 t316 _ ?side1 ?side2 A3.out).mono ?_); (case side1 => repeat (first | exact HR0.out | (with_reducible refine Kd.C_alloc ?_ _) | (with_reducible refine Kd.C_drewN ?_ _) | (with_reducible refine Kd.C_drew ?_))); (case side2 => exact HC0.out); rintro e w34 ⟨rfl, hb⟩; refine ⟨_, rfl, ?_⟩; have n0_ := Ad_.mk (bP_ (by repeat (with_reducible first | exact HB.out | apply bA_ | apply bN_ | apply b1_)) hb); clear HB; have HB := n0_; clear n0_; (try clear hb); (try clear hb2); (try clear hk); (try clear hi)) | ((with_reducible refine gC_ (f := 16) rfl ?_); refine gM_ (some 15) rfl rfl Tryd.func16 (by kernel_rfl) rfl #[.slice A0 l0.length c0] rfl ?_; (with_reducible refine (laws_toNodeS.calls k _ _ l0 t317 _ ?side1 ?side2 A6.out).mono ?_); (case side1 => repeat (first | exact (Kd.C_below HR0.out HB.out) | (with_reducible refine Kd.C_alloc ?_ _) | (with_reducible refine Kd.C_drewN ?_ _) | (with_reducible refine Kd.C_drew ?_))); (case side2 => exact HC0.out); rintro e w35 ⟨v318, rfl, ho0, hb⟩; refine ⟨_, rfl, ?_⟩; have n0_ := Ad_.mk (Kd.R_lower ho0 (bZ_ (by repeat (with_reducible first | exact HB.out | apply bA_ | apply bN_ | apply b1_)))); have n1_ := Ad_.mk (bP_ (by repeat (with_reducible first | exact HB.out | apply bA_ | apply bN_ | apply b1_)) hb); clear HB; have HO319 := n0_; have HB := n1_; clear n0_ n1_; (try clear hb); (try clear hb2); (try clear hk); (try clear hi); (try clear ho0); obtain ⟨Ao36, co36, eo36⟩ := Kd.R_slice HO319.out; subst eo36) | ((with_reducible refine gC_ (f := 19) rfl ?_); refine gM_ (some 17) rfl rfl Tryd.func19 (by kernel_rfl) rfl #[.slice Ao36 t317.length co36, .int .i64 a1] rfl ?_; (with_reducible refine (spec_HomeOf.calls k _ _ t317 a1 t320 _ ?side1 ?side2 A7.out).mono ?_); (case side1 => repeat (first | exact (Kd.R_reads' HO319.out).2.2 | (with_reducible refine Kd.C_alloc ?_ _) | (with_reducible refine Kd.C_drewN ?_ _) | (with_reducible refine Kd.C_drew ?_))); (case side2 => exact (Kd.R_reads' HO319.out).2.1); rintro e w37 ⟨rfl, hb⟩; refine ⟨_, rfl, ?_⟩; have n0_ := Ad_.mk (Kd.R_below (by (with_reducible repeat (first | apply Kd.R_alloc | apply Kd.R_drewN | apply Kd.R_drew)); exact HO319.out) hb); have n1_ := Ad_.mk (bP_ (by repeat (with_reducible first | exact HB.out | apply bA_ | apply bN_ | apply b1_)) hb); clear HO319; clear HB; have HO319 := n0_; have HB := n1_; clear n0_ n1_; (try clear hb); (try clear hb2); (try clear hk); (try clear hi)) | ((with_reducible refine gC_ (f := 16) rfl ?_); refine gM_ (some 19) rfl rfl Tryd.func16 (by kernel_rfl) rfl #[.slice A0 l0.length c0] rfl ?_; (with_reducible refine (laws_toNodeS.calls k _ _ l0 t321 _ ?side1 ?side2 A8.out).mono ?_); (case side1 => repeat (first | exact (Kd.C_below HR0.out HB.out) | (with_reducible refine Kd.C_alloc ?_ _) | (with_reducible refine Kd.C_drewN ?_ _) | (with_reducible refine Kd.C_drew ?_))); (case side2 => exact HC0.out); rintro e w38 ⟨v322, rfl, ho0, hb⟩; refine ⟨_, rfl, ?_⟩; have n0_ := Ad_.mk (Kd.R_elder' (by (with_reducible repeat (first | apply Kd.R_alloc | apply Kd.R_drewN | apply Kd.R_drew)); exact HO319.out) (Kd.R_base ho0) hb); have n1_ := Ad_.mk (Kd.R_lower (Kd.R_new' ho0 (Kd.R_lt (by (with_reducible repeat (first | apply Kd.R_alloc | apply Kd.R_drewN | apply Kd.R_drew)); exact HO319.out))) (bZ_ (by repeat (with_reducible first | exact HB.out | apply bA_ | apply bN_ | apply b1_)))); have n2_ := Ad_.mk (bP_ (by repeat (with_reducible first | exact HB.out | apply bA_ | apply bN_ | apply b1_)) hb); clear HO319; clear HB; have HO319 := n0_; have HO323 := n1_; have HB := n2_; clear n0_ n1_ n2_; (try clear hb); (try clear hb2); (try clear hk); (try clear hi); (try clear ho0); obtain ⟨Ao39, co39, eo39⟩ := Kd.R_slice HO323.out; subst eo39) | ((with_reducible refine gC_ (f := 20) rfl ?_); refine gM_ (some 22) rfl rfl Tryd.func20 (by kernel_rfl) rfl #[.slice Ao39 t321.length co39, .int .i64 a1] rfl ?_; (with_reducible refine (impl_HomeOf.calls k _ _ t321 a1 t324 _ ?side1 ?side2 A9.out).mono ?_); (case side1 => repeat (first | exact (Kd.R_reads' HO323.out).2.2 | (with_reducible refine Kd.C_alloc ?_ _) | (with_reducible refine Kd.C_drewN ?_ _) | (with_reducible refine Kd.C_drew ?_))); (case side2 => exact (Kd.R_reads' HO323.out).2.1); rintro e w40 ⟨rfl, hb⟩; refine ⟨_, rfl, ?_⟩; have n0_ := Ad_.mk (Kd.R_below (by (with_reducible repeat (first | apply Kd.R_alloc | apply Kd.R_drewN | apply Kd.R_drew)); exact HO319.out) hb); have n1_ := Ad_.mk (Kd.R_below (by (with_reducible repeat (first | apply Kd.R_alloc | apply Kd.R_drewN | apply Kd.R_drew)); exact HO323.out) hb); have n2_ := Ad_.mk (bP_ (by repeat (with_reducible first | exact HB.out | apply bA_ | apply bN_ | apply b1_)) hb); clear HO319; clear HO323; clear HB; have HO319 := n0_; have HO323 := n1_; have HB := n2_; clear n0_ n1_ n2_; (try clear hb); (try clear hb2); (try clear hk); (try clear hi)))
   go_ret
   exact ⟨by first | rfl | (simp [errW_none, errW_some] <;> rfl) | (simp [*, errW_none, errW_some] <;> rfl), by repeat (with_reducible first | exact HB.out | apply bA_ | apply bN_ | apply b1_)⟩
  rw [if_pos c10] at H
  have c10b0 : (t324 == t320) = true := beq_iff_eq.mpr c10
  have c10b1 : (t324 != t320) = false := bne_eq_false_iff_eq.mpr c10
  clear c10
  replace H := Option.bind_eq_some_iff.mp H
  obtain ⟨t325, A110, H⟩ := H
  try dsimp only at H
  have A11 := Ad_.mk A110
  clear A110
  replace H := Option.bind_eq_some_iff.mp H
  obtain ⟨t328, A120, H⟩ := H
  try dsimp only at H
  have A12 := Ad_.mk A120
  clear A120
  by_cases c13 : t328 = true
  ·
   subst c13
   have H1 : (some true) = some r := by rw [if_pos rfl] at H; exact H
   clear H
   have H := H1
   clear H1
   obtain rfl := Option.some.inj H
   go_enter Tryd.func4, Tryd.ntmps4
   go_wp2_with (first | ((with_reducible refine gC_ (f := 14) rfl ?_); refine gM_ (some 11) rfl rfl Tryd.func14 (by kernel_rfl) rfl #[.slice A0 l0.length c0, .int .i64 1048576] rfl ?_; (with_reducible refine (laws_szNodeS.calls k _ _ l0 1048576 t316 _ ?side1 ?side2 A3.out).mono ?_); (case side1 => repeat (first | exact HR0.out | (with_reducible refine Kd.C_alloc ?_ _) | (with_reducible refine Kd.C_drewN ?_ _) | (with_reducible refine Kd.C_drew ?_))); (case side2 => exact HC0.out); rintro e w14 ⟨rfl, hb⟩; refine ⟨_, rfl, ?_⟩; have n0_ := Ad_.mk (bP_ (by repeat (with_reducible first | exact HB.out | apply bA_ | apply bN_ | apply b1_)) hb); clear HB; have HB := n0_; clear n0_; (try clear hb); (try clear hb2); (try clear hk); (try clear hi)) | ((with_reducible refine gC_ (f := 16) rfl ?_); refine gM_ (some 15) rfl rfl Tryd.func16 (by kernel_rfl) rfl #[.slice A0 l0.length c0] rfl ?_; (with_reducible refine (laws_toNodeS.calls k _ _ l0 t317 _ ?side1 ?side2 A6.out).mono ?_); (case side1 => repeat (first | exact (Kd.C_below HR0.out HB.out) | (with_reducible refine Kd.C_alloc ?_ _) | (with_reducible refine Kd.C_drewN ?_ _) | (with_reducible refine Kd.C_drew ?_))); (case side2 => exact HC0.out); rintro e w15 ⟨v318, rfl, ho0, hb⟩; refine ⟨_, rfl, ?_⟩; have n0_ := Ad_.mk (Kd.R_lower ho0 (bZ_ (by repeat (with_reducible first | exact HB.out | apply bA_ | apply bN_ | apply b1_)))); have n1_ := Ad_.mk (bP_ (by repeat (with_reducible first | exact HB.out | apply bA_ | apply bN_ | apply b1_)) hb); clear HB; have HO319 := n0_; have HB := n1_; clear n0_ n1_; (try clear hb); (try clear hb2); (try clear hk); (try clear hi); (try clear ho0); obtain ⟨Ao16, co16, eo16⟩ := Kd.R_slice HO319.out; subst eo16) | ((with_reducible refine gC_ (f := 19) rfl ?_); refine gM_ (some 17) rfl rfl Tryd.func19 (by kernel_rfl) rfl #[.slice Ao16 t317.length co16, .int .i64 a1] rfl ?_; (with_reducible refine (spec_HomeOf.calls k _ _ t317 a1 t320 _ ?side1 ?side2 A7.out).mono ?_); (case side1 => repeat (first | exact (Kd.R_reads' HO319.out).2.2 | (with_reducible refine Kd.C_alloc ?_ _) | (with_reducible refine Kd.C_drewN ?_ _) | (with_reducible refine Kd.C_drew ?_))); (case side2 => exact (Kd.R_reads' HO319.out).2.1); rintro e w17 ⟨rfl, hb⟩; refine ⟨_, rfl, ?_⟩; have n0_ := Ad_.mk (Kd.R_below (by (with_reducible repeat (first | apply Kd.R_alloc | apply Kd.R_drewN | apply Kd.R_drew)); exact HO319.out) hb); have n1_ := Ad_.mk (bP_ (by repeat (with_reducible first | exact HB.out | apply bA_ | apply bN_ | apply b1_)) hb); clear HO319; clear HB; have HO319 := n0_; have HB := n1_; clear n0_ n1_; (try clear hb); (try clear hb2); (try clear hk); (try clear hi)) | ((with_reducible refine gC_ (f := 16) rfl ?_); refine gM_ (some 19) rfl rfl Tryd.func16 (by kernel_rfl) rfl #[.slice A0 l0.length c0] rfl ?_; (with_reducible refine (laws_toNodeS.calls k _ _ l0 t321 _ ?side1 ?side2 A8.out).mono ?_); (case side1 => repeat (first | exact (Kd.C_below HR0.out HB.out) | (with_reducible refine Kd.C_alloc ?_ _) | (with_reducible refine Kd.C_drewN ?_ _) | (with_reducible refine Kd.C_drew ?_))); (case side2 => exact HC0.out); rintro e w18 ⟨v322, rfl, ho0, hb⟩; refine ⟨_, rfl, ?_⟩; have n0_ := Ad_.mk (Kd.R_elder' (by (with_reducible repeat (first | apply Kd.R_alloc | apply Kd.R_drewN | apply Kd.R_drew)); exact HO319.out) (Kd.R_base ho0) hb); have n1_ := Ad_.mk (Kd.R_lower (Kd.R_new' ho0 (Kd.R_lt (by (with_reducible repeat (first | apply Kd.R_alloc | apply Kd.R_drewN | apply Kd.R_drew)); exact HO319.out))) (bZ_ (by repeat (with_reducible first | exact HB.out | apply bA_ | apply bN_ | apply b1_)))); have n2_ := Ad_.mk (bP_ (by repeat (with_reducible first | exact HB.out | apply bA_ | apply bN_ | apply b1_)) hb); clear HO319; clear HB; have HO319 := n0_; have HO323 := n1_; have HB := n2_; clear n0_ n1_ n2_; (try clear hb); (try clear hb2); (try clear hk); (try clear hi); (try clear ho0); obtain ⟨Ao19, co19, eo19⟩ := Kd.R_slice HO323.out; subst eo19) | ((with_reducible refine gC_ (f := 20) rfl ?_); refine gM_ (some 22) rfl rfl Tryd.func20 (by kernel_rfl) rfl #[.slice Ao19 t321.length co19, .int .i64 a1] rfl ?_; (with_reducible refine (impl_HomeOf.calls k _ _ t321 a1 t324 _ ?side1 ?side2 A9.out).mono ?_); (case side1 => repeat (first | exact (Kd.R_reads' HO323.out).2.2 | (with_reducible refine Kd.C_alloc ?_ _) | (with_reducible refine Kd.C_drewN ?_ _) | (with_reducible refine Kd.C_drew ?_))); (case side2 => exact (Kd.R_reads' HO323.out).2.1); rintro e w20 ⟨rfl, hb⟩; refine ⟨_, rfl, ?_⟩; have n0_ := Ad_.mk (Kd.R_below (by (with_reducible repeat (first | apply Kd.R_alloc | apply Kd.R_drewN | apply Kd.R_drew)); exact HO319.out) hb); have n1_ := Ad_.mk (Kd.R_below (by (with_reducible repeat (first | apply Kd.R_alloc | apply Kd.R_drewN | apply Kd.R_drew)); exact HO323.out) hb); have n2_ := Ad_.mk (bP_ (by repeat (with_reducible first | exact HB.out | apply bA_ | apply bN_ | apply b1_)) hb); clear HO319; clear HO323; clear HB; have HO319 := n0_; have HO323 := n1_; have HB := n2_; clear n0_ n1_ n2_; (try clear hb); (try clear hb2); (try clear hk); (try clear hi)) | ((with_reducible refine gC_ (f := 16) rfl ?_); refine gM_ (some 28) rfl rfl Tryd.func16 (by kernel_rfl) rfl #[.slice A0 l0.length c0] rfl ?_; (with_reducible refine (laws_toNodeS.calls k _ _ l0 t325 _ ?side1 ?side2 A11.out).mono ?_); (case side1 => repeat (first | exact (Kd.C_below HR0.out HB.out) | (with_reducible refine Kd.C_alloc ?_ _) | (with_reducible refine Kd.C_drewN ?_ _) | (with_reducible refine Kd.C_drew ?_))); (case side2 => exact HC0.out); rintro e w21 ⟨v326, rfl, ho0, hb⟩; refine ⟨_, rfl, ?_⟩; have n0_ := Ad_.mk (Kd.R_elder' (by (with_reducible repeat (first | apply Kd.R_alloc | apply Kd.R_drewN | apply Kd.R_drew)); exact HO319.out) (Kd.R_base ho0) hb); have n1_ := Ad_.mk (Kd.R_elder' (by (with_reducible repeat (first | apply Kd.R_alloc | apply Kd.R_drewN | apply Kd.R_drew)); exact HO323.out) (Kd.R_base ho0) hb); have n2_ := Ad_.mk (Kd.R_lower (Kd.R_new' (Kd.R_new' ho0 (Kd.R_lt (by (with_reducible repeat (first | apply Kd.R_alloc | apply Kd.R_drewN | apply Kd.R_drew)); exact HO319.out))) (Kd.R_lt (by (with_reducible repeat (first | apply Kd.R_alloc | apply Kd.R_drewN | apply Kd.R_drew)); exact HO323.out))) (bZ_ (by repeat (with_reducible first | exact HB.out | apply bA_ | apply bN_ | apply b1_)))); have n3_ := Ad_.mk (bP_ (by repeat (with_reducible first | exact HB.out | apply bA_ | apply bN_ | apply b1_)) hb); clear HO319; clear HO323; clear HB; have HO319 := n0_; have HO323 := n1_; have HO327 := n2_; have HB := n3_; clear n0_ n1_ n2_ n3_; (try clear hb); (try clear hb2); (try clear hk); (try clear hi); (try clear ho0); obtain ⟨Ao22, co22, eo22⟩ := Kd.R_slice HO327.out; subst eo22) | ((with_reducible refine gC_ (f := 18) rfl ?_); refine gM_ (some 29) rfl rfl Tryd.func18 (by kernel_rfl) rfl #[.slice Ao19 t321.length co19, .slice Ao22 t325.length co22] rfl ?_; (with_reducible refine (laws_eqNodeS.calls k _ _ t321 _ _ t325 true _ ?side1 ?side2 ?side3 ?side4 A12.out).mono ?_); (case side1 => repeat (first | exact (Kd.R_reads' HO323.out).2.2 | (with_reducible refine Kd.C_alloc ?_ _) | (with_reducible refine Kd.C_drewN ?_ _) | (with_reducible refine Kd.C_drew ?_))); (case side2 => exact (Kd.R_reads' HO323.out).2.1); (case side3 => repeat (first | exact (Kd.R_reads' HO327.out).2.2 | (with_reducible refine Kd.C_alloc ?_ _) | (with_reducible refine Kd.C_drewN ?_ _) | (with_reducible refine Kd.C_drew ?_))); (case side4 => exact (Kd.R_reads' HO327.out).2.1); rintro e w23 ⟨rfl, hb⟩; refine ⟨_, rfl, ?_⟩; have n0_ := Ad_.mk (Kd.R_below (by (with_reducible repeat (first | apply Kd.R_alloc | apply Kd.R_drewN | apply Kd.R_drew)); exact HO319.out) hb); have n1_ := Ad_.mk (Kd.R_below (by (with_reducible repeat (first | apply Kd.R_alloc | apply Kd.R_drewN | apply Kd.R_drew)); exact HO323.out) hb); have n2_ := Ad_.mk (Kd.R_below (by (with_reducible repeat (first | apply Kd.R_alloc | apply Kd.R_drewN | apply Kd.R_drew)); exact HO327.out) hb); have n3_ := Ad_.mk (bP_ (by repeat (with_reducible first | exact HB.out | apply bA_ | apply bN_ | apply b1_)) hb); clear HO319; clear HO323; clear HO327; clear HB; have HO319 := n0_; have HO323 := n1_; have HO327 := n2_; have HB := n3_; clear n0_ n1_ n2_ n3_; (try clear hb); (try clear hb2); (try clear hk); (try clear hi)))
   go_ret
   exact ⟨by first | rfl | (simp [errW_none, errW_some] <;> rfl) | (simp [*, errW_none, errW_some] <;> rfl), by repeat (with_reducible first | exact HB.out | apply bA_ | apply bN_ | apply b1_)⟩
  replace c13 := Bool.eq_false_iff.mpr c13
  subst c13
  have H1 : (some false) = some r := by rw [if_neg (show ¬ (false = true) by decide)] at H; exact H
  clear H
  have H := H1
  clear H1
  obtain rfl := Option.some.inj H
  go_enter Tryd.func4, Tryd.ntmps4
  go_wp2_with (first | ((with_reducible refine gC_ (f := 14) rfl ?_); refine gM_ (some 11) rfl rfl Tryd.func14 (by kernel_rfl) rfl #[.slice A0 l0.length c0, .int .i64 1048576] rfl ?_; (with_reducible refine (laws_szNodeS.calls k _ _ l0 1048576 t316 _ ?side1 ?side2 A3.out).mono ?_); (case side1 => repeat (first | exact HR0.out | (with_reducible refine Kd.C_alloc ?_ _) | (with_reducible refine Kd.C_drewN ?_ _) | (with_reducible refine Kd.C_drew ?_))); (case side2 => exact HC0.out); rintro e w24 ⟨rfl, hb⟩; refine ⟨_, rfl, ?_⟩; have n0_ := Ad_.mk (bP_ (by repeat (with_reducible first | exact HB.out | apply bA_ | apply bN_ | apply b1_)) hb); clear HB; have HB := n0_; clear n0_; (try clear hb); (try clear hb2); (try clear hk); (try clear hi)) | ((with_reducible refine gC_ (f := 16) rfl ?_); refine gM_ (some 15) rfl rfl Tryd.func16 (by kernel_rfl) rfl #[.slice A0 l0.length c0] rfl ?_; (with_reducible refine (laws_toNodeS.calls k _ _ l0 t317 _ ?side1 ?side2 A6.out).mono ?_); (case side1 => repeat (first | exact (Kd.C_below HR0.out HB.out) | (with_reducible refine Kd.C_alloc ?_ _) | (with_reducible refine Kd.C_drewN ?_ _) | (with_reducible refine Kd.C_drew ?_))); (case side2 => exact HC0.out); rintro e w25 ⟨v318, rfl, ho0, hb⟩; refine ⟨_, rfl, ?_⟩; have n0_ := Ad_.mk (Kd.R_lower ho0 (bZ_ (by repeat (with_reducible first | exact HB.out | apply bA_ | apply bN_ | apply b1_)))); have n1_ := Ad_.mk (bP_ (by repeat (with_reducible first | exact HB.out | apply bA_ | apply bN_ | apply b1_)) hb); clear HB; have HO319 := n0_; have HB := n1_; clear n0_ n1_; (try clear hb); (try clear hb2); (try clear hk); (try clear hi); (try clear ho0); obtain ⟨Ao26, co26, eo26⟩ := Kd.R_slice HO319.out; subst eo26) | ((with_reducible refine gC_ (f := 19) rfl ?_); refine gM_ (some 17) rfl rfl Tryd.func19 (by kernel_rfl) rfl #[.slice Ao26 t317.length co26, .int .i64 a1] rfl ?_; (with_reducible refine (spec_HomeOf.calls k _ _ t317 a1 t320 _ ?side1 ?side2 A7.out).mono ?_); (case side1 => repeat (first | exact (Kd.R_reads' HO319.out).2.2 | (with_reducible refine Kd.C_alloc ?_ _) | (with_reducible refine Kd.C_drewN ?_ _) | (with_reducible refine Kd.C_drew ?_))); (case side2 => exact (Kd.R_reads' HO319.out).2.1); rintro e w27 ⟨rfl, hb⟩; refine ⟨_, rfl, ?_⟩; have n0_ := Ad_.mk (Kd.R_below (by (with_reducible repeat (first | apply Kd.R_alloc | apply Kd.R_drewN | apply Kd.R_drew)); exact HO319.out) hb); have n1_ := Ad_.mk (bP_ (by repeat (with_reducible first | exact HB.out | apply bA_ | apply bN_ | apply b1_)) hb); clear HO319; clear HB; have HO319 := n0_; have HB := n1_; clear n0_ n1_; (try clear hb); (try clear hb2); (try clear hk); (try clear hi)) | ((with_reducible refine gC_ (f := 16) rfl ?_); refine gM_ (some 19) rfl rfl Tryd.func16 (by kernel_rfl) rfl #[.slice A0 l0.length c0] rfl ?_; (with_reducible refine (laws_toNodeS.calls k _ _ l0 t321 _ ?side1 ?side2 A8.out).mono ?_); (case side1 => repeat (first | exact (Kd.C_below HR0.out HB.out) | (with_reducible refine Kd.C_alloc ?_ _) | (with_reducible refine Kd.C_drewN ?_ _) | (with_reducible refine Kd.C_drew ?_))); (case side2 => exact HC0.out); rintro e w28 ⟨v322, rfl, ho0, hb⟩; refine ⟨_, rfl, ?_⟩; have n0_ := Ad_.mk (Kd.R_elder' (by (with_reducible repeat (first | apply Kd.R_alloc | apply Kd.R_drewN | apply Kd.R_drew)); exact HO319.out) (Kd.R_base ho0) hb); have n1_ := Ad_.mk (Kd.R_lower (Kd.R_new' ho0 (Kd.R_lt (by (with_reducible repeat (first | apply Kd.R_alloc | apply Kd.R_drewN | apply Kd.R_drew)); exact HO319.out))) (bZ_ (by repeat (with_reducible first | exact HB.out | apply bA_ | apply bN_ | apply b1_)))); have n2_ := Ad_.mk (bP_ (by repeat (with_reducible first | exact HB.out | apply bA_ | apply bN_ | apply b1_)) hb); clear HO319; clear HB; have HO319 := n0_; have HO323 := n1_; have HB := n2_; clear n0_ n1_ n2_; (try clear hb); (try clear hb2); (try clear hk); (try clear hi); (try clear ho0); obtain ⟨Ao29, co29, eo29⟩ := Kd.R_slice HO323.out; subst eo29) | ((with_reducible refine gC_ (f := 20) rfl ?_); refine gM_ (some 22) rfl rfl Tryd.func20 (by kernel_rfl) rfl #[.slice Ao29 t321.length co29, .int .i64 a1] rfl ?_; (with_reducible refine (impl_HomeOf.calls k _ _ t321 a1 t324 _ ?side1 ?side2 A9.out).mono ?_); (case side1 => repeat (first | exact (Kd.R_reads' HO323.out).2.2 | (with_reducible refine Kd.C_alloc ?_ _) | (with_reducible refine Kd.C_drewN ?_ _) | (with_reducible refine Kd.C_drew ?_))); (case side2 => exact (Kd.R_reads' HO323.out).2.1); rintro e w30 ⟨rfl, hb⟩; refine ⟨_, rfl, ?_⟩; have n0_ := Ad_.mk (Kd.R_below (by (with_reducible repeat (first | apply Kd.R_alloc | apply Kd.R_drewN | apply Kd.R_drew)); exact HO319.out) hb); have n1_ := Ad_.mk (Kd.R_below (by (with_reducible repeat (first | apply Kd.R_alloc | apply Kd.R_drewN | apply Kd.R_drew)); exact HO323.out) hb); have n2_ := Ad_.mk (bP_ (by repeat (with_reducible first | exact HB.out | apply bA_ | apply bN_ | apply b1_)) hb); clear HO319; clear HO323; clear HB; have HO319 := n0_; have HO323 := n1_; have HB := n2_; clear n0_ n1_ n2_; (try clear hb); (try clear hb2); (try clear hk); (try clear hi)) | ((with_reducible refine gC_ (f := 16) rfl ?_); refine gM_ (some 28) rfl rfl Tryd.func16 (by kernel_rfl) rfl #[.slice A0 l0.length c0] rfl ?_; (with_reducible refine (laws_toNodeS.calls k _ _ l0 t325 _ ?side1 ?side2 A11.out).mono ?_); (case side1 => repeat (first | exact (Kd.C_below HR0.out HB.out) | (with_reducible refine Kd.C_alloc ?_ _) | (with_reducible refine Kd.C_drewN ?_ _) | (with_reducible refine Kd.C_drew ?_))); (case side2 => exact HC0.out); rintro e w31 ⟨v326, rfl, ho0, hb⟩; refine ⟨_, rfl, ?_⟩; have n0_ := Ad_.mk (Kd.R_elder' (by (with_reducible repeat (first | apply Kd.R_alloc | apply Kd.R_drewN | apply Kd.R_drew)); exact HO319.out) (Kd.R_base ho0) hb); have n1_ := Ad_.mk (Kd.R_elder' (by (with_reducible repeat (first | apply Kd.R_alloc | apply Kd.R_drewN | apply Kd.R_drew)); exact HO323.out) (Kd.R_base ho0) hb); have n2_ := Ad_.mk (Kd.R_lower (Kd.R_new' (Kd.R_new' ho0 (Kd.R_lt (by (with_reducible repeat (first | apply Kd.R_alloc | apply Kd.R_drewN | apply Kd.R_drew)); exact HO319.out))) (Kd.R_lt (by (with_reducible repeat (first | apply Kd.R_alloc | apply Kd.R_drewN | apply Kd.R_drew)); exact HO323.out))) (bZ_ (by repeat (with_reducible first | exact HB.out | apply bA_ | apply bN_ | apply b1_)))); have n3_ := Ad_.mk (bP_ (by repeat (with_reducible first | exact HB.out | apply bA_ | apply bN_ | apply b1_)) hb); clear HO319; clear HO323; clear HB; have HO319 := n0_; have HO323 := n1_; have HO327 := n2_; have HB := n3_; clear n0_ n1_ n2_ n3_; (try clear hb); (try clear hb2); (try clear hk); (try clear hi); (try clear ho0); obtain ⟨Ao32, co32, eo32⟩ := Kd.R_slice HO327.out; subst eo32) | ((with_reducible refine gC_ (f := 18) rfl ?_); refine gM_ (some 29) rfl rfl Tryd.func18 (by kernel_rfl) rfl #[.slice Ao29 t321.length co29, .slice Ao32 t325.length co32] rfl ?_; (with_reducible refine (laws_eqNodeS.calls k _ _ t321 _ _ t325 false _ ?side1 ?side2 ?side3 ?side4 A12.out).mono ?_); (case side1 => repeat (first | exact (Kd.R_reads' HO323.out).2.2 | (with_reducible refine Kd.C_alloc ?_ _) | (with_reducible refine Kd.C_drewN ?_ _) | (with_reducible refine Kd.C_drew ?_))); (case side2 => exact (Kd.R_reads' HO323.out).2.1); (case side3 => repeat (first | exact (Kd.R_reads' HO327.out).2.2 | (with_reducible refine Kd.C_alloc ?_ _) | (with_reducible refine Kd.C_drewN ?_ _) | (with_reducible refine Kd.C_drew ?_))); (case side4 => exact (Kd.R_reads' HO327.out).2.1); rintro e w33 ⟨rfl, hb⟩; refine ⟨_, rfl, ?_⟩; have n0_ := Ad_.mk (Kd.R_below (by (with_reducible repeat (first | apply Kd.R_alloc | apply Kd.R_drewN | apply Kd.R_drew)); exact HO319.out) hb); have n1_ := Ad_.mk (Kd.R_below (by (with_reducible repeat (first | apply Kd.R_alloc | apply Kd.R_drewN | apply Kd.R_drew)); exact HO323.out) hb); have n2_ := Ad_.mk (Kd.R_below (by (with_reducible repeat (first | apply Kd.R_alloc | apply Kd.R_drewN | apply Kd.R_drew)); exact HO327.out) hb); have n3_ := Ad_.mk (bP_ (by repeat (with_reducible first | exact HB.out | apply bA_ | apply bN_ | apply b1_)) hb); clear HO319; clear HO323; clear HO327; clear HB; have HO319 := n0_; have HO323 := n1_; have HO327 := n2_; have HB := n3_; clear n0_ n1_ n2_ n3_; (try clear hb); (try clear hb2); (try clear hk); (try clear hi)))
  go_ret
  exact ⟨by first | rfl | (simp [errW_none, errW_some] <;> rfl) | (simp [*, errW_none, errW_some] <;> rfl), by repeat (with_reducible first | exact HB.out | apply bA_ | apply bN_ | apply b1_)⟩
end Go.Proofs.YtfmlamheflbgdaaDoor.PAll
end
