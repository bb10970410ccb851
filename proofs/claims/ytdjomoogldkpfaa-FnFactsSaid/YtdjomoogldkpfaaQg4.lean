/- For each function of the Go program that is named here: its Lean function, and that Go comes to just its answer. Written by a program of the session out of the translation. -/
import Derived.Test.YtdjomoogldkpfaaQg0
import Derived.Test.YtdjomoogldkpfaaQg1
import Derived.Test.YtdjomoogldkpfaaQg2
import Derived.Test.YtdjomoogldkpfaaQg3
section
namespace Go.Proofs.Ytdjomoogldkpfaa.PAll
open Go.RowKit Go.Proofs.YtdjomoogldkpfaaW.PrintWords Go.Proofs.YtdjomoogldkpfaaW.PrintLast Go.Proofs.YtdjomoogldkpfaaW.PrintMore
attribute [local go_sem] max2_int min2_int max_two min_two max_three min_three max_four min_four
set_option linter.unusedVariables false
set_option linter.unusedSimpArgs false
attribute [local go_sem high] eqA41
mutual
def laws_FnFacts.j0 : Nat → List (S43) → List (S43) → Bool → Int → Int → Int → Int → Int → Int → Option (Bool)
  | 0, _, _, _, _, _, _, _, _, _ => none
  | k + 1, x3, x5, x65, x300000, x300001, x300002, x300003, x300004, x300005 => if x65 = true then (some false) else (laws_FnFacts.l0 k x3 x5 0 x300000 x300001 x300002 x300003 x300004 x300005)
def laws_FnFacts.l0 : Nat → List (S43) → List (S43) → Int → Int → Int → Int → Int → Int → Int → Option (Bool)
  | 0, _, _, _, _, _, _, _, _, _ => none
  | k + 1, x3, x5, x6, x300000, x300001, x300002, x300003, x300004, x300005 => if x6 < (x3.length : Int) then (if 0 ≤ x6 then ((impl_FactHas.f k x5 ((rd_T43 x3 x6).f0) ((rd_T43 x3 x6).f1) ((rd_T43 x3 x6).f2) ((rd_T43 x3 x6).f3.f0) ((rd_T43 x3 x6).f3.f1) ((rd_T43 x3 x6).f3.f2)).bind fun t314 => (if t314 = true then ((impl_FactLess.f k ((rd_T43 x3 x6).f0) ((rd_T43 x3 x6).f1) ((rd_T43 x3 x6).f2) ((rd_T43 x3 x6).f3.f0) ((rd_T43 x3 x6).f3.f1) ((rd_T43 x3 x6).f3.f2) ((rd_T43 x3 x6).f0) ((rd_T43 x3 x6).f1) ((rd_T43 x3 x6).f2) ((rd_T43 x3 x6).f3.f0) ((rd_T43 x3 x6).f3.f1) ((rd_T43 x3 x6).f3.f2)).bind fun t317 => (if t317 = true then (laws_FnFacts.j2 k x3 x5 x6 true x300000 x300001 x300002 x300003 x300004 x300005) else ((impl_FactLess.f k x300000 x300001 x300002 x300003 x300004 x300005 ((rd_T43 x3 x6).f0) ((rd_T43 x3 x6).f1) ((rd_T43 x3 x6).f2) ((rd_T43 x3 x6).f3.f0) ((rd_T43 x3 x6).f3.f1) ((rd_T43 x3 x6).f3.f2)).bind fun t319 => (if t319 = true then ((impl_FactLess.f k ((rd_T43 x3 x6).f0) ((rd_T43 x3 x6).f1) ((rd_T43 x3 x6).f2) ((rd_T43 x3 x6).f3.f0) ((rd_T43 x3 x6).f3.f1) ((rd_T43 x3 x6).f3.f2) x300000 x300001 x300002 x300003 x300004 x300005).bind fun t321 => (laws_FnFacts.j2 k x3 x5 x6 t321 x300000 x300001 x300002 x300003 x300004 x300005)) else (laws_FnFacts.j2 k x3 x5 x6 false x300000 x300001 x300002 x300003 x300004 x300005))))) else (laws_FnFacts.j2 k x3 x5 x6 true x300000 x300001 x300002 x300003 x300004 x300005))) else (none)) else ((impl_AbsAt.f k x5 x300000 x300001 x300002).bind fun t322 => (laws_FnFacts.l1 k x5 t322 false 0 x300000 x300001 x300002 x300003 x300004 x300005))
def laws_FnFacts.j2 : Nat → List (S43) → List (S43) → Int → Bool → Int → Int → Int → Int → Int → Int → Option (Bool)
  | 0, _, _, _, _, _, _, _, _, _, _ => none
  | k + 1, x3, x5, x6, x105, x300000, x300001, x300002, x300003, x300004, x300005 => if x105 = true then (some false) else (laws_FnFacts.l0 k x3 x5 (wrap64 (x6 + 1)) x300000 x300001 x300002 x300003 x300004 x300005)
def laws_FnFacts.l1 : Nat → List (S43) → List (S41) → Bool → Int → Int → Int → Int → Int → Int → Int → Option (Bool)
  | 0, _, _, _, _, _, _, _, _, _, _ => none
  | k + 1, x5, x7, x8, x9, x300000, x300001, x300002, x300003, x300004, x300005 => if x9 < (x7.length : Int) then (if x8 = true then (if 0 ≤ x9 then ((impl_FactHas.f k x5 x300000 x300001 x300002 ((rd_T41 x7 x9).f0) ((rd_T41 x7 x9).f1) ((rd_T41 x7 x9).f2)).bind fun t327 => (if t327 = true then (laws_FnFacts.l1 k x5 x7 true (wrap64 (x9 + 1)) x300000 x300001 x300002 x300003 x300004 x300005) else (some false))) else (none)) else (if 0 ≤ x9 then ((impl_FactHas.f k x5 x300000 x300001 x300002 ((rd_T41 x7 x9).f0) ((rd_T41 x7 x9).f1) ((rd_T41 x7 x9).f2)).bind fun t329 => (if t329 = true then (laws_FnFacts.l1 k x5 x7 (((rd_T41 x7 x9).f0) == x300003 && (((rd_T41 x7 x9).f1) == x300004 && (((rd_T41 x7 x9).f2) == x300005))) (wrap64 (x9 + 1)) x300000 x300001 x300002 x300003 x300004 x300005) else (some false))) else (none))) else (some x8)
end
def laws_FnFacts.f (k : Nat) (l0 : List Int) : Option (Bool) := (laws_big.f l0).bind fun t289 => (if t289 = true then (some true) else ((spec_DrawFactAdd.f k l0).bind fun bt290 => ((impl_FactAdd.f k bt290.1 bt290.2.1 bt290.2.2.1 bt290.2.2.2.1 bt290.2.2.2.2.1 bt290.2.2.2.2.2.1 bt290.2.2.2.2.2.2).bind fun t300 => ((spec_FactsOk.f k bt290.1).bind fun t303 => (if t303 = true then ((spec_FactsOk.f k t300).bind fun t306 => (if t306 = true then ((impl_FactHas.f k t300 bt290.2.1 bt290.2.2.1 bt290.2.2.2.1 bt290.2.2.2.2.1 bt290.2.2.2.2.2.1 bt290.2.2.2.2.2.2).bind fun t307 => (if t307 = true then (if (t300.length : Int) = (wrap64 ((bt290.1.length : Int) + 1)) then ((impl_FactHas.f k bt290.1 bt290.2.1 bt290.2.2.1 bt290.2.2.2.1 bt290.2.2.2.2.1 bt290.2.2.2.2.2.1 bt290.2.2.2.2.2.2).bind fun t308 => (if t308 = true then ((impl_SameFacts.f k t300 bt290.1).bind fun t309 => (laws_FnFacts.j0 k bt290.1 t300 (!t309) bt290.2.1 bt290.2.2.1 bt290.2.2.2.1 bt290.2.2.2.2.1 bt290.2.2.2.2.2.1 bt290.2.2.2.2.2.2)) else (laws_FnFacts.j0 k bt290.1 t300 false bt290.2.1 bt290.2.2.1 bt290.2.2.2.1 bt290.2.2.2.2.1 bt290.2.2.2.2.2.1 bt290.2.2.2.2.2.2))) else ((impl_FactHas.f k bt290.1 bt290.2.1 bt290.2.2.1 bt290.2.2.2.1 bt290.2.2.2.2.1 bt290.2.2.2.2.2.1 bt290.2.2.2.2.2.2).bind fun t310 => (if t310 = true then ((impl_FactHas.f k bt290.1 bt290.2.1 bt290.2.2.1 bt290.2.2.2.1 bt290.2.2.2.2.1 bt290.2.2.2.2.2.1 bt290.2.2.2.2.2.2).bind fun t311 => (if t311 = true then ((impl_SameFacts.f k t300 bt290.1).bind fun t312 => (laws_FnFacts.j0 k bt290.1 t300 (!t312) bt290.2.1 bt290.2.2.1 bt290.2.2.2.1 bt290.2.2.2.2.1 bt290.2.2.2.2.2.1 bt290.2.2.2.2.2.2)) else (laws_FnFacts.j0 k bt290.1 t300 false bt290.2.1 bt290.2.2.1 bt290.2.2.2.1 bt290.2.2.2.2.1 bt290.2.2.2.2.2.1 bt290.2.2.2.2.2.2))) else (laws_FnFacts.j0 k bt290.1 t300 true bt290.2.1 bt290.2.2.1 bt290.2.2.2.1 bt290.2.2.2.2.1 bt290.2.2.2.2.2.1 bt290.2.2.2.2.2.2)))) else (laws_FnFacts.j0 k bt290.1 t300 true bt290.2.1 bt290.2.2.1 bt290.2.2.2.1 bt290.2.2.2.2.1 bt290.2.2.2.2.2.1 bt290.2.2.2.2.2.2))) else (laws_FnFacts.j0 k bt290.1 t300 true bt290.2.1 bt290.2.2.1 bt290.2.2.2.1 bt290.2.2.2.2.1 bt290.2.2.2.2.2.1 bt290.2.2.2.2.2.2))) else ((impl_SameFacts.f k t300 bt290.1).bind fun t304 => (if t304 = true then ((impl_FactHas.f k bt290.1 bt290.2.1 bt290.2.2.1 bt290.2.2.2.1 bt290.2.2.2.2.1 bt290.2.2.2.2.2.1 bt290.2.2.2.2.2.2).bind fun t305 => (some (!t305))) else (some false))))))))
theorem laws_FnFacts.mono_l : ∀ k, (∀ y0 y1 y2 y3 y4 y5 y6 y7 y8, LeO (laws_FnFacts.j0 k y0 y1 y2 y3 y4 y5 y6 y7 y8) (laws_FnFacts.j0 (k + 1) y0 y1 y2 y3 y4 y5 y6 y7 y8)) ∧ (∀ y0 y1 y2 y3 y4 y5 y6 y7 y8, LeO (laws_FnFacts.l0 k y0 y1 y2 y3 y4 y5 y6 y7 y8) (laws_FnFacts.l0 (k + 1) y0 y1 y2 y3 y4 y5 y6 y7 y8)) ∧ (∀ y0 y1 y2 y3 y4 y5 y6 y7 y8 y9, LeO (laws_FnFacts.j2 k y0 y1 y2 y3 y4 y5 y6 y7 y8 y9) (laws_FnFacts.j2 (k + 1) y0 y1 y2 y3 y4 y5 y6 y7 y8 y9)) ∧ (∀ y0 y1 y2 y3 y4 y5 y6 y7 y8 y9, LeO (laws_FnFacts.l1 k y0 y1 y2 y3 y4 y5 y6 y7 y8 y9) (laws_FnFacts.l1 (k + 1) y0 y1 y2 y3 y4 y5 y6 y7 y8 y9))
  | 0 => ⟨fun _ _ _ _ _ _ _ _ _ r h => by simp [laws_FnFacts.j0] at h, fun _ _ _ _ _ _ _ _ _ r h => by simp [laws_FnFacts.l0] at h, fun _ _ _ _ _ _ _ _ _ _ r h => by simp [laws_FnFacts.j2] at h, fun _ _ _ _ _ _ _ _ _ _ r h => by simp [laws_FnFacts.l1] at h⟩
  | k + 1 => by
    obtain ⟨ih0, ih1, ih2, ih3⟩ := laws_FnFacts.mono_l k
    refine ⟨?_, ?_, ?_, ?_⟩
    (intro y0 y1 y2 y3 y4 y5 y6 y7 y8; unfold laws_FnFacts.j0; rotate_left)
    (intro y0 y1 y2 y3 y4 y5 y6 y7 y8; unfold laws_FnFacts.l0; rotate_left)
    (intro y0 y1 y2 y3 y4 y5 y6 y7 y8 y9; unfold laws_FnFacts.j2; rotate_left)
    (intro y0 y1 y2 y3 y4 y5 y6 y7 y8 y9; unfold laws_FnFacts.l1; rotate_left)
    all_goals
      repeat' first
      | (with_reducible exact ih0 _ _ _ _ _ _ _ _ _)
      | (with_reducible exact ih1 _ _ _ _ _ _ _ _ _)
      | (with_reducible exact ih2 _ _ _ _ _ _ _ _ _ _)
      | (with_reducible exact ih3 _ _ _ _ _ _ _ _ _ _)
      | (with_reducible exact impl_AbsAt.mono _ _ _ _ _)
      | (with_reducible exact impl_FactAdd.mono _ _ _ _ _ _ _ _)
      | (with_reducible exact impl_FactHas.mono _ _ _ _ _ _ _ _)
      | (with_reducible exact impl_FactLess.mono _ _ _ _ _ _ _ _ _ _ _ _ _)
      | (with_reducible exact impl_SameFacts.mono _ _ _)
      | (with_reducible exact spec_DrawFactAdd.mono _ _)
      | (with_reducible exact spec_FactsOk.mono _ _)
      | (with_reducible exact LeO.refl _)
      | (with_reducible exact LeO.none _)
      | (with_reducible refine LeO.ite ?_ ?_)
      | (with_reducible refine LeO.bind ?_ (fun _ => ?_))
      | exact LeO.none _
      | refine LeO.ite ?_ ?_
      | refine LeO.bind ?_ (fun _ => ?_)
theorem laws_FnFacts.mono : ∀ a0 k, LeO (laws_FnFacts.f k a0) (laws_FnFacts.f (k + 1) a0) := by
  intro a0 k
  obtain ⟨ih0, ih1, ih2, ih3⟩ := laws_FnFacts.mono_l k
  unfold laws_FnFacts.f
  repeat' first
      | (with_reducible exact ih0 _ _ _ _ _ _ _ _ _)
      | (with_reducible exact ih1 _ _ _ _ _ _ _ _ _)
      | (with_reducible exact ih2 _ _ _ _ _ _ _ _ _ _)
      | (with_reducible exact ih3 _ _ _ _ _ _ _ _ _ _)
      | (with_reducible exact impl_AbsAt.mono _ _ _ _ _)
      | (with_reducible exact impl_FactAdd.mono _ _ _ _ _ _ _ _)
      | (with_reducible exact impl_FactHas.mono _ _ _ _ _ _ _ _)
      | (with_reducible exact impl_FactLess.mono _ _ _ _ _ _ _ _ _ _ _ _ _)
      | (with_reducible exact impl_SameFacts.mono _ _ _)
      | (with_reducible exact spec_DrawFactAdd.mono _ _)
      | (with_reducible exact spec_FactsOk.mono _ _)
      | (with_reducible exact LeO.refl _)
      | (with_reducible exact LeO.none _)
      | (with_reducible refine LeO.ite ?_ ?_)
      | (with_reducible refine LeO.bind ?_ (fun _ => ?_))
      | exact LeO.none _
      | refine LeO.ite ?_ ?_
      | refine LeO.bind ?_ (fun _ => ?_)
def laws_FnFacts.T12 : Bool × List (List Nat × List Nat) := (true, [([], []), ([], []), ([], []), ([1, 2], [1, 2]), ([3], [3]), ([0, 4], [0, 4]), ([5], [5]), ([6, 5], [6]), ([7], [7]), ([7], [7]), ([8, 9, 7], [7, 8, 9]), ([10, 7], [7, 10]), ([7], [7]), ([7], [7]), ([12, 13, 7], [7, 12, 13]), ([14, 7], [7, 14]), ([11, 15, 7, 7], [7, 11, 15]), ([7, 16], [7, 16]), ([17, 16], [17]), ([18], [18]), ([18], [18]), ([18], [18]), ([20, 21, 18], [18, 20, 21]), ([22, 18], [18, 22]), ([19, 23, 18, 18], [18, 19, 23]), ([24, 24, 18], [18, 24]), ([25], [25]), ([25], [25]), ([26, 27, 25], [25, 26, 27]), ([28, 25], [25, 28]), ([25], [25]), ([29, 30, 25, 25], [25, 29, 30]), ([25, 31, 18], [18, 25, 31]), ([18, 32], [18, 32])])
def laws_FnFacts.B12 : List Nat := [0, 0, 0, 6, 14, 31, 63, 127, 255, 255, 1023, 2047, 255, 255, 12543, 28927, 65535, 131071, 262143, 524287, 524287, 524287, 3670015, 7864319, 16777215, 33554431, 67108863, 67108863, 268435455, 536870911, 67108863, 2147483647, 4294967295, 8589934591]
theorem laws_FnFacts.tab12 : rtab .any (opsOf Try.f11 12) = laws_FnFacts.T12 := by kernel_rfl
theorem laws_FnFacts.bits12 : waitsOk laws_FnFacts.T12.2 laws_FnFacts.B12 = true := by kernel_rfl
def laws_FnFacts.T19 : Bool × List (List Nat × List Nat) := (true, [([], []), ([0], [0]), ([1], [1]), ([1], [1]), ([2, 3, 1], [1, 2, 3]), ([4, 1], [1, 4]), ([1], [1]), ([6, 1], [1, 6]), ([5, 7, 1], [1, 5, 7]), ([1, 8], [1, 8]), ([9, 1, 0, 1, 2, 3, 4, 5, 6, 7, 8, 9], [0, 9])])
def laws_FnFacts.B19 : List Nat := [0, 1, 3, 3, 15, 31, 3, 67, 255, 511, 1023]
theorem laws_FnFacts.tab19 : rtab .any (opsOf Try.f11 19) = laws_FnFacts.T19 := by kernel_rfl
theorem laws_FnFacts.bits19 : waitsOk laws_FnFacts.T19.2 laws_FnFacts.B19 = true := by kernel_rfl
def laws_FnFacts.T20 : Bool × List (List Nat × List Nat) := (true, [([], []), ([], []), ([1], [1]), ([], []), ([3], [3]), ([], []), ([5], [5]), ([], []), ([], []), ([7, 8], [7, 8]), ([9], [9]), ([2, 4, 6, 10], [2, 4, 6, 10]), ([0, 11], [0, 11]), ([12], [12])])
def laws_FnFacts.B20 : List Nat := [0, 0, 2, 0, 8, 0, 32, 0, 0, 384, 896, 2046, 4095, 8191]
theorem laws_FnFacts.tab20 : rtab .any (opsOf Try.f11 20) = laws_FnFacts.T20 := by kernel_rfl
theorem laws_FnFacts.bits20 : waitsOk laws_FnFacts.T20.2 laws_FnFacts.B20 = true := by kernel_rfl
set_option maxHeartbeats 8000000 in
set_option maxRecDepth 100000 in
theorem laws_FnFacts.calls (k : Nat) (A0 : Option Addr) (c0 : Nat) (l0 : List Int) (r : Bool) (w : World) (hr0 : Kd.C (Kd.int .u8) w A0 l0.length l0) (hc0 : l0.length ≤ c0) (h : laws_FnFacts.f k l0 = some r) :
    Calls Try.prog 11 #[.slice A0 l0.length c0] w fun e w' => e = .returned (.bool r) ∧ Below w.heap.size w w' := by
  have hu43 := Try.underlying43
  have hu41 := Try.underlying41
  have HR0 := Ad_.mk hr0
  have HC0 := Ad_.mk hc0
  clear hr0 hc0
  have HB := Ad_.mk (Below.refl w.heap.size w)
  have H := h
  unfold laws_FnFacts.f at H
  clear h
  replace H := Option.bind_eq_some_iff.mp H
  obtain ⟨t289, A20, H⟩ := H
  try dsimp only at H
  have A2 := Ad_.mk A20
  clear A20
  by_cases c3 : t289 = true
  ·
   subst c3
   have H1 : (some true) = some r := by rw [if_pos rfl] at H; exact H
   clear H
   have H := H1
   clear H1
   obtain rfl := Option.some.inj H
   go_enter Try.func11, Try.ntmps11
   go_wp2_with (first | ((with_reducible refine gC_ (f := 29) rfl ?_); refine gM_ (some 11) rfl rfl Try.func29 (by kernel_rfl) rfl #[.slice A0 l0.length c0] rfl ?_; (with_reducible refine (laws_big.calls _ _ l0 true _ ?side1 ?side2 A2.out).mono ?_); (case side1 => repeat (first | exact HR0.out | (with_reducible refine Kd.C_alloc ?_ _) | (with_reducible refine Kd.C_drewN ?_ _) | (with_reducible refine Kd.C_drew ?_))); (case side2 => exact HC0.out); rintro e w' ⟨rfl, ⟨nd, rfl⟩⟩; refine ⟨_, rfl, ?_⟩))
   go_ret
   exact ⟨by first | rfl | (simp [errW_none, errW_some] <;> rfl) | (simp [*, errW_none, errW_some] <;> rfl), by repeat (with_reducible first | exact HB.out | apply bA_ | apply bN_ | apply b1_)⟩
  replace c3 := Bool.eq_false_iff.mpr c3
  subst c3
  have H1 : ((spec_DrawFactAdd.f k l0).bind fun bt290 => ((impl_FactAdd.f k bt290.1 bt290.2.1 bt290.2.2.1 bt290.2.2.2.1 bt290.2.2.2.2.1 bt290.2.2.2.2.2.1 bt290.2.2.2.2.2.2).bind fun t300 => ((spec_FactsOk.f k bt290.1).bind fun t303 => (if t303 = true then ((spec_FactsOk.f k t300).bind fun t306 => (if t306 = true then ((impl_FactHas.f k t300 bt290.2.1 bt290.2.2.1 bt290.2.2.2.1 bt290.2.2.2.2.1 bt290.2.2.2.2.2.1 bt290.2.2.2.2.2.2).bind fun t307 => (if t307 = true then (if (t300.length : Int) = (wrap64 ((bt290.1.length : Int) + 1)) then ((impl_FactHas.f k bt290.1 bt290.2.1 bt290.2.2.1 bt290.2.2.2.1 bt290.2.2.2.2.1 bt290.2.2.2.2.2.1 bt290.2.2.2.2.2.2).bind fun t308 => (if t308 = true then ((impl_SameFacts.f k t300 bt290.1).bind fun t309 => (laws_FnFacts.j0 k bt290.1 t300 (!t309) bt290.2.1 bt290.2.2.1 bt290.2.2.2.1 bt290.2.2.2.2.1 bt290.2.2.2.2.2.1 bt290.2.2.2.2.2.2)) else (laws_FnFacts.j0 k bt290.1 t300 false bt290.2.1 bt290.2.2.1 bt290.2.2.2.1 bt290.2.2.2.2.1 bt290.2.2.2.2.2.1 bt290.2.2.2.2.2.2))) else ((impl_FactHas.f k bt290.1 bt290.2.1 bt290.2.2.1 bt290.2.2.2.1 bt290.2.2.2.2.1 bt290.2.2.2.2.2.1 bt290.2.2.2.2.2.2).bind fun t310 => (if t310 = true then ((impl_FactHas.f k bt290.1 bt290.2.1 bt290.2.2.1 bt290.2.2.2.1 bt290.2.2.2.2.1 bt290.2.2.2.2.2.1 bt290.2.2.2.2.2.2).bind fun t311 => (if t311 = true then ((impl_SameFacts.f k t300 bt290.1).bind fun t312 => (laws_FnFacts.j0 k bt290.1 t300 (!t312) bt290.2.1 bt290.2.2.1 bt290.2.2.2.1 bt290.2.2.2.2.1 bt290.2.2.2.2.2.1 bt290.2.2.2.2.2.2)) else (laws_FnFacts.j0 k bt290.1 t300 false bt290.2.1 bt290.2.2.1 bt290.2.2.2.1 bt290.2.2.2.2.1 bt290.2.2.2.2.2.1 bt290.2.2.2.2.2.2))) else (laws_FnFacts.j0 k bt290.1 t300 true bt290.2.1 bt290.2.2.1 bt290.2.2.2.1 bt290.2.2.2.2.1 bt290.2.2.2.2.2.1 bt290.2.2.2.2.2.2)))) else (laws_FnFacts.j0 k bt290.1 t300 true bt290.2.1 bt290.2.2.1 bt290.2.2.2.1 bt290.2.2.2.2.1 bt290.2.2.2.2.2.1 bt290.2.2.2.2.2.2))) else (laws_FnFacts.j0 k bt290.1 t300 true bt290.2.1 bt290.2.2.1 bt290.2.2.2.1 bt290.2.2.2.2.1 bt290.2.2.2.2.2.1 bt290.2.2.2.2.2.2))) else ((impl_SameFacts.f k t300 bt290.1).bind fun t304 => (if t304 = true then ((impl_FactHas.f k bt290.1 bt290.2.1 bt290.2.2.1 bt290.2.2.2.1 bt290.2.2.2.2.1 bt290.2.2.2.2.2.1 bt290.2.2.2.2.2.2).bind fun t305 => (some (!t305))) else (some false))))))) = some r := by rw [if_neg (show ¬ (false = true) by decide)] at H; exact H
  clear H
  have H := H1
  clear H1
  replace H := Option.bind_eq_some_iff.mp H
  obtain ⟨⟨t290, t293, t294, t295, t296, t297, t298⟩, A40, H⟩ := H
  try dsimp only at H
  have A4 := Ad_.mk A40
  clear A40
  replace H := Option.bind_eq_some_iff.mp H
  obtain ⟨t300, A50, H⟩ := H
  try dsimp only at H
  have A5 := Ad_.mk A50
  clear A50
  replace H := Option.bind_eq_some_iff.mp H
  obtain ⟨t303, A60, H⟩ := H
  try dsimp only at H
  have A6 := Ad_.mk A60
  clear A60
  by_cases c7 : t303 = true
  rotate_left
  ·
   replace c7 := Bool.eq_false_iff.mpr c7
   subst c7
   have H1 : ((impl_SameFacts.f k t300 t290).bind fun t304 => (if t304 = true then ((impl_FactHas.f k t290 t293 t294 t295 t296 t297 t298).bind fun t305 => (some (!t305))) else (some false))) = some r := by rw [if_neg (show ¬ (false = true) by decide)] at H; exact H
   clear H
   have H := H1
   clear H1
   replace H := Option.bind_eq_some_iff.mp H
   obtain ⟨t304, A1270, H⟩ := H
   try dsimp only at H
   have A127 := Ad_.mk A1270
   clear A1270
   by_cases c128 : t304 = true
   rotate_left
   ·
    replace c128 := Bool.eq_false_iff.mpr c128
    subst c128
    have H1 : (some false) = some r := by rw [if_neg (show ¬ (false = true) by decide)] at H; exact H
    clear H
    have H := H1
    clear H1
    obtain rfl := Option.some.inj H
    go_enter Try.func11, Try.ntmps11
    go_wp2_with (first | ((with_reducible refine gC_ (f := 29) rfl ?_); refine gM_ (some 11) rfl rfl Try.func29 (by kernel_rfl) rfl #[.slice A0 l0.length c0] rfl ?_; (with_reducible refine (laws_big.calls _ _ l0 false _ ?side1 ?side2 A2.out).mono ?_); (case side1 => repeat (first | exact HR0.out | (with_reducible refine Kd.C_alloc ?_ _) | (with_reducible refine Kd.C_drewN ?_ _) | (with_reducible refine Kd.C_drew ?_))); (case side2 => exact HC0.out); rintro e w' ⟨rfl, ⟨nd, rfl⟩⟩; refine ⟨_, rfl, ?_⟩) | ((with_reducible refine gC_ (f := 41) rfl ?_); refine gM_ (some 14) rfl rfl Try.func41 (by kernel_rfl) rfl #[.slice A0 l0.length c0] rfl ?_; (with_reducible refine (spec_DrawFactAdd.calls k _ _ l0 t290 t293 t294 t295 t296 t297 t298 _ ?side1 ?side2 A4.out).mono ?_); (case side1 => repeat (first | exact HR0.out | (with_reducible refine Kd.C_alloc ?_ _) | (with_reducible refine Kd.C_drewN ?_ _) | (with_reducible refine Kd.C_drew ?_))); (case side2 => exact HC0.out); rintro e w139 ⟨v291, rfl, ho0, hb⟩; refine ⟨_, rfl, ?_⟩; have n0_ := Ad_.mk (Kd.R_lower ho0 (bZ_ (by repeat (with_reducible first | exact HB.out | apply bA_ | apply bN_ | apply b1_)))); have n1_ := Ad_.mk (bP_ (by repeat (with_reducible first | exact HB.out | apply bA_ | apply bN_ | apply b1_)) hb); clear HB; have HO292 := n0_; have HB := n1_; clear n0_ n1_; (try clear hb); (try clear hb2); (try clear hk); (try clear hi); (try clear ho0)) | ((with_reducible refine gD_ (N := 4) rfl ?_); (try (refine gate_guard (by rfl) ?_; dsimp only)); refine bE_ ?hg (N := 4) ?hd (cs := #[.int .i64 0, .int .i64 0, .int .i64 0, .int .i64 0, .int .i64 0, .int .i64 0]) (t := 43) ?hr ?_; (case hd => rfl); (case hg => rfl); (case hr => first | (go_simp; done) | (go_simp; rfl)); intro gb299 hg w140 hbox hb; have n0_ := Ad_.mk (Kd.R_below (Kd.R_elderB (by (with_reducible repeat (first | apply Kd.R_alloc | apply Kd.R_drewN | apply Kd.R_drew)); exact HO292.out) gb299 (Nat.le_of_eq hg.symm)) hb); have n1_ := Ad_.mk (bP_ (by repeat (with_reducible first | exact HB.out | apply bA_ | apply bN_ | apply b1_)) hb); have n2_ := Ad_.mk (hbox); have n3_ := Ad_.mk ((by rw [hg]; exact (bZ_ (by repeat (with_reducible first | exact HB.out | apply bA_ | apply bN_ | apply b1_))) : w.heap.size ≤ gb299)); have n4_ := Ad_.mk ((by rw [hg]; exact (bZ_ (by repeat (with_reducible first | exact HB.out | apply bA_ | apply bN_ | apply b1_))) : w.heap.size ≤ gb299)); clear HO292; clear HB; have HO292 := n0_; have HB := n1_; have BK299 := n2_; have GW299 := n3_; have GE299 := n4_; clear n0_ n1_ n2_ n3_ n4_; clear hb hbox hg; obtain ⟨hcz141_0, hcz141_1, hcz141_2, hcz141_3, hcz141_4, hcz141_5⟩ := cells6_ BK299.out; obtain ⟨hfz141_0, hfz141_1, hfz141_2, hfz141_3, hfz141_4, hfz141_5⟩ := froz6_ BK299.out; obtain ⟨Ao142, co142, eo142⟩ := Kd.R_slice HO292.out; subst eo142) | ((with_reducible refine gC_ (f := 42) rfl ?_); refine gM_ (some 19) rfl rfl Try.func42 (by kernel_rfl) rfl #[.slice Ao142 t290.length co142, .agg #[.int .i64 t293, .int .i64 t294, .int .i64 t295, .int .i64 t296, .int .i64 t297, .int .i64 t298]] rfl ?_; (with_reducible refine (impl_FactAdd.calls k _ _ t290 t293 t294 t295 t296 t297 t298 t300 _ ?side1 ?side2 A5.out).mono ?_); (case side1 => refine (Kd.R_reads' (e := 43) (base := w.heap.size) (ok := fun k_ => (True ∧ k_ ≠ gb299)) (n := t290.length) (c := co142) ?_).2.2; exact (by (with_reducible repeat (first | apply Kd.R_alloc | apply Kd.R_drewN | apply Kd.R_drew)); exact (Kd.R_mono (Kd.R_far (p := ⟨gb299, 5, none⟩) (Kd.R_far (p := ⟨gb299, 4, none⟩) (Kd.R_far (p := ⟨gb299, 3, none⟩) (Kd.R_far (p := ⟨gb299, 2, none⟩) (Kd.R_far (p := ⟨gb299, 1, none⟩) (Kd.R_far (p := ⟨gb299, 0, none⟩) (Kd.R_mono HO292.out (fun k_ hk => (⟨hk, hk.2⟩ : _ ∧ k_ ≠ gb299))) (fun _ hk => hk.2) (.int .i64 t293)) (fun _ hk => hk.2) (.int .i64 t294)) (fun _ hk => hk.2) (.int .i64 t295)) (fun _ hk => hk.2) (.int .i64 t296)) (fun _ hk => hk.2) (.int .i64 t297)) (fun _ hk => hk.2) (.int .i64 t298)) (fun _ h_ => h_.1)))); (case side2 => exact (Kd.R_reads' HO292.out).2.1); rintro e w143 ⟨v301, rfl, ho0, hb⟩; refine ⟨_, rfl, ?_⟩; have n0_ := Ad_.mk (Kd.R_elder' (by (with_reducible repeat (first | apply Kd.R_alloc | apply Kd.R_drewN | apply Kd.R_drew)); exact (Kd.R_mono (Kd.R_far (p := ⟨gb299, 5, none⟩) (Kd.R_far (p := ⟨gb299, 4, none⟩) (Kd.R_far (p := ⟨gb299, 3, none⟩) (Kd.R_far (p := ⟨gb299, 2, none⟩) (Kd.R_far (p := ⟨gb299, 1, none⟩) (Kd.R_far (p := ⟨gb299, 0, none⟩) (Kd.R_mono HO292.out (fun k_ hk => (⟨hk, hk.2⟩ : _ ∧ k_ ≠ gb299))) (fun _ hk => hk.2) (.int .i64 t293)) (fun _ hk => hk.2) (.int .i64 t294)) (fun _ hk => hk.2) (.int .i64 t295)) (fun _ hk => hk.2) (.int .i64 t296)) (fun _ hk => hk.2) (.int .i64 t297)) (fun _ hk => hk.2) (.int .i64 t298)) (fun _ h_ => h_.1))) (Kd.R_base ho0) hb); have n1_ := Ad_.mk (Kd.R_lower (Kd.R_newB (Kd.R_new' ho0 (Kd.R_lt (by (with_reducible repeat (first | apply Kd.R_alloc | apply Kd.R_drewN | apply Kd.R_drew)); exact (Kd.R_mono (Kd.R_far (p := ⟨gb299, 5, none⟩) (Kd.R_far (p := ⟨gb299, 4, none⟩) (Kd.R_far (p := ⟨gb299, 3, none⟩) (Kd.R_far (p := ⟨gb299, 2, none⟩) (Kd.R_far (p := ⟨gb299, 1, none⟩) (Kd.R_far (p := ⟨gb299, 0, none⟩) (Kd.R_mono HO292.out (fun k_ hk => (⟨hk, hk.2⟩ : _ ∧ k_ ≠ gb299))) (fun _ hk => hk.2) (.int .i64 t293)) (fun _ hk => hk.2) (.int .i64 t294)) (fun _ hk => hk.2) (.int .i64 t295)) (fun _ hk => hk.2) (.int .i64 t296)) (fun _ hk => hk.2) (.int .i64 t297)) (fun _ hk => hk.2) (.int .i64 t298)) (fun _ h_ => h_.1))))) (g := gb299) (o := .cells #[.int .i64 t293, .int .i64 t294, .int .i64 t295, .int .i64 t296, .int .i64 t297, .int .i64 t298] 43 (0, 0)) (by (with_reducible repeat (first | refine kN_ ?_ _ | refine k1_ ?_ | refine kA_ ?_ _)); refine blk_put (cs := #[.int .i64 t293, .int .i64 t294, .int .i64 t295, .int .i64 t296, .int .i64 t297, .int .i64 0]) ?_ 5 _ rfl; (with_reducible repeat (first | refine kN_ ?_ _ | refine k1_ ?_ | refine kA_ ?_ _)); refine blk_put (cs := #[.int .i64 t293, .int .i64 t294, .int .i64 t295, .int .i64 t296, .int .i64 0, .int .i64 0]) ?_ 4 _ rfl; (with_reducible repeat (first | refine kN_ ?_ _ | refine k1_ ?_ | refine kA_ ?_ _)); refine blk_put (cs := #[.int .i64 t293, .int .i64 t294, .int .i64 t295, .int .i64 0, .int .i64 0, .int .i64 0]) ?_ 3 _ rfl; (with_reducible repeat (first | refine kN_ ?_ _ | refine k1_ ?_ | refine kA_ ?_ _)); refine blk_put (cs := #[.int .i64 t293, .int .i64 t294, .int .i64 0, .int .i64 0, .int .i64 0, .int .i64 0]) ?_ 2 _ rfl; (with_reducible repeat (first | refine kN_ ?_ _ | refine k1_ ?_ | refine kA_ ?_ _)); refine blk_put (cs := #[.int .i64 t293, .int .i64 0, .int .i64 0, .int .i64 0, .int .i64 0, .int .i64 0]) ?_ 1 _ rfl; (with_reducible repeat (first | refine kN_ ?_ _ | refine k1_ ?_ | refine kA_ ?_ _)); refine blk_put (cs := #[.int .i64 0, .int .i64 0, .int .i64 0, .int .i64 0, .int .i64 0, .int .i64 0]) ?_ 0 _ rfl; (with_reducible repeat (first | refine kN_ ?_ _ | refine k1_ ?_ | refine kA_ ?_ _)); exact BK299.out)) (bZ_ (by repeat (with_reducible first | exact HB.out | apply bA_ | apply bN_ | apply b1_ | refine bS_ ?_ GE299.out)))); have n2_ := Ad_.mk (blk_below (g := gb299) (o := .cells #[.int .i64 t293, .int .i64 t294, .int .i64 t295, .int .i64 t296, .int .i64 t297, .int .i64 t298] 43 (0, 0)) (by (with_reducible repeat (first | refine kN_ ?_ _ | refine k1_ ?_ | refine kA_ ?_ _)); refine blk_put (cs := #[.int .i64 t293, .int .i64 t294, .int .i64 t295, .int .i64 t296, .int .i64 t297, .int .i64 0]) ?_ 5 _ rfl; (with_reducible repeat (first | refine kN_ ?_ _ | refine k1_ ?_ | refine kA_ ?_ _)); refine blk_put (cs := #[.int .i64 t293, .int .i64 t294, .int .i64 t295, .int .i64 t296, .int .i64 0, .int .i64 0]) ?_ 4 _ rfl; (with_reducible repeat (first | refine kN_ ?_ _ | refine k1_ ?_ | refine kA_ ?_ _)); refine blk_put (cs := #[.int .i64 t293, .int .i64 t294, .int .i64 t295, .int .i64 0, .int .i64 0, .int .i64 0]) ?_ 3 _ rfl; (with_reducible repeat (first | refine kN_ ?_ _ | refine k1_ ?_ | refine kA_ ?_ _)); refine blk_put (cs := #[.int .i64 t293, .int .i64 t294, .int .i64 0, .int .i64 0, .int .i64 0, .int .i64 0]) ?_ 2 _ rfl; (with_reducible repeat (first | refine kN_ ?_ _ | refine k1_ ?_ | refine kA_ ?_ _)); refine blk_put (cs := #[.int .i64 t293, .int .i64 0, .int .i64 0, .int .i64 0, .int .i64 0, .int .i64 0]) ?_ 1 _ rfl; (with_reducible repeat (first | refine kN_ ?_ _ | refine k1_ ?_ | refine kA_ ?_ _)); refine blk_put (cs := #[.int .i64 0, .int .i64 0, .int .i64 0, .int .i64 0, .int .i64 0, .int .i64 0]) ?_ 0 _ rfl; (with_reducible repeat (first | refine kN_ ?_ _ | refine k1_ ?_ | refine kA_ ?_ _)); exact BK299.out) hb); have n3_ := Ad_.mk (bP_ (by repeat (with_reducible first | exact HB.out | apply bA_ | apply bN_ | apply b1_ | refine bS_ ?_ GE299.out)) hb); clear HO292; clear BK299; clear HB; have HO292 := n0_; have HO302 := n1_; have BK299 := n2_; have HB := n3_; clear n0_ n1_ n2_ n3_; (try clear hb); (try clear hb2); (try clear hk); (try clear hi); (try clear ho0)) | ((with_reducible refine gC_ (f := 37) rfl ?_); refine gM_ (some 21) rfl rfl Try.func37 (by kernel_rfl) rfl #[.slice Ao142 t290.length co142] rfl ?_; (with_reducible refine (spec_FactsOk.calls k _ _ t290 false _ ?side1 ?side2 A6.out).mono ?_); (case side1 => repeat (first | exact (Kd.R_reads' HO292.out).2.2 | (with_reducible refine Kd.C_alloc ?_ _) | (with_reducible refine Kd.C_drewN ?_ _) | (with_reducible refine Kd.C_drew ?_))); (case side2 => exact (Kd.R_reads' HO292.out).2.1); rintro e w144 ⟨rfl, hb⟩; refine ⟨_, rfl, ?_⟩; have n0_ := Ad_.mk (Kd.R_below (by (with_reducible repeat (first | apply Kd.R_alloc | apply Kd.R_drewN | apply Kd.R_drew)); exact HO292.out) hb); have n1_ := Ad_.mk (Kd.R_below (by (with_reducible repeat (first | apply Kd.R_alloc | apply Kd.R_drewN | apply Kd.R_drew)); exact HO302.out) hb); have n2_ := Ad_.mk (blk_below (g := gb299) (o := .cells #[.int .i64 t293, .int .i64 t294, .int .i64 t295, .int .i64 t296, .int .i64 t297, .int .i64 t298] 43 (0, 0)) (by (with_reducible repeat (first | refine kN_ ?_ _ | refine k1_ ?_ | refine kA_ ?_ _)); exact BK299.out) hb); have n3_ := Ad_.mk (bP_ (by repeat (with_reducible first | exact HB.out | apply bA_ | apply bN_ | apply b1_ | refine bS_ ?_ GE299.out)) hb); clear HO292; clear HO302; clear BK299; clear HB; have HO292 := n0_; have HO302 := n1_; have BK299 := n2_; have HB := n3_; clear n0_ n1_ n2_ n3_; (try clear hb); (try clear hb2); (try clear hk); (try clear hi); obtain ⟨Ao145, co145, eo145⟩ := Kd.R_slice HO302.out; subst eo145) | ((with_reducible refine gC_ (f := 35) rfl ?_); refine gM_ (some 25) rfl rfl Try.func35 (by kernel_rfl) rfl #[.slice Ao145 t300.length co145, .slice Ao142 t290.length co142] rfl ?_; (with_reducible refine (impl_SameFacts.calls k _ _ t300 _ _ t290 false _ ?side1 ?side2 ?side3 ?side4 A127.out).mono ?_); (case side1 => repeat (first | exact (Kd.R_reads' HO302.out).2.2 | (with_reducible refine Kd.C_alloc ?_ _) | (with_reducible refine Kd.C_drewN ?_ _) | (with_reducible refine Kd.C_drew ?_))); (case side2 => exact (Kd.R_reads' HO302.out).2.1); (case side3 => repeat (first | exact (Kd.R_reads' HO292.out).2.2 | (with_reducible refine Kd.C_alloc ?_ _) | (with_reducible refine Kd.C_drewN ?_ _) | (with_reducible refine Kd.C_drew ?_))); (case side4 => exact (Kd.R_reads' HO292.out).2.1); rintro e w' ⟨rfl, ⟨nd, rfl⟩⟩; refine ⟨_, rfl, ?_⟩))
    go_ret
    exact ⟨by first | rfl | (simp [errW_none, errW_some] <;> rfl) | (simp [*, errW_none, errW_some] <;> rfl), by repeat (with_reducible first | exact HB.out | apply bA_ | apply bN_ | apply b1_ | refine bS_ ?_ GE299.out)⟩
   subst c128
   have H1 := H
   rw [if_pos rfl] at H1
   clear H
   have H := H1
   clear H1
   replace H := Option.bind_eq_some_iff.mp H
   obtain ⟨t305, A1290, H⟩ := H
   replace H : (some (!t305)) = some r := H
   have A129 := Ad_.mk A1290
   clear A1290
   obtain rfl := Option.some.inj H
   go_enter Try.func11, Try.ntmps11
   go_wp2_with (first | ((with_reducible refine gC_ (f := 29) rfl ?_); refine gM_ (some 11) rfl rfl Try.func29 (by kernel_rfl) rfl #[.slice A0 l0.length c0] rfl ?_; (with_reducible refine (laws_big.calls _ _ l0 false _ ?side1 ?side2 A2.out).mono ?_); (case side1 => repeat (first | exact HR0.out | (with_reducible refine Kd.C_alloc ?_ _) | (with_reducible refine Kd.C_drewN ?_ _) | (with_reducible refine Kd.C_drew ?_))); (case side2 => exact HC0.out); rintro e w' ⟨rfl, ⟨nd, rfl⟩⟩; refine ⟨_, rfl, ?_⟩) | ((with_reducible refine gC_ (f := 41) rfl ?_); refine gM_ (some 14) rfl rfl Try.func41 (by kernel_rfl) rfl #[.slice A0 l0.length c0] rfl ?_; (with_reducible refine (spec_DrawFactAdd.calls k _ _ l0 t290 t293 t294 t295 t296 t297 t298 _ ?side1 ?side2 A4.out).mono ?_); (case side1 => repeat (first | exact HR0.out | (with_reducible refine Kd.C_alloc ?_ _) | (with_reducible refine Kd.C_drewN ?_ _) | (with_reducible refine Kd.C_drew ?_))); (case side2 => exact HC0.out); rintro e w130 ⟨v291, rfl, ho0, hb⟩; refine ⟨_, rfl, ?_⟩; have n0_ := Ad_.mk (Kd.R_lower ho0 (bZ_ (by repeat (with_reducible first | exact HB.out | apply bA_ | apply bN_ | apply b1_)))); have n1_ := Ad_.mk (bP_ (by repeat (with_reducible first | exact HB.out | apply bA_ | apply bN_ | apply b1_)) hb); clear HB; have HO292 := n0_; have HB := n1_; clear n0_ n1_; (try clear hb); (try clear hb2); (try clear hk); (try clear hi); (try clear ho0)) | ((with_reducible refine gD_ (N := 4) rfl ?_); (try (refine gate_guard (by rfl) ?_; dsimp only)); refine bE_ ?hg (N := 4) ?hd (cs := #[.int .i64 0, .int .i64 0, .int .i64 0, .int .i64 0, .int .i64 0, .int .i64 0]) (t := 43) ?hr ?_; (case hd => rfl); (case hg => rfl); (case hr => first | (go_simp; done) | (go_simp; rfl)); intro gb299 hg w131 hbox hb; have n0_ := Ad_.mk (Kd.R_below (Kd.R_elderB (by (with_reducible repeat (first | apply Kd.R_alloc | apply Kd.R_drewN | apply Kd.R_drew)); exact HO292.out) gb299 (Nat.le_of_eq hg.symm)) hb); have n1_ := Ad_.mk (bP_ (by repeat (with_reducible first | exact HB.out | apply bA_ | apply bN_ | apply b1_)) hb); have n2_ := Ad_.mk (hbox); have n3_ := Ad_.mk ((by rw [hg]; exact (bZ_ (by repeat (with_reducible first | exact HB.out | apply bA_ | apply bN_ | apply b1_))) : w.heap.size ≤ gb299)); have n4_ := Ad_.mk ((by rw [hg]; exact (bZ_ (by repeat (with_reducible first | exact HB.out | apply bA_ | apply bN_ | apply b1_))) : w.heap.size ≤ gb299)); clear HO292; clear HB; have HO292 := n0_; have HB := n1_; have BK299 := n2_; have GW299 := n3_; have GE299 := n4_; clear n0_ n1_ n2_ n3_ n4_; clear hb hbox hg; obtain ⟨hcz132_0, hcz132_1, hcz132_2, hcz132_3, hcz132_4, hcz132_5⟩ := cells6_ BK299.out; obtain ⟨hfz132_0, hfz132_1, hfz132_2, hfz132_3, hfz132_4, hfz132_5⟩ := froz6_ BK299.out; obtain ⟨Ao133, co133, eo133⟩ := Kd.R_slice HO292.out; subst eo133) | ((with_reducible refine gC_ (f := 42) rfl ?_); refine gM_ (some 19) rfl rfl Try.func42 (by kernel_rfl) rfl #[.slice Ao133 t290.length co133, .agg #[.int .i64 t293, .int .i64 t294, .int .i64 t295, .int .i64 t296, .int .i64 t297, .int .i64 t298]] rfl ?_; (with_reducible refine (impl_FactAdd.calls k _ _ t290 t293 t294 t295 t296 t297 t298 t300 _ ?side1 ?side2 A5.out).mono ?_); (case side1 => refine (Kd.R_reads' (e := 43) (base := w.heap.size) (ok := fun k_ => (True ∧ k_ ≠ gb299)) (n := t290.length) (c := co133) ?_).2.2; exact (by (with_reducible repeat (first | apply Kd.R_alloc | apply Kd.R_drewN | apply Kd.R_drew)); exact (Kd.R_mono (Kd.R_far (p := ⟨gb299, 5, none⟩) (Kd.R_far (p := ⟨gb299, 4, none⟩) (Kd.R_far (p := ⟨gb299, 3, none⟩) (Kd.R_far (p := ⟨gb299, 2, none⟩) (Kd.R_far (p := ⟨gb299, 1, none⟩) (Kd.R_far (p := ⟨gb299, 0, none⟩) (Kd.R_mono HO292.out (fun k_ hk => (⟨hk, hk.2⟩ : _ ∧ k_ ≠ gb299))) (fun _ hk => hk.2) (.int .i64 t293)) (fun _ hk => hk.2) (.int .i64 t294)) (fun _ hk => hk.2) (.int .i64 t295)) (fun _ hk => hk.2) (.int .i64 t296)) (fun _ hk => hk.2) (.int .i64 t297)) (fun _ hk => hk.2) (.int .i64 t298)) (fun _ h_ => h_.1)))); (case side2 => exact (Kd.R_reads' HO292.out).2.1); rintro e w134 ⟨v301, rfl, ho0, hb⟩; refine ⟨_, rfl, ?_⟩; have n0_ := Ad_.mk (Kd.R_elder' (by (with_reducible repeat (first | apply Kd.R_alloc | apply Kd.R_drewN | apply Kd.R_drew)); exact (Kd.R_mono (Kd.R_far (p := ⟨gb299, 5, none⟩) (Kd.R_far (p := ⟨gb299, 4, none⟩) (Kd.R_far (p := ⟨gb299, 3, none⟩) (Kd.R_far (p := ⟨gb299, 2, none⟩) (Kd.R_far (p := ⟨gb299, 1, none⟩) (Kd.R_far (p := ⟨gb299, 0, none⟩) (Kd.R_mono HO292.out (fun k_ hk => (⟨hk, hk.2⟩ : _ ∧ k_ ≠ gb299))) (fun _ hk => hk.2) (.int .i64 t293)) (fun _ hk => hk.2) (.int .i64 t294)) (fun _ hk => hk.2) (.int .i64 t295)) (fun _ hk => hk.2) (.int .i64 t296)) (fun _ hk => hk.2) (.int .i64 t297)) (fun _ hk => hk.2) (.int .i64 t298)) (fun _ h_ => h_.1))) (Kd.R_base ho0) hb); have n1_ := Ad_.mk (Kd.R_lower (Kd.R_newB (Kd.R_new' ho0 (Kd.R_lt (by (with_reducible repeat (first | apply Kd.R_alloc | apply Kd.R_drewN | apply Kd.R_drew)); exact (Kd.R_mono (Kd.R_far (p := ⟨gb299, 5, none⟩) (Kd.R_far (p := ⟨gb299, 4, none⟩) (Kd.R_far (p := ⟨gb299, 3, none⟩) (Kd.R_far (p := ⟨gb299, 2, none⟩) (Kd.R_far (p := ⟨gb299, 1, none⟩) (Kd.R_far (p := ⟨gb299, 0, none⟩) (Kd.R_mono HO292.out (fun k_ hk => (⟨hk, hk.2⟩ : _ ∧ k_ ≠ gb299))) (fun _ hk => hk.2) (.int .i64 t293)) (fun _ hk => hk.2) (.int .i64 t294)) (fun _ hk => hk.2) (.int .i64 t295)) (fun _ hk => hk.2) (.int .i64 t296)) (fun _ hk => hk.2) (.int .i64 t297)) (fun _ hk => hk.2) (.int .i64 t298)) (fun _ h_ => h_.1))))) (g := gb299) (o := .cells #[.int .i64 t293, .int .i64 t294, .int .i64 t295, .int .i64 t296, .int .i64 t297, .int .i64 t298] 43 (0, 0)) (by (with_reducible repeat (first | refine kN_ ?_ _ | refine k1_ ?_ | refine kA_ ?_ _)); refine blk_put (cs := #[.int .i64 t293, .int .i64 t294, .int .i64 t295, .int .i64 t296, .int .i64 t297, .int .i64 0]) ?_ 5 _ rfl; (with_reducible repeat (first | refine kN_ ?_ _ | refine k1_ ?_ | refine kA_ ?_ _)); refine blk_put (cs := #[.int .i64 t293, .int .i64 t294, .int .i64 t295, .int .i64 t296, .int .i64 0, .int .i64 0]) ?_ 4 _ rfl; (with_reducible repeat (first | refine kN_ ?_ _ | refine k1_ ?_ | refine kA_ ?_ _)); refine blk_put (cs := #[.int .i64 t293, .int .i64 t294, .int .i64 t295, .int .i64 0, .int .i64 0, .int .i64 0]) ?_ 3 _ rfl; (with_reducible repeat (first | refine kN_ ?_ _ | refine k1_ ?_ | refine kA_ ?_ _)); refine blk_put (cs := #[.int .i64 t293, .int .i64 t294, .int .i64 0, .int .i64 0, .int .i64 0, .int .i64 0]) ?_ 2 _ rfl; (with_reducible repeat (first | refine kN_ ?_ _ | refine k1_ ?_ | refine kA_ ?_ _)); refine blk_put (cs := #[.int .i64 t293, .int .i64 0, .int .i64 0, .int .i64 0, .int .i64 0, .int .i64 0]) ?_ 1 _ rfl; (with_reducible repeat (first | refine kN_ ?_ _ | refine k1_ ?_ | refine kA_ ?_ _)); refine blk_put (cs := #[.int .i64 0, .int .i64 0, .int .i64 0, .int .i64 0, .int .i64 0, .int .i64 0]) ?_ 0 _ rfl; (with_reducible repeat (first | refine kN_ ?_ _ | refine k1_ ?_ | refine kA_ ?_ _)); exact BK299.out)) (bZ_ (by repeat (with_reducible first | exact HB.out | apply bA_ | apply bN_ | apply b1_ | refine bS_ ?_ GE299.out)))); have n2_ := Ad_.mk (blk_below (g := gb299) (o := .cells #[.int .i64 t293, .int .i64 t294, .int .i64 t295, .int .i64 t296, .int .i64 t297, .int .i64 t298] 43 (0, 0)) (by (with_reducible repeat (first | refine kN_ ?_ _ | refine k1_ ?_ | refine kA_ ?_ _)); refine blk_put (cs := #[.int .i64 t293, .int .i64 t294, .int .i64 t295, .int .i64 t296, .int .i64 t297, .int .i64 0]) ?_ 5 _ rfl; (with_reducible repeat (first | refine kN_ ?_ _ | refine k1_ ?_ | refine kA_ ?_ _)); refine blk_put (cs := #[.int .i64 t293, .int .i64 t294, .int .i64 t295, .int .i64 t296, .int .i64 0, .int .i64 0]) ?_ 4 _ rfl; (with_reducible repeat (first | refine kN_ ?_ _ | refine k1_ ?_ | refine kA_ ?_ _)); refine blk_put (cs := #[.int .i64 t293, .int .i64 t294, .int .i64 t295, .int .i64 0, .int .i64 0, .int .i64 0]) ?_ 3 _ rfl; (with_reducible repeat (first | refine kN_ ?_ _ | refine k1_ ?_ | refine kA_ ?_ _)); refine blk_put (cs := #[.int .i64 t293, .int .i64 t294, .int .i64 0, .int .i64 0, .int .i64 0, .int .i64 0]) ?_ 2 _ rfl; (with_reducible repeat (first | refine kN_ ?_ _ | refine k1_ ?_ | refine kA_ ?_ _)); refine blk_put (cs := #[.int .i64 t293, .int .i64 0, .int .i64 0, .int .i64 0, .int .i64 0, .int .i64 0]) ?_ 1 _ rfl; (with_reducible repeat (first | refine kN_ ?_ _ | refine k1_ ?_ | refine kA_ ?_ _)); refine blk_put (cs := #[.int .i64 0, .int .i64 0, .int .i64 0, .int .i64 0, .int .i64 0, .int .i64 0]) ?_ 0 _ rfl; (with_reducible repeat (first | refine kN_ ?_ _ | refine k1_ ?_ | refine kA_ ?_ _)); exact BK299.out) hb); have n3_ := Ad_.mk (bP_ (by repeat (with_reducible first | exact HB.out | apply bA_ | apply bN_ | apply b1_ | refine bS_ ?_ GE299.out)) hb); clear HO292; clear BK299; clear HB; have HO292 := n0_; have HO302 := n1_; have BK299 := n2_; have HB := n3_; clear n0_ n1_ n2_ n3_; (try clear hb); (try clear hb2); (try clear hk); (try clear hi); (try clear ho0)) | ((with_reducible refine gC_ (f := 37) rfl ?_); refine gM_ (some 21) rfl rfl Try.func37 (by kernel_rfl) rfl #[.slice Ao133 t290.length co133] rfl ?_; (with_reducible refine (spec_FactsOk.calls k _ _ t290 false _ ?side1 ?side2 A6.out).mono ?_); (case side1 => repeat (first | exact (Kd.R_reads' HO292.out).2.2 | (with_reducible refine Kd.C_alloc ?_ _) | (with_reducible refine Kd.C_drewN ?_ _) | (with_reducible refine Kd.C_drew ?_))); (case side2 => exact (Kd.R_reads' HO292.out).2.1); rintro e w135 ⟨rfl, hb⟩; refine ⟨_, rfl, ?_⟩; have n0_ := Ad_.mk (Kd.R_below (by (with_reducible repeat (first | apply Kd.R_alloc | apply Kd.R_drewN | apply Kd.R_drew)); exact HO292.out) hb); have n1_ := Ad_.mk (Kd.R_below (by (with_reducible repeat (first | apply Kd.R_alloc | apply Kd.R_drewN | apply Kd.R_drew)); exact HO302.out) hb); have n2_ := Ad_.mk (blk_below (g := gb299) (o := .cells #[.int .i64 t293, .int .i64 t294, .int .i64 t295, .int .i64 t296, .int .i64 t297, .int .i64 t298] 43 (0, 0)) (by (with_reducible repeat (first | refine kN_ ?_ _ | refine k1_ ?_ | refine kA_ ?_ _)); exact BK299.out) hb); have n3_ := Ad_.mk (bP_ (by repeat (with_reducible first | exact HB.out | apply bA_ | apply bN_ | apply b1_ | refine bS_ ?_ GE299.out)) hb); clear HO292; clear HO302; clear BK299; clear HB; have HO292 := n0_; have HO302 := n1_; have BK299 := n2_; have HB := n3_; clear n0_ n1_ n2_ n3_; (try clear hb); (try clear hb2); (try clear hk); (try clear hi); obtain ⟨Ao136, co136, eo136⟩ := Kd.R_slice HO302.out; subst eo136) | ((with_reducible refine gC_ (f := 35) rfl ?_); refine gM_ (some 25) rfl rfl Try.func35 (by kernel_rfl) rfl #[.slice Ao136 t300.length co136, .slice Ao133 t290.length co133] rfl ?_; (with_reducible refine (impl_SameFacts.calls k _ _ t300 _ _ t290 true _ ?side1 ?side2 ?side3 ?side4 A127.out).mono ?_); (case side1 => repeat (first | exact (Kd.R_reads' HO302.out).2.2 | (with_reducible refine Kd.C_alloc ?_ _) | (with_reducible refine Kd.C_drewN ?_ _) | (with_reducible refine Kd.C_drew ?_))); (case side2 => exact (Kd.R_reads' HO302.out).2.1); (case side3 => repeat (first | exact (Kd.R_reads' HO292.out).2.2 | (with_reducible refine Kd.C_alloc ?_ _) | (with_reducible refine Kd.C_drewN ?_ _) | (with_reducible refine Kd.C_drew ?_))); (case side4 => exact (Kd.R_reads' HO292.out).2.1); rintro e w' ⟨rfl, ⟨nd, rfl⟩⟩; refine ⟨_, rfl, ?_⟩; obtain ⟨hcz137_0, hcz137_1, hcz137_2, hcz137_3, hcz137_4, hcz137_5⟩ := cells6_ BK299.out; obtain ⟨hfz137_0, hfz137_1, hfz137_2, hfz137_3, hfz137_4, hfz137_5⟩ := froz6_ BK299.out) | (go_at_call 40; (with_reducible refine (impl_FactHas.calls k _ _ t290 t293 t294 t295 t296 t297 t298 t305 _ ?side1 ?side2 A129.out).mono ?_); (case side1 => repeat (first | exact (Kd.R_reads' HO292.out).2.2 | (with_reducible refine Kd.C_alloc ?_ _) | (with_reducible refine Kd.C_drewN ?_ _) | (with_reducible refine Kd.C_drew ?_))); (case side2 => exact (Kd.R_reads' HO292.out).2.1); rintro e w138 ⟨rfl, hb⟩; have n0_ := Ad_.mk (Kd.R_below (by (with_reducible repeat (first | apply Kd.R_alloc | apply Kd.R_drewN | apply Kd.R_drew)); exact HO292.out) hb); have n1_ := Ad_.mk (Kd.R_below (by (with_reducible repeat (first | apply Kd.R_alloc | apply Kd.R_drewN | apply Kd.R_drew)); exact HO302.out) hb); have n2_ := Ad_.mk (blk_below (g := gb299) (o := .cells #[.int .i64 t293, .int .i64 t294, .int .i64 t295, .int .i64 t296, .int .i64 t297, .int .i64 t298] 43 (0, 0)) (by (with_reducible repeat (first | refine kN_ ?_ _ | refine k1_ ?_ | refine kA_ ?_ _)); exact BK299.out) hb); have n3_ := Ad_.mk (bP_ (by repeat (with_reducible first | exact HB.out | apply bA_ | apply bN_ | apply b1_ | refine bS_ ?_ GE299.out)) hb); clear HO292; clear HO302; clear BK299; clear HB; have HO292 := n0_; have HO302 := n1_; have BK299 := n2_; have HB := n3_; clear n0_ n1_ n2_ n3_; (try clear hb); (try clear hb2); (try clear hk); (try clear hi)))
   go_ret
   exact ⟨by first | rfl | (simp [errW_none, errW_some] <;> rfl) | (simp [*, errW_none, errW_some] <;> rfl), by repeat (with_reducible first | exact HB.out | apply bA_ | apply bN_ | apply b1_ | refine bS_ ?_ GE299.out)⟩
  subst c7
  have H1 := H
  rw [if_pos rfl] at H1
  clear H
  have H := H1
  clear H1
  have HC8 := Ad_.mk H
  clear H
  go_enter Try.func11, Try.ntmps11
  go_upto_region 7 with (first | ((with_reducible refine gC_ (f := 29) rfl ?_); refine gM_ (some 11) rfl rfl Try.func29 (by kernel_rfl) rfl #[.slice A0 l0.length c0] rfl ?_; (with_reducible refine (laws_big.calls _ _ l0 false _ ?side1 ?side2 A2.out).mono ?_); (case side1 => repeat (first | exact HR0.out | (with_reducible refine Kd.C_alloc ?_ _) | (with_reducible refine Kd.C_drewN ?_ _) | (with_reducible refine Kd.C_drew ?_))); (case side2 => exact HC0.out); rintro e w' ⟨rfl, ⟨nd, rfl⟩⟩; refine ⟨_, rfl, ?_⟩) | ((with_reducible refine gC_ (f := 41) rfl ?_); refine gM_ (some 14) rfl rfl Try.func41 (by kernel_rfl) rfl #[.slice A0 l0.length c0] rfl ?_; (with_reducible refine (spec_DrawFactAdd.calls k _ _ l0 t290 t293 t294 t295 t296 t297 t298 _ ?side1 ?side2 A4.out).mono ?_); (case side1 => repeat (first | exact HR0.out | (with_reducible refine Kd.C_alloc ?_ _) | (with_reducible refine Kd.C_drewN ?_ _) | (with_reducible refine Kd.C_drew ?_))); (case side2 => exact HC0.out); rintro e w9 ⟨v291, rfl, ho0, hb⟩; refine ⟨_, rfl, ?_⟩; have n0_ := Ad_.mk (Kd.R_lower ho0 (bZ_ (by repeat (with_reducible first | exact HB.out | apply bA_ | apply bN_ | apply b1_)))); have n1_ := Ad_.mk (bP_ (by repeat (with_reducible first | exact HB.out | apply bA_ | apply bN_ | apply b1_)) hb); clear HB; have HO292 := n0_; have HB := n1_; clear n0_ n1_; (try clear hb); (try clear hb2); (try clear hk); (try clear hi); (try clear ho0)) | ((with_reducible refine gD_ (N := 4) rfl ?_); (try (refine gate_guard (by rfl) ?_; dsimp only)); refine bE_ ?hg (N := 4) ?hd (cs := #[.int .i64 0, .int .i64 0, .int .i64 0, .int .i64 0, .int .i64 0, .int .i64 0]) (t := 43) ?hr ?_; (case hd => rfl); (case hg => rfl); (case hr => first | (go_simp; done) | (go_simp; rfl)); intro gb299 hg w10 hbox hb; have n0_ := Ad_.mk (Kd.R_below (Kd.R_elderB (by (with_reducible repeat (first | apply Kd.R_alloc | apply Kd.R_drewN | apply Kd.R_drew)); exact HO292.out) gb299 (Nat.le_of_eq hg.symm)) hb); have n1_ := Ad_.mk (bP_ (by repeat (with_reducible first | exact HB.out | apply bA_ | apply bN_ | apply b1_)) hb); have n2_ := Ad_.mk (hbox); have n3_ := Ad_.mk ((by rw [hg]; exact (bZ_ (by repeat (with_reducible first | exact HB.out | apply bA_ | apply bN_ | apply b1_))) : w.heap.size ≤ gb299)); have n4_ := Ad_.mk ((by rw [hg]; exact (bZ_ (by repeat (with_reducible first | exact HB.out | apply bA_ | apply bN_ | apply b1_))) : w.heap.size ≤ gb299)); clear HO292; clear HB; have HO292 := n0_; have HB := n1_; have BK299 := n2_; have GW299 := n3_; have GE299 := n4_; clear n0_ n1_ n2_ n3_ n4_; clear hb hbox hg; obtain ⟨hcz11_0, hcz11_1, hcz11_2, hcz11_3, hcz11_4, hcz11_5⟩ := cells6_ BK299.out; obtain ⟨hfz11_0, hfz11_1, hfz11_2, hfz11_3, hfz11_4, hfz11_5⟩ := froz6_ BK299.out; obtain ⟨Ao12, co12, eo12⟩ := Kd.R_slice HO292.out; subst eo12) | ((with_reducible refine gC_ (f := 42) rfl ?_); refine gM_ (some 19) rfl rfl Try.func42 (by kernel_rfl) rfl #[.slice Ao12 t290.length co12, .agg #[.int .i64 t293, .int .i64 t294, .int .i64 t295, .int .i64 t296, .int .i64 t297, .int .i64 t298]] rfl ?_; (with_reducible refine (impl_FactAdd.calls k _ _ t290 t293 t294 t295 t296 t297 t298 t300 _ ?side1 ?side2 A5.out).mono ?_); (case side1 => refine (Kd.R_reads' (e := 43) (base := w.heap.size) (ok := fun k_ => (True ∧ k_ ≠ gb299)) (n := t290.length) (c := co12) ?_).2.2; exact (by (with_reducible repeat (first | apply Kd.R_alloc | apply Kd.R_drewN | apply Kd.R_drew)); exact (Kd.R_mono (Kd.R_far (p := ⟨gb299, 5, none⟩) (Kd.R_far (p := ⟨gb299, 4, none⟩) (Kd.R_far (p := ⟨gb299, 3, none⟩) (Kd.R_far (p := ⟨gb299, 2, none⟩) (Kd.R_far (p := ⟨gb299, 1, none⟩) (Kd.R_far (p := ⟨gb299, 0, none⟩) (Kd.R_mono HO292.out (fun k_ hk => (⟨hk, hk.2⟩ : _ ∧ k_ ≠ gb299))) (fun _ hk => hk.2) (.int .i64 t293)) (fun _ hk => hk.2) (.int .i64 t294)) (fun _ hk => hk.2) (.int .i64 t295)) (fun _ hk => hk.2) (.int .i64 t296)) (fun _ hk => hk.2) (.int .i64 t297)) (fun _ hk => hk.2) (.int .i64 t298)) (fun _ h_ => h_.1)))); (case side2 => exact (Kd.R_reads' HO292.out).2.1); rintro e w13 ⟨v301, rfl, ho0, hb⟩; refine ⟨_, rfl, ?_⟩; have n0_ := Ad_.mk (Kd.R_elder' (by (with_reducible repeat (first | apply Kd.R_alloc | apply Kd.R_drewN | apply Kd.R_drew)); exact (Kd.R_mono (Kd.R_far (p := ⟨gb299, 5, none⟩) (Kd.R_far (p := ⟨gb299, 4, none⟩) (Kd.R_far (p := ⟨gb299, 3, none⟩) (Kd.R_far (p := ⟨gb299, 2, none⟩) (Kd.R_far (p := ⟨gb299, 1, none⟩) (Kd.R_far (p := ⟨gb299, 0, none⟩) (Kd.R_mono HO292.out (fun k_ hk => (⟨hk, hk.2⟩ : _ ∧ k_ ≠ gb299))) (fun _ hk => hk.2) (.int .i64 t293)) (fun _ hk => hk.2) (.int .i64 t294)) (fun _ hk => hk.2) (.int .i64 t295)) (fun _ hk => hk.2) (.int .i64 t296)) (fun _ hk => hk.2) (.int .i64 t297)) (fun _ hk => hk.2) (.int .i64 t298)) (fun _ h_ => h_.1))) (Kd.R_base ho0) hb); have n1_ := Ad_.mk (Kd.R_lower (Kd.R_newB (Kd.R_new' ho0 (Kd.R_lt (by (with_reducible repeat (first | apply Kd.R_alloc | apply Kd.R_drewN | apply Kd.R_drew)); exact (Kd.R_mono (Kd.R_far (p := ⟨gb299, 5, none⟩) (Kd.R_far (p := ⟨gb299, 4, none⟩) (Kd.R_far (p := ⟨gb299, 3, none⟩) (Kd.R_far (p := ⟨gb299, 2, none⟩) (Kd.R_far (p := ⟨gb299, 1, none⟩) (Kd.R_far (p := ⟨gb299, 0, none⟩) (Kd.R_mono HO292.out (fun k_ hk => (⟨hk, hk.2⟩ : _ ∧ k_ ≠ gb299))) (fun _ hk => hk.2) (.int .i64 t293)) (fun _ hk => hk.2) (.int .i64 t294)) (fun _ hk => hk.2) (.int .i64 t295)) (fun _ hk => hk.2) (.int .i64 t296)) (fun _ hk => hk.2) (.int .i64 t297)) (fun _ hk => hk.2) (.int .i64 t298)) (fun _ h_ => h_.1))))) (g := gb299) (o := .cells #[.int .i64 t293, .int .i64 t294, .int .i64 t295, .int .i64 t296, .int .i64 t297, .int .i64 t298] 43 (0, 0)) (by (with_reducible repeat (first | refine kN_ ?_ _ | refine k1_ ?_ | refine kA_ ?_ _)); refine blk_put (cs := #[.int .i64 t293, .int .i64 t294, .int .i64 t295, .int .i64 t296, .int .i64 t297, .int .i64 0]) ?_ 5 _ rfl; (with_reducible repeat (first | refine kN_ ?_ _ | refine k1_ ?_ | refine kA_ ?_ _)); refine blk_put (cs := #[.int .i64 t293, .int .i64 t294, .int .i64 t295, .int .i64 t296, .int .i64 0, .int .i64 0]) ?_ 4 _ rfl; (with_reducible repeat (first | refine kN_ ?_ _ | refine k1_ ?_ | refine kA_ ?_ _)); refine blk_put (cs := #[.int .i64 t293, .int .i64 t294, .int .i64 t295, .int .i64 0, .int .i64 0, .int .i64 0]) ?_ 3 _ rfl; (with_reducible repeat (first | refine kN_ ?_ _ | refine k1_ ?_ | refine kA_ ?_ _)); refine blk_put (cs := #[.int .i64 t293, .int .i64 t294, .int .i64 0, .int .i64 0, .int .i64 0, .int .i64 0]) ?_ 2 _ rfl; (with_reducible repeat (first | refine kN_ ?_ _ | refine k1_ ?_ | refine kA_ ?_ _)); refine blk_put (cs := #[.int .i64 t293, .int .i64 0, .int .i64 0, .int .i64 0, .int .i64 0, .int .i64 0]) ?_ 1 _ rfl; (with_reducible repeat (first | refine kN_ ?_ _ | refine k1_ ?_ | refine kA_ ?_ _)); refine blk_put (cs := #[.int .i64 0, .int .i64 0, .int .i64 0, .int .i64 0, .int .i64 0, .int .i64 0]) ?_ 0 _ rfl; (with_reducible repeat (first | refine kN_ ?_ _ | refine k1_ ?_ | refine kA_ ?_ _)); exact BK299.out)) (bZ_ (by repeat (with_reducible first | exact HB.out | apply bA_ | apply bN_ | apply b1_ | refine bS_ ?_ GE299.out)))); have n2_ := Ad_.mk (blk_below (g := gb299) (o := .cells #[.int .i64 t293, .int .i64 t294, .int .i64 t295, .int .i64 t296, .int .i64 t297, .int .i64 t298] 43 (0, 0)) (by (with_reducible repeat (first | refine kN_ ?_ _ | refine k1_ ?_ | refine kA_ ?_ _)); refine blk_put (cs := #[.int .i64 t293, .int .i64 t294, .int .i64 t295, .int .i64 t296, .int .i64 t297, .int .i64 0]) ?_ 5 _ rfl; (with_reducible repeat (first | refine kN_ ?_ _ | refine k1_ ?_ | refine kA_ ?_ _)); refine blk_put (cs := #[.int .i64 t293, .int .i64 t294, .int .i64 t295, .int .i64 t296, .int .i64 0, .int .i64 0]) ?_ 4 _ rfl; (with_reducible repeat (first | refine kN_ ?_ _ | refine k1_ ?_ | refine kA_ ?_ _)); refine blk_put (cs := #[.int .i64 t293, .int .i64 t294, .int .i64 t295, .int .i64 0, .int .i64 0, .int .i64 0]) ?_ 3 _ rfl; (with_reducible repeat (first | refine kN_ ?_ _ | refine k1_ ?_ | refine kA_ ?_ _)); refine blk_put (cs := #[.int .i64 t293, .int .i64 t294, .int .i64 0, .int .i64 0, .int .i64 0, .int .i64 0]) ?_ 2 _ rfl; (with_reducible repeat (first | refine kN_ ?_ _ | refine k1_ ?_ | refine kA_ ?_ _)); refine blk_put (cs := #[.int .i64 t293, .int .i64 0, .int .i64 0, .int .i64 0, .int .i64 0, .int .i64 0]) ?_ 1 _ rfl; (with_reducible repeat (first | refine kN_ ?_ _ | refine k1_ ?_ | refine kA_ ?_ _)); refine blk_put (cs := #[.int .i64 0, .int .i64 0, .int .i64 0, .int .i64 0, .int .i64 0, .int .i64 0]) ?_ 0 _ rfl; (with_reducible repeat (first | refine kN_ ?_ _ | refine k1_ ?_ | refine kA_ ?_ _)); exact BK299.out) hb); have n3_ := Ad_.mk (bP_ (by repeat (with_reducible first | exact HB.out | apply bA_ | apply bN_ | apply b1_ | refine bS_ ?_ GE299.out)) hb); clear HO292; clear BK299; clear HB; have HO292 := n0_; have HO302 := n1_; have BK299 := n2_; have HB := n3_; clear n0_ n1_ n2_ n3_; (try clear hb); (try clear hb2); (try clear hk); (try clear hi); (try clear ho0)) | ((with_reducible refine gC_ (f := 37) rfl ?_); refine gM_ (some 21) rfl rfl Try.func37 (by kernel_rfl) rfl #[.slice Ao12 t290.length co12] rfl ?_; (with_reducible refine (spec_FactsOk.calls k _ _ t290 true _ ?side1 ?side2 A6.out).mono ?_); (case side1 => repeat (first | exact (Kd.R_reads' HO292.out).2.2 | (with_reducible refine Kd.C_alloc ?_ _) | (with_reducible refine Kd.C_drewN ?_ _) | (with_reducible refine Kd.C_drew ?_))); (case side2 => exact (Kd.R_reads' HO292.out).2.1); rintro e w14 ⟨rfl, hb⟩; refine ⟨_, rfl, ?_⟩; have n0_ := Ad_.mk (Kd.R_below (by (with_reducible repeat (first | apply Kd.R_alloc | apply Kd.R_drewN | apply Kd.R_drew)); exact HO292.out) hb); have n1_ := Ad_.mk (Kd.R_below (by (with_reducible repeat (first | apply Kd.R_alloc | apply Kd.R_drewN | apply Kd.R_drew)); exact HO302.out) hb); have n2_ := Ad_.mk (blk_below (g := gb299) (o := .cells #[.int .i64 t293, .int .i64 t294, .int .i64 t295, .int .i64 t296, .int .i64 t297, .int .i64 t298] 43 (0, 0)) (by (with_reducible repeat (first | refine kN_ ?_ _ | refine k1_ ?_ | refine kA_ ?_ _)); exact BK299.out) hb); have n3_ := Ad_.mk (bP_ (by repeat (with_reducible first | exact HB.out | apply bA_ | apply bN_ | apply b1_ | refine bS_ ?_ GE299.out)) hb); clear HO292; clear HO302; clear BK299; clear HB; have HO292 := n0_; have HO302 := n1_; have BK299 := n2_; have HB := n3_; clear n0_ n1_ n2_ n3_; (try clear hb); (try clear hb2); (try clear hk); (try clear hi)))
  (try simp only [Act.put, List.setIfInBounds_toArray, List.set_cons_zero, List.set_cons_succ])
  go_cut [65] (fun v65 wc => ∃ (kq : Nat) (x65_7 : Bool), v65 = .bool x65_7 ∧ Ad_ (laws_FnFacts.j0 kq t290 t300 x65_7 t293 t294 t295 t296 t297 t298 = some r) ∧ Ad_ (kq ≤ k) ∧ Ad_ (Kd.R k43 43 wc w.heap.size (fun k_ => some k_ ≠ (v301 : Value).ownBlock ∧ k_ ≠ gb299) (.slice Ao12 t290.length co12) t290) ∧ Ad_ (Kd.R k43 43 wc w.heap.size (fun k_ => some k_ ≠ ((.slice Ao12 t290.length co12) : Value).ownBlock ∧ k_ ≠ gb299) v301 t300) ∧ Ad_ (wc.heap[gb299]? = some (.cells #[.int .i64 t293, .int .i64 t294, .int .i64 t295, .int .i64 t296, .int .i64 t297, .int .i64 t298] 43 (0, 0))) ∧ Ad_ (Below w.heap.size w wc))
  case first =>
    have H := HC8.out
    clear HC8
    replace H := Option.bind_eq_some_iff.mp H
    obtain ⟨t306, A150, H⟩ := H
    try dsimp only at H
    have A15 := Ad_.mk A150
    clear A150
    by_cases c16 : t306 = true
    rotate_left
    ·
     replace c16 := Bool.eq_false_iff.mpr c16
     subst c16
     have H1 : (laws_FnFacts.j0 k t290 t300 true t293 t294 t295 t296 t297 t298) = some r := by rw [if_neg (show ¬ (false = true) by decide)] at H; exact H
     clear H
     have H := H1
     clear H1
     have H' := Ad_.mk H
     clear H
     obtain ⟨Ao66, co66, eo66⟩ := Kd.R_slice HO302.out
     subst eo66
     go_wp2_with (first | ((with_reducible refine gC_ (f := 37) rfl ?_); refine gM_ (some 33) rfl rfl Try.func37 (by kernel_rfl) rfl #[.slice Ao66 t300.length co66] rfl ?_; (with_reducible refine (spec_FactsOk.calls k _ _ t300 false _ ?side1 ?side2 A15.out).mono ?_); (case side1 => repeat (first | exact (Kd.R_reads' HO302.out).2.2 | (with_reducible refine Kd.C_alloc ?_ _) | (with_reducible refine Kd.C_drewN ?_ _) | (with_reducible refine Kd.C_drew ?_))); (case side2 => exact (Kd.R_reads' HO302.out).2.1); rintro e w67 ⟨rfl, hb⟩; refine ⟨_, rfl, ?_⟩; have n0_ := Ad_.mk (Kd.R_below (by (with_reducible repeat (first | apply Kd.R_alloc | apply Kd.R_drewN | apply Kd.R_drew)); exact HO292.out) hb); have n1_ := Ad_.mk (Kd.R_below (by (with_reducible repeat (first | apply Kd.R_alloc | apply Kd.R_drewN | apply Kd.R_drew)); exact HO302.out) hb); have n2_ := Ad_.mk (blk_below (g := gb299) (o := .cells #[.int .i64 t293, .int .i64 t294, .int .i64 t295, .int .i64 t296, .int .i64 t297, .int .i64 t298] 43 (0, 0)) (by (with_reducible repeat (first | refine kN_ ?_ _ | refine k1_ ?_ | refine kA_ ?_ _)); exact BK299.out) hb); have n3_ := Ad_.mk (bP_ (by repeat (with_reducible first | exact HB.out | apply bA_ | apply bN_ | apply b1_ | refine bS_ ?_ GE299.out)) hb); clear HO292; clear HO302; clear BK299; clear HB; have HO292 := n0_; have HO302 := n1_; have BK299 := n2_; have HB := n3_; clear n0_ n1_ n2_ n3_; (try clear hb); (try clear hb2); (try clear hk); (try clear hi)))
     go_meet
     case rel => exact ⟨_, (true), fs_, H', ⟨by first | omega | exact Nat.le_refl _⟩, ⟨by (with_reducible repeat (first | apply Kd.R_alloc | apply Kd.R_drewN | apply Kd.R_drew)); exact Kd.R_mono HO292.out (fun _ hk => ⟨hk.2, hk.1.2⟩)⟩, ⟨by (with_reducible repeat (first | apply Kd.R_alloc | apply Kd.R_drewN | apply Kd.R_drew)); exact Kd.R_mono HO302.out (fun _ hk => ⟨hk.1.2, hk.2⟩)⟩, ⟨by (with_reducible repeat (first | refine kN_ ?_ _ | refine k1_ ?_ | refine kA_ ?_ _)); exact BK299.out⟩, ⟨by repeat (with_reducible first | exact HB.out | apply bA_ | apply bN_ | apply b1_ | refine bS_ ?_ GE299.out)⟩⟩
    subst c16
    have H1 := H
    rw [if_pos rfl] at H1
    clear H
    have H := H1
    clear H1
    replace H := Option.bind_eq_some_iff.mp H
    obtain ⟨t307, A170, H⟩ := H
    try dsimp only at H
    have A17 := Ad_.mk A170
    clear A170
    by_cases c18 : t307 = true
    rotate_left
    ·
     replace c18 := Bool.eq_false_iff.mpr c18
     subst c18
     have H1 : (laws_FnFacts.j0 k t290 t300 true t293 t294 t295 t296 t297 t298) = some r := by rw [if_neg (show ¬ (false = true) by decide)] at H; exact H
     clear H
     have H := H1
     clear H1
     have H' := Ad_.mk H
     clear H
     obtain ⟨Ao62, co62, eo62⟩ := Kd.R_slice HO302.out
     subst eo62
     go_wp2_with (first | ((with_reducible refine gC_ (f := 37) rfl ?_); refine gM_ (some 33) rfl rfl Try.func37 (by kernel_rfl) rfl #[.slice Ao62 t300.length co62] rfl ?_; (with_reducible refine (spec_FactsOk.calls k _ _ t300 true _ ?side1 ?side2 A15.out).mono ?_); (case side1 => repeat (first | exact (Kd.R_reads' HO302.out).2.2 | (with_reducible refine Kd.C_alloc ?_ _) | (with_reducible refine Kd.C_drewN ?_ _) | (with_reducible refine Kd.C_drew ?_))); (case side2 => exact (Kd.R_reads' HO302.out).2.1); rintro e w63 ⟨rfl, hb⟩; refine ⟨_, rfl, ?_⟩; have n0_ := Ad_.mk (Kd.R_below (by (with_reducible repeat (first | apply Kd.R_alloc | apply Kd.R_drewN | apply Kd.R_drew)); exact HO292.out) hb); have n1_ := Ad_.mk (Kd.R_below (by (with_reducible repeat (first | apply Kd.R_alloc | apply Kd.R_drewN | apply Kd.R_drew)); exact HO302.out) hb); have n2_ := Ad_.mk (blk_below (g := gb299) (o := .cells #[.int .i64 t293, .int .i64 t294, .int .i64 t295, .int .i64 t296, .int .i64 t297, .int .i64 t298] 43 (0, 0)) (by (with_reducible repeat (first | refine kN_ ?_ _ | refine k1_ ?_ | refine kA_ ?_ _)); exact BK299.out) hb); have n3_ := Ad_.mk (bP_ (by repeat (with_reducible first | exact HB.out | apply bA_ | apply bN_ | apply b1_ | refine bS_ ?_ GE299.out)) hb); clear HO292; clear HO302; clear BK299; clear HB; have HO292 := n0_; have HO302 := n1_; have BK299 := n2_; have HB := n3_; clear n0_ n1_ n2_ n3_; (try clear hb); (try clear hb2); (try clear hk); (try clear hi); obtain ⟨hcz64_0, hcz64_1, hcz64_2, hcz64_3, hcz64_4, hcz64_5⟩ := cells6_ BK299.out; obtain ⟨hfz64_0, hfz64_1, hfz64_2, hfz64_3, hfz64_4, hfz64_5⟩ := froz6_ BK299.out) | (go_at_call 40; (with_reducible refine (impl_FactHas.calls k _ _ t300 t293 t294 t295 t296 t297 t298 false _ ?side1 ?side2 A17.out).mono ?_); (case side1 => repeat (first | exact (Kd.R_reads' HO302.out).2.2 | (with_reducible refine Kd.C_alloc ?_ _) | (with_reducible refine Kd.C_drewN ?_ _) | (with_reducible refine Kd.C_drew ?_))); (case side2 => exact (Kd.R_reads' HO302.out).2.1); rintro e w65 ⟨rfl, hb⟩; have n0_ := Ad_.mk (Kd.R_below (by (with_reducible repeat (first | apply Kd.R_alloc | apply Kd.R_drewN | apply Kd.R_drew)); exact HO292.out) hb); have n1_ := Ad_.mk (Kd.R_below (by (with_reducible repeat (first | apply Kd.R_alloc | apply Kd.R_drewN | apply Kd.R_drew)); exact HO302.out) hb); have n2_ := Ad_.mk (blk_below (g := gb299) (o := .cells #[.int .i64 t293, .int .i64 t294, .int .i64 t295, .int .i64 t296, .int .i64 t297, .int .i64 t298] 43 (0, 0)) (by (with_reducible repeat (first | refine kN_ ?_ _ | refine k1_ ?_ | refine kA_ ?_ _)); exact BK299.out) hb); have n3_ := Ad_.mk (bP_ (by repeat (with_reducible first | exact HB.out | apply bA_ | apply bN_ | apply b1_ | refine bS_ ?_ GE299.out)) hb); clear HO292; clear HO302; clear BK299; clear HB; have HO292 := n0_; have HO302 := n1_; have BK299 := n2_; have HB := n3_; clear n0_ n1_ n2_ n3_; (try clear hb); (try clear hb2); (try clear hk); (try clear hi)))
     go_meet
     case rel => exact ⟨_, (true), fs_, H', ⟨by first | omega | exact Nat.le_refl _⟩, ⟨by (with_reducible repeat (first | apply Kd.R_alloc | apply Kd.R_drewN | apply Kd.R_drew)); exact Kd.R_mono HO292.out (fun _ hk => ⟨hk.2, hk.1.2⟩)⟩, ⟨by (with_reducible repeat (first | apply Kd.R_alloc | apply Kd.R_drewN | apply Kd.R_drew)); exact Kd.R_mono HO302.out (fun _ hk => ⟨hk.1.2, hk.2⟩)⟩, ⟨by (with_reducible repeat (first | refine kN_ ?_ _ | refine k1_ ?_ | refine kA_ ?_ _)); exact BK299.out⟩, ⟨by repeat (with_reducible first | exact HB.out | apply bA_ | apply bN_ | apply b1_ | refine bS_ ?_ GE299.out)⟩⟩
    subst c18
    have H1 := H
    rw [if_pos rfl] at H1
    clear H
    have H := H1
    clear H1
    by_cases c19 : (t300.length : Int) = (wrap64 ((t290.length : Int) + 1))
    ·
     rw [if_pos c19] at H
     have c19b0 : ((t300.length : Int) == (wrap64 ((t290.length : Int) + 1))) = true := beq_iff_eq.mpr c19
     have c19b1 : ((t300.length : Int) != (wrap64 ((t290.length : Int) + 1))) = false := bne_eq_false_iff_eq.mpr c19
     clear c19
     (first | rw [c19b0] | (simp only [i64_w, i32_w]; rw [c19b0]) | skip)
     replace H := Option.bind_eq_some_iff.mp H
     obtain ⟨t308, A200, H⟩ := H
     try dsimp only at H
     have A20 := Ad_.mk A200
     clear A200
     by_cases c21 : t308 = true
     rotate_left
     ·
      replace c21 := Bool.eq_false_iff.mpr c21
      subst c21
      have H1 : (laws_FnFacts.j0 k t290 t300 false t293 t294 t295 t296 t297 t298) = some r := by rw [if_neg (show ¬ (false = true) by decide)] at H; exact H
      clear H
      have H := H1
      clear H1
      have H' := Ad_.mk H
      clear H
      obtain ⟨Ao29, co29, eo29⟩ := Kd.R_slice HO302.out
      subst eo29
      go_wp2_with (first | ((with_reducible refine gC_ (f := 37) rfl ?_); refine gM_ (some 33) rfl rfl Try.func37 (by kernel_rfl) rfl #[.slice Ao29 t300.length co29] rfl ?_; (with_reducible refine (spec_FactsOk.calls k _ _ t300 true _ ?side1 ?side2 A15.out).mono ?_); (case side1 => repeat (first | exact (Kd.R_reads' HO302.out).2.2 | (with_reducible refine Kd.C_alloc ?_ _) | (with_reducible refine Kd.C_drewN ?_ _) | (with_reducible refine Kd.C_drew ?_))); (case side2 => exact (Kd.R_reads' HO302.out).2.1); rintro e w30 ⟨rfl, hb⟩; refine ⟨_, rfl, ?_⟩; have n0_ := Ad_.mk (Kd.R_below (by (with_reducible repeat (first | apply Kd.R_alloc | apply Kd.R_drewN | apply Kd.R_drew)); exact HO292.out) hb); have n1_ := Ad_.mk (Kd.R_below (by (with_reducible repeat (first | apply Kd.R_alloc | apply Kd.R_drewN | apply Kd.R_drew)); exact HO302.out) hb); have n2_ := Ad_.mk (blk_below (g := gb299) (o := .cells #[.int .i64 t293, .int .i64 t294, .int .i64 t295, .int .i64 t296, .int .i64 t297, .int .i64 t298] 43 (0, 0)) (by (with_reducible repeat (first | refine kN_ ?_ _ | refine k1_ ?_ | refine kA_ ?_ _)); exact BK299.out) hb); have n3_ := Ad_.mk (bP_ (by repeat (with_reducible first | exact HB.out | apply bA_ | apply bN_ | apply b1_ | refine bS_ ?_ GE299.out)) hb); clear HO292; clear HO302; clear BK299; clear HB; have HO292 := n0_; have HO302 := n1_; have BK299 := n2_; have HB := n3_; clear n0_ n1_ n2_ n3_; (try clear hb); (try clear hb2); (try clear hk); (try clear hi); obtain ⟨hcz31_0, hcz31_1, hcz31_2, hcz31_3, hcz31_4, hcz31_5⟩ := cells6_ BK299.out; obtain ⟨hfz31_0, hfz31_1, hfz31_2, hfz31_3, hfz31_4, hfz31_5⟩ := froz6_ BK299.out) | (go_at_call 40; (with_reducible refine (impl_FactHas.calls k _ _ t300 t293 t294 t295 t296 t297 t298 true _ ?side1 ?side2 A17.out).mono ?_); (case side1 => repeat (first | exact (Kd.R_reads' HO302.out).2.2 | (with_reducible refine Kd.C_alloc ?_ _) | (with_reducible refine Kd.C_drewN ?_ _) | (with_reducible refine Kd.C_drew ?_))); (case side2 => exact (Kd.R_reads' HO302.out).2.1); rintro e w32 ⟨rfl, hb⟩; have n0_ := Ad_.mk (Kd.R_below (by (with_reducible repeat (first | apply Kd.R_alloc | apply Kd.R_drewN | apply Kd.R_drew)); exact HO292.out) hb); have n1_ := Ad_.mk (Kd.R_below (by (with_reducible repeat (first | apply Kd.R_alloc | apply Kd.R_drewN | apply Kd.R_drew)); exact HO302.out) hb); have n2_ := Ad_.mk (blk_below (g := gb299) (o := .cells #[.int .i64 t293, .int .i64 t294, .int .i64 t295, .int .i64 t296, .int .i64 t297, .int .i64 t298] 43 (0, 0)) (by (with_reducible repeat (first | refine kN_ ?_ _ | refine k1_ ?_ | refine kA_ ?_ _)); exact BK299.out) hb); have n3_ := Ad_.mk (bP_ (by repeat (with_reducible first | exact HB.out | apply bA_ | apply bN_ | apply b1_ | refine bS_ ?_ GE299.out)) hb); clear HO292; clear HO302; clear BK299; clear HB; have HO292 := n0_; have HO302 := n1_; have BK299 := n2_; have HB := n3_; clear n0_ n1_ n2_ n3_; (try clear hb); (try clear hb2); (try clear hk); (try clear hi); obtain ⟨hcz33_0, hcz33_1, hcz33_2, hcz33_3, hcz33_4, hcz33_5⟩ := cells6_ BK299.out; obtain ⟨hfz33_0, hfz33_1, hfz33_2, hfz33_3, hfz33_4, hfz33_5⟩ := froz6_ BK299.out) | (go_at_call 40; (with_reducible refine (impl_FactHas.calls k _ _ t290 t293 t294 t295 t296 t297 t298 false _ ?side1 ?side2 A20.out).mono ?_); (case side1 => repeat (first | exact (Kd.R_reads' HO292.out).2.2 | (with_reducible refine Kd.C_alloc ?_ _) | (with_reducible refine Kd.C_drewN ?_ _) | (with_reducible refine Kd.C_drew ?_))); (case side2 => exact (Kd.R_reads' HO292.out).2.1); rintro e w34 ⟨rfl, hb⟩; have n0_ := Ad_.mk (Kd.R_below (by (with_reducible repeat (first | apply Kd.R_alloc | apply Kd.R_drewN | apply Kd.R_drew)); exact HO292.out) hb); have n1_ := Ad_.mk (Kd.R_below (by (with_reducible repeat (first | apply Kd.R_alloc | apply Kd.R_drewN | apply Kd.R_drew)); exact HO302.out) hb); have n2_ := Ad_.mk (blk_below (g := gb299) (o := .cells #[.int .i64 t293, .int .i64 t294, .int .i64 t295, .int .i64 t296, .int .i64 t297, .int .i64 t298] 43 (0, 0)) (by (with_reducible repeat (first | refine kN_ ?_ _ | refine k1_ ?_ | refine kA_ ?_ _)); exact BK299.out) hb); have n3_ := Ad_.mk (bP_ (by repeat (with_reducible first | exact HB.out | apply bA_ | apply bN_ | apply b1_ | refine bS_ ?_ GE299.out)) hb); clear HO292; clear HO302; clear BK299; clear HB; have HO292 := n0_; have HO302 := n1_; have BK299 := n2_; have HB := n3_; clear n0_ n1_ n2_ n3_; (try clear hb); (try clear hb2); (try clear hk); (try clear hi)))
      go_meet
      case rel => exact ⟨_, (false), fs_, H', ⟨by first | omega | exact Nat.le_refl _⟩, ⟨by (with_reducible repeat (first | apply Kd.R_alloc | apply Kd.R_drewN | apply Kd.R_drew)); exact Kd.R_mono HO292.out (fun _ hk => ⟨hk.2, hk.1.2⟩)⟩, ⟨by (with_reducible repeat (first | apply Kd.R_alloc | apply Kd.R_drewN | apply Kd.R_drew)); exact Kd.R_mono HO302.out (fun _ hk => ⟨hk.1.2, hk.2⟩)⟩, ⟨by (with_reducible repeat (first | refine kN_ ?_ _ | refine k1_ ?_ | refine kA_ ?_ _)); exact BK299.out⟩, ⟨by repeat (with_reducible first | exact HB.out | apply bA_ | apply bN_ | apply b1_ | refine bS_ ?_ GE299.out)⟩⟩
     subst c21
     have H1 := H
     rw [if_pos rfl] at H1
     clear H
     have H := H1
     clear H1
     replace H := Option.bind_eq_some_iff.mp H
     obtain ⟨t309, A220, H⟩ := H
     try dsimp only at H
     have A22 := Ad_.mk A220
     clear A220
     have H' := Ad_.mk H
     clear H
     obtain ⟨Ao23, co23, eo23⟩ := Kd.R_slice HO302.out
     subst eo23
     go_wp2_with (first | ((with_reducible refine gC_ (f := 37) rfl ?_); refine gM_ (some 33) rfl rfl Try.func37 (by kernel_rfl) rfl #[.slice Ao23 t300.length co23] rfl ?_; (with_reducible refine (spec_FactsOk.calls k _ _ t300 true _ ?side1 ?side2 A15.out).mono ?_); (case side1 => repeat (first | exact (Kd.R_reads' HO302.out).2.2 | (with_reducible refine Kd.C_alloc ?_ _) | (with_reducible refine Kd.C_drewN ?_ _) | (with_reducible refine Kd.C_drew ?_))); (case side2 => exact (Kd.R_reads' HO302.out).2.1); rintro e w24 ⟨rfl, hb⟩; refine ⟨_, rfl, ?_⟩; have n0_ := Ad_.mk (Kd.R_below (by (with_reducible repeat (first | apply Kd.R_alloc | apply Kd.R_drewN | apply Kd.R_drew)); exact HO292.out) hb); have n1_ := Ad_.mk (Kd.R_below (by (with_reducible repeat (first | apply Kd.R_alloc | apply Kd.R_drewN | apply Kd.R_drew)); exact HO302.out) hb); have n2_ := Ad_.mk (blk_below (g := gb299) (o := .cells #[.int .i64 t293, .int .i64 t294, .int .i64 t295, .int .i64 t296, .int .i64 t297, .int .i64 t298] 43 (0, 0)) (by (with_reducible repeat (first | refine kN_ ?_ _ | refine k1_ ?_ | refine kA_ ?_ _)); exact BK299.out) hb); have n3_ := Ad_.mk (bP_ (by repeat (with_reducible first | exact HB.out | apply bA_ | apply bN_ | apply b1_ | refine bS_ ?_ GE299.out)) hb); clear HO292; clear HO302; clear BK299; clear HB; have HO292 := n0_; have HO302 := n1_; have BK299 := n2_; have HB := n3_; clear n0_ n1_ n2_ n3_; (try clear hb); (try clear hb2); (try clear hk); (try clear hi); obtain ⟨hcz25_0, hcz25_1, hcz25_2, hcz25_3, hcz25_4, hcz25_5⟩ := cells6_ BK299.out; obtain ⟨hfz25_0, hfz25_1, hfz25_2, hfz25_3, hfz25_4, hfz25_5⟩ := froz6_ BK299.out) | (go_at_call 40; (with_reducible refine (impl_FactHas.calls k _ _ t300 t293 t294 t295 t296 t297 t298 true _ ?side1 ?side2 A17.out).mono ?_); (case side1 => repeat (first | exact (Kd.R_reads' HO302.out).2.2 | (with_reducible refine Kd.C_alloc ?_ _) | (with_reducible refine Kd.C_drewN ?_ _) | (with_reducible refine Kd.C_drew ?_))); (case side2 => exact (Kd.R_reads' HO302.out).2.1); rintro e w26 ⟨rfl, hb⟩; have n0_ := Ad_.mk (Kd.R_below (by (with_reducible repeat (first | apply Kd.R_alloc | apply Kd.R_drewN | apply Kd.R_drew)); exact HO292.out) hb); have n1_ := Ad_.mk (Kd.R_below (by (with_reducible repeat (first | apply Kd.R_alloc | apply Kd.R_drewN | apply Kd.R_drew)); exact HO302.out) hb); have n2_ := Ad_.mk (blk_below (g := gb299) (o := .cells #[.int .i64 t293, .int .i64 t294, .int .i64 t295, .int .i64 t296, .int .i64 t297, .int .i64 t298] 43 (0, 0)) (by (with_reducible repeat (first | refine kN_ ?_ _ | refine k1_ ?_ | refine kA_ ?_ _)); exact BK299.out) hb); have n3_ := Ad_.mk (bP_ (by repeat (with_reducible first | exact HB.out | apply bA_ | apply bN_ | apply b1_ | refine bS_ ?_ GE299.out)) hb); clear HO292; clear HO302; clear BK299; clear HB; have HO292 := n0_; have HO302 := n1_; have BK299 := n2_; have HB := n3_; clear n0_ n1_ n2_ n3_; (try clear hb); (try clear hb2); (try clear hk); (try clear hi); obtain ⟨hcz27_0, hcz27_1, hcz27_2, hcz27_3, hcz27_4, hcz27_5⟩ := cells6_ BK299.out; obtain ⟨hfz27_0, hfz27_1, hfz27_2, hfz27_3, hfz27_4, hfz27_5⟩ := froz6_ BK299.out) | (go_at_call 40; (with_reducible refine (impl_FactHas.calls k _ _ t290 t293 t294 t295 t296 t297 t298 true _ ?side1 ?side2 A20.out).mono ?_); (case side1 => repeat (first | exact (Kd.R_reads' HO292.out).2.2 | (with_reducible refine Kd.C_alloc ?_ _) | (with_reducible refine Kd.C_drewN ?_ _) | (with_reducible refine Kd.C_drew ?_))); (case side2 => exact (Kd.R_reads' HO292.out).2.1); rintro e w28 ⟨rfl, hb⟩; have n0_ := Ad_.mk (Kd.R_below (by (with_reducible repeat (first | apply Kd.R_alloc | apply Kd.R_drewN | apply Kd.R_drew)); exact HO292.out) hb); have n1_ := Ad_.mk (Kd.R_below (by (with_reducible repeat (first | apply Kd.R_alloc | apply Kd.R_drewN | apply Kd.R_drew)); exact HO302.out) hb); have n2_ := Ad_.mk (blk_below (g := gb299) (o := .cells #[.int .i64 t293, .int .i64 t294, .int .i64 t295, .int .i64 t296, .int .i64 t297, .int .i64 t298] 43 (0, 0)) (by (with_reducible repeat (first | refine kN_ ?_ _ | refine k1_ ?_ | refine kA_ ?_ _)); exact BK299.out) hb); have n3_ := Ad_.mk (bP_ (by repeat (with_reducible first | exact HB.out | apply bA_ | apply bN_ | apply b1_ | refine bS_ ?_ GE299.out)) hb); clear HO292; clear HO302; clear BK299; clear HB; have HO292 := n0_; have HO302 := n1_; have BK299 := n2_; have HB := n3_; clear n0_ n1_ n2_ n3_; (try clear hb); (try clear hb2); (try clear hk); (try clear hi)) | (go_at_call 35; (with_reducible refine (impl_SameFacts.calls k _ _ t300 _ _ t290 t309 _ ?side1 ?side2 ?side3 ?side4 A22.out).mono ?_); (case side1 => repeat (first | exact (Kd.R_reads' HO302.out).2.2 | (with_reducible refine Kd.C_alloc ?_ _) | (with_reducible refine Kd.C_drewN ?_ _) | (with_reducible refine Kd.C_drew ?_))); (case side2 => exact (Kd.R_reads' HO302.out).2.1); (case side3 => repeat (first | exact (Kd.R_reads' HO292.out).2.2 | (with_reducible refine Kd.C_alloc ?_ _) | (with_reducible refine Kd.C_drewN ?_ _) | (with_reducible refine Kd.C_drew ?_))); (case side4 => exact (Kd.R_reads' HO292.out).2.1); rintro e w' ⟨rfl, ⟨nd, rfl⟩⟩))
     go_meet
     case rel => exact ⟨_, (!t309), fs_, H', ⟨by first | omega | exact Nat.le_refl _⟩, ⟨by (with_reducible repeat (first | apply Kd.R_alloc | apply Kd.R_drewN | apply Kd.R_drew)); exact Kd.R_mono HO292.out (fun _ hk => ⟨hk.2, hk.1.2⟩)⟩, ⟨by (with_reducible repeat (first | apply Kd.R_alloc | apply Kd.R_drewN | apply Kd.R_drew)); exact Kd.R_mono HO302.out (fun _ hk => ⟨hk.1.2, hk.2⟩)⟩, ⟨by (with_reducible repeat (first | refine kN_ ?_ _ | refine k1_ ?_ | refine kA_ ?_ _)); exact BK299.out⟩, ⟨by repeat (with_reducible first | exact HB.out | apply bA_ | apply bN_ | apply b1_ | refine bS_ ?_ GE299.out)⟩⟩
    rw [if_neg c19] at H
    have c19b0 : ((t300.length : Int) == (wrap64 ((t290.length : Int) + 1))) = false := beq_eq_false_iff_ne.mpr c19
    have c19b1 : ((t300.length : Int) != (wrap64 ((t290.length : Int) + 1))) = true := bne_iff_ne.mpr c19
    (first | rw [c19b0] | (simp only [i64_w, i32_w]; rw [c19b0]) | skip)
    replace H := Option.bind_eq_some_iff.mp H
    obtain ⟨t310, A350, H⟩ := H
    try dsimp only at H
    have A35 := Ad_.mk A350
    clear A350
    by_cases c36 : t310 = true
    rotate_left
    ·
     replace c36 := Bool.eq_false_iff.mpr c36
     subst c36
     have H1 : (laws_FnFacts.j0 k t290 t300 true t293 t294 t295 t296 t297 t298) = some r := by rw [if_neg (show ¬ (false = true) by decide)] at H; exact H
     clear H
     have H := H1
     clear H1
     have H' := Ad_.mk H
     clear H
     obtain ⟨Ao56, co56, eo56⟩ := Kd.R_slice HO302.out
     subst eo56
     go_wp2_with (first | ((with_reducible refine gC_ (f := 37) rfl ?_); refine gM_ (some 33) rfl rfl Try.func37 (by kernel_rfl) rfl #[.slice Ao56 t300.length co56] rfl ?_; (with_reducible refine (spec_FactsOk.calls k _ _ t300 true _ ?side1 ?side2 A15.out).mono ?_); (case side1 => repeat (first | exact (Kd.R_reads' HO302.out).2.2 | (with_reducible refine Kd.C_alloc ?_ _) | (with_reducible refine Kd.C_drewN ?_ _) | (with_reducible refine Kd.C_drew ?_))); (case side2 => exact (Kd.R_reads' HO302.out).2.1); rintro e w57 ⟨rfl, hb⟩; refine ⟨_, rfl, ?_⟩; have n0_ := Ad_.mk (Kd.R_below (by (with_reducible repeat (first | apply Kd.R_alloc | apply Kd.R_drewN | apply Kd.R_drew)); exact HO292.out) hb); have n1_ := Ad_.mk (Kd.R_below (by (with_reducible repeat (first | apply Kd.R_alloc | apply Kd.R_drewN | apply Kd.R_drew)); exact HO302.out) hb); have n2_ := Ad_.mk (blk_below (g := gb299) (o := .cells #[.int .i64 t293, .int .i64 t294, .int .i64 t295, .int .i64 t296, .int .i64 t297, .int .i64 t298] 43 (0, 0)) (by (with_reducible repeat (first | refine kN_ ?_ _ | refine k1_ ?_ | refine kA_ ?_ _)); exact BK299.out) hb); have n3_ := Ad_.mk (bP_ (by repeat (with_reducible first | exact HB.out | apply bA_ | apply bN_ | apply b1_ | refine bS_ ?_ GE299.out)) hb); clear HO292; clear HO302; clear BK299; clear HB; have HO292 := n0_; have HO302 := n1_; have BK299 := n2_; have HB := n3_; clear n0_ n1_ n2_ n3_; (try clear hb); (try clear hb2); (try clear hk); (try clear hi); obtain ⟨hcz58_0, hcz58_1, hcz58_2, hcz58_3, hcz58_4, hcz58_5⟩ := cells6_ BK299.out; obtain ⟨hfz58_0, hfz58_1, hfz58_2, hfz58_3, hfz58_4, hfz58_5⟩ := froz6_ BK299.out) | (go_at_call 40; (with_reducible refine (impl_FactHas.calls k _ _ t300 t293 t294 t295 t296 t297 t298 true _ ?side1 ?side2 A17.out).mono ?_); (case side1 => repeat (first | exact (Kd.R_reads' HO302.out).2.2 | (with_reducible refine Kd.C_alloc ?_ _) | (with_reducible refine Kd.C_drewN ?_ _) | (with_reducible refine Kd.C_drew ?_))); (case side2 => exact (Kd.R_reads' HO302.out).2.1); rintro e w59 ⟨rfl, hb⟩; have n0_ := Ad_.mk (Kd.R_below (by (with_reducible repeat (first | apply Kd.R_alloc | apply Kd.R_drewN | apply Kd.R_drew)); exact HO292.out) hb); have n1_ := Ad_.mk (Kd.R_below (by (with_reducible repeat (first | apply Kd.R_alloc | apply Kd.R_drewN | apply Kd.R_drew)); exact HO302.out) hb); have n2_ := Ad_.mk (blk_below (g := gb299) (o := .cells #[.int .i64 t293, .int .i64 t294, .int .i64 t295, .int .i64 t296, .int .i64 t297, .int .i64 t298] 43 (0, 0)) (by (with_reducible repeat (first | refine kN_ ?_ _ | refine k1_ ?_ | refine kA_ ?_ _)); exact BK299.out) hb); have n3_ := Ad_.mk (bP_ (by repeat (with_reducible first | exact HB.out | apply bA_ | apply bN_ | apply b1_ | refine bS_ ?_ GE299.out)) hb); clear HO292; clear HO302; clear BK299; clear HB; have HO292 := n0_; have HO302 := n1_; have BK299 := n2_; have HB := n3_; clear n0_ n1_ n2_ n3_; (try clear hb); (try clear hb2); (try clear hk); (try clear hi); obtain ⟨hcz60_0, hcz60_1, hcz60_2, hcz60_3, hcz60_4, hcz60_5⟩ := cells6_ BK299.out; obtain ⟨hfz60_0, hfz60_1, hfz60_2, hfz60_3, hfz60_4, hfz60_5⟩ := froz6_ BK299.out) | (go_at_call 40; (with_reducible refine (impl_FactHas.calls k _ _ t290 t293 t294 t295 t296 t297 t298 false _ ?side1 ?side2 A35.out).mono ?_); (case side1 => repeat (first | exact (Kd.R_reads' HO292.out).2.2 | (with_reducible refine Kd.C_alloc ?_ _) | (with_reducible refine Kd.C_drewN ?_ _) | (with_reducible refine Kd.C_drew ?_))); (case side2 => exact (Kd.R_reads' HO292.out).2.1); rintro e w61 ⟨rfl, hb⟩; have n0_ := Ad_.mk (Kd.R_below (by (with_reducible repeat (first | apply Kd.R_alloc | apply Kd.R_drewN | apply Kd.R_drew)); exact HO292.out) hb); have n1_ := Ad_.mk (Kd.R_below (by (with_reducible repeat (first | apply Kd.R_alloc | apply Kd.R_drewN | apply Kd.R_drew)); exact HO302.out) hb); have n2_ := Ad_.mk (blk_below (g := gb299) (o := .cells #[.int .i64 t293, .int .i64 t294, .int .i64 t295, .int .i64 t296, .int .i64 t297, .int .i64 t298] 43 (0, 0)) (by (with_reducible repeat (first | refine kN_ ?_ _ | refine k1_ ?_ | refine kA_ ?_ _)); exact BK299.out) hb); have n3_ := Ad_.mk (bP_ (by repeat (with_reducible first | exact HB.out | apply bA_ | apply bN_ | apply b1_ | refine bS_ ?_ GE299.out)) hb); clear HO292; clear HO302; clear BK299; clear HB; have HO292 := n0_; have HO302 := n1_; have BK299 := n2_; have HB := n3_; clear n0_ n1_ n2_ n3_; (try clear hb); (try clear hb2); (try clear hk); (try clear hi)))
     go_meet
     case rel => exact ⟨_, (true), fs_, H', ⟨by first | omega | exact Nat.le_refl _⟩, ⟨by (with_reducible repeat (first | apply Kd.R_alloc | apply Kd.R_drewN | apply Kd.R_drew)); exact Kd.R_mono HO292.out (fun _ hk => ⟨hk.2, hk.1.2⟩)⟩, ⟨by (with_reducible repeat (first | apply Kd.R_alloc | apply Kd.R_drewN | apply Kd.R_drew)); exact Kd.R_mono HO302.out (fun _ hk => ⟨hk.1.2, hk.2⟩)⟩, ⟨by (with_reducible repeat (first | refine kN_ ?_ _ | refine k1_ ?_ | refine kA_ ?_ _)); exact BK299.out⟩, ⟨by repeat (with_reducible first | exact HB.out | apply bA_ | apply bN_ | apply b1_ | refine bS_ ?_ GE299.out)⟩⟩
    subst c36
    have H1 := H
    rw [if_pos rfl] at H1
    clear H
    have H := H1
    clear H1
    replace H := Option.bind_eq_some_iff.mp H
    obtain ⟨t311, A370, H⟩ := H
    try dsimp only at H
    have A37 := Ad_.mk A370
    clear A370
    by_cases c38 : t311 = true
    rotate_left
    ·
     replace c38 := Bool.eq_false_iff.mpr c38
     subst c38
     exact absurd (A35.out.symm.trans A37.out) (by simp)
    subst c38
    have H1 := H
    rw [if_pos rfl] at H1
    clear H
    have H := H1
    clear H1
    replace H := Option.bind_eq_some_iff.mp H
    obtain ⟨t312, A390, H⟩ := H
    try dsimp only at H
    have A39 := Ad_.mk A390
    clear A390
    have H' := Ad_.mk H
    clear H
    obtain ⟨Ao40, co40, eo40⟩ := Kd.R_slice HO302.out
    subst eo40
    go_wp2_with (first | ((with_reducible refine gC_ (f := 37) rfl ?_); refine gM_ (some 33) rfl rfl Try.func37 (by kernel_rfl) rfl #[.slice Ao40 t300.length co40] rfl ?_; (with_reducible refine (spec_FactsOk.calls k _ _ t300 true _ ?side1 ?side2 A15.out).mono ?_); (case side1 => repeat (first | exact (Kd.R_reads' HO302.out).2.2 | (with_reducible refine Kd.C_alloc ?_ _) | (with_reducible refine Kd.C_drewN ?_ _) | (with_reducible refine Kd.C_drew ?_))); (case side2 => exact (Kd.R_reads' HO302.out).2.1); rintro e w41 ⟨rfl, hb⟩; refine ⟨_, rfl, ?_⟩; have n0_ := Ad_.mk (Kd.R_below (by (with_reducible repeat (first | apply Kd.R_alloc | apply Kd.R_drewN | apply Kd.R_drew)); exact HO292.out) hb); have n1_ := Ad_.mk (Kd.R_below (by (with_reducible repeat (first | apply Kd.R_alloc | apply Kd.R_drewN | apply Kd.R_drew)); exact HO302.out) hb); have n2_ := Ad_.mk (blk_below (g := gb299) (o := .cells #[.int .i64 t293, .int .i64 t294, .int .i64 t295, .int .i64 t296, .int .i64 t297, .int .i64 t298] 43 (0, 0)) (by (with_reducible repeat (first | refine kN_ ?_ _ | refine k1_ ?_ | refine kA_ ?_ _)); exact BK299.out) hb); have n3_ := Ad_.mk (bP_ (by repeat (with_reducible first | exact HB.out | apply bA_ | apply bN_ | apply b1_ | refine bS_ ?_ GE299.out)) hb); clear HO292; clear HO302; clear BK299; clear HB; have HO292 := n0_; have HO302 := n1_; have BK299 := n2_; have HB := n3_; clear n0_ n1_ n2_ n3_; (try clear hb); (try clear hb2); (try clear hk); (try clear hi); obtain ⟨hcz42_0, hcz42_1, hcz42_2, hcz42_3, hcz42_4, hcz42_5⟩ := cells6_ BK299.out; obtain ⟨hfz42_0, hfz42_1, hfz42_2, hfz42_3, hfz42_4, hfz42_5⟩ := froz6_ BK299.out) | (go_at_call 40; (with_reducible refine (impl_FactHas.calls k _ _ t300 t293 t294 t295 t296 t297 t298 true _ ?side1 ?side2 A17.out).mono ?_); (case side1 => repeat (first | exact (Kd.R_reads' HO302.out).2.2 | (with_reducible refine Kd.C_alloc ?_ _) | (with_reducible refine Kd.C_drewN ?_ _) | (with_reducible refine Kd.C_drew ?_))); (case side2 => exact (Kd.R_reads' HO302.out).2.1); rintro e w43 ⟨rfl, hb⟩; have n0_ := Ad_.mk (Kd.R_below (by (with_reducible repeat (first | apply Kd.R_alloc | apply Kd.R_drewN | apply Kd.R_drew)); exact HO292.out) hb); have n1_ := Ad_.mk (Kd.R_below (by (with_reducible repeat (first | apply Kd.R_alloc | apply Kd.R_drewN | apply Kd.R_drew)); exact HO302.out) hb); have n2_ := Ad_.mk (blk_below (g := gb299) (o := .cells #[.int .i64 t293, .int .i64 t294, .int .i64 t295, .int .i64 t296, .int .i64 t297, .int .i64 t298] 43 (0, 0)) (by (with_reducible repeat (first | refine kN_ ?_ _ | refine k1_ ?_ | refine kA_ ?_ _)); exact BK299.out) hb); have n3_ := Ad_.mk (bP_ (by repeat (with_reducible first | exact HB.out | apply bA_ | apply bN_ | apply b1_ | refine bS_ ?_ GE299.out)) hb); clear HO292; clear HO302; clear BK299; clear HB; have HO292 := n0_; have HO302 := n1_; have BK299 := n2_; have HB := n3_; clear n0_ n1_ n2_ n3_; (try clear hb); (try clear hb2); (try clear hk); (try clear hi); obtain ⟨hcz44_0, hcz44_1, hcz44_2, hcz44_3, hcz44_4, hcz44_5⟩ := cells6_ BK299.out; obtain ⟨hfz44_0, hfz44_1, hfz44_2, hfz44_3, hfz44_4, hfz44_5⟩ := froz6_ BK299.out) | (go_at_call 40; (with_reducible refine (impl_FactHas.calls k _ _ t290 t293 t294 t295 t296 t297 t298 true _ ?side1 ?side2 A35.out).mono ?_); (case side1 => repeat (first | exact (Kd.R_reads' HO292.out).2.2 | (with_reducible refine Kd.C_alloc ?_ _) | (with_reducible refine Kd.C_drewN ?_ _) | (with_reducible refine Kd.C_drew ?_))); (case side2 => exact (Kd.R_reads' HO292.out).2.1); rintro e w45 ⟨rfl, hb⟩; have n0_ := Ad_.mk (Kd.R_below (by (with_reducible repeat (first | apply Kd.R_alloc | apply Kd.R_drewN | apply Kd.R_drew)); exact HO292.out) hb); have n1_ := Ad_.mk (Kd.R_below (by (with_reducible repeat (first | apply Kd.R_alloc | apply Kd.R_drewN | apply Kd.R_drew)); exact HO302.out) hb); have n2_ := Ad_.mk (blk_below (g := gb299) (o := .cells #[.int .i64 t293, .int .i64 t294, .int .i64 t295, .int .i64 t296, .int .i64 t297, .int .i64 t298] 43 (0, 0)) (by (with_reducible repeat (first | refine kN_ ?_ _ | refine k1_ ?_ | refine kA_ ?_ _)); exact BK299.out) hb); have n3_ := Ad_.mk (bP_ (by repeat (with_reducible first | exact HB.out | apply bA_ | apply bN_ | apply b1_ | refine bS_ ?_ GE299.out)) hb); clear HO292; clear HO302; clear BK299; clear HB; have HO292 := n0_; have HO302 := n1_; have BK299 := n2_; have HB := n3_; clear n0_ n1_ n2_ n3_; (try clear hb); (try clear hb2); (try clear hk); (try clear hi); obtain ⟨hcz46_0, hcz46_1, hcz46_2, hcz46_3, hcz46_4, hcz46_5⟩ := cells6_ BK299.out; obtain ⟨hfz46_0, hfz46_1, hfz46_2, hfz46_3, hfz46_4, hfz46_5⟩ := froz6_ BK299.out) | (go_at_call 40; (with_reducible refine (impl_FactHas.calls k _ _ t290 t293 t294 t295 t296 t297 t298 true _ ?side1 ?side2 A37.out).mono ?_); (case side1 => repeat (first | exact (Kd.R_reads' HO292.out).2.2 | (with_reducible refine Kd.C_alloc ?_ _) | (with_reducible refine Kd.C_drewN ?_ _) | (with_reducible refine Kd.C_drew ?_))); (case side2 => exact (Kd.R_reads' HO292.out).2.1); rintro e w47 ⟨rfl, hb⟩; have n0_ := Ad_.mk (Kd.R_below (by (with_reducible repeat (first | apply Kd.R_alloc | apply Kd.R_drewN | apply Kd.R_drew)); exact HO292.out) hb); have n1_ := Ad_.mk (Kd.R_below (by (with_reducible repeat (first | apply Kd.R_alloc | apply Kd.R_drewN | apply Kd.R_drew)); exact HO302.out) hb); have n2_ := Ad_.mk (blk_below (g := gb299) (o := .cells #[.int .i64 t293, .int .i64 t294, .int .i64 t295, .int .i64 t296, .int .i64 t297, .int .i64 t298] 43 (0, 0)) (by (with_reducible repeat (first | refine kN_ ?_ _ | refine k1_ ?_ | refine kA_ ?_ _)); exact BK299.out) hb); have n3_ := Ad_.mk (bP_ (by repeat (with_reducible first | exact HB.out | apply bA_ | apply bN_ | apply b1_ | refine bS_ ?_ GE299.out)) hb); clear HO292; clear HO302; clear BK299; clear HB; have HO292 := n0_; have HO302 := n1_; have BK299 := n2_; have HB := n3_; clear n0_ n1_ n2_ n3_; (try clear hb); (try clear hb2); (try clear hk); (try clear hi)) | (go_at_call 35; (with_reducible refine (impl_SameFacts.calls k _ _ t300 _ _ t290 t312 _ ?side1 ?side2 ?side3 ?side4 A39.out).mono ?_); (case side1 => repeat (first | exact (Kd.R_reads' HO302.out).2.2 | (with_reducible refine Kd.C_alloc ?_ _) | (with_reducible refine Kd.C_drewN ?_ _) | (with_reducible refine Kd.C_drew ?_))); (case side2 => exact (Kd.R_reads' HO302.out).2.1); (case side3 => repeat (first | exact (Kd.R_reads' HO292.out).2.2 | (with_reducible refine Kd.C_alloc ?_ _) | (with_reducible refine Kd.C_drewN ?_ _) | (with_reducible refine Kd.C_drew ?_))); (case side4 => exact (Kd.R_reads' HO292.out).2.1); rintro e w' ⟨rfl, ⟨nd, rfl⟩⟩))
    go_meet
    case rel => exact ⟨_, (!t312), fs_, H', ⟨by first | omega | exact Nat.le_refl _⟩, ⟨by (with_reducible repeat (first | apply Kd.R_alloc | apply Kd.R_drewN | apply Kd.R_drew)); exact Kd.R_mono HO292.out (fun _ hk => ⟨hk.2, hk.1.2⟩)⟩, ⟨by (with_reducible repeat (first | apply Kd.R_alloc | apply Kd.R_drewN | apply Kd.R_drew)); exact Kd.R_mono HO302.out (fun _ hk => ⟨hk.1.2, hk.2⟩)⟩, ⟨by (with_reducible repeat (first | refine kN_ ?_ _ | refine k1_ ?_ | refine kA_ ?_ _)); exact BK299.out⟩, ⟨by repeat (with_reducible first | exact HB.out | apply bA_ | apply bN_ | apply b1_ | refine bS_ ?_ GE299.out)⟩⟩
  case rest =>
    clear HC8
    try clear p2
    try clear p6
    try clear c19b0 c19b1
    try clear p64
    try clear hcz11_0 hcz11_1 hcz11_2 hcz11_3 hcz11_4 hcz11_5
    try clear hcz25_0 hcz25_1 hcz25_2 hcz25_3 hcz25_4 hcz25_5
    try clear hcz27_0 hcz27_1 hcz27_2 hcz27_3 hcz27_4 hcz27_5
    try clear hcz31_0 hcz31_1 hcz31_2 hcz31_3 hcz31_4 hcz31_5
    try clear hcz33_0 hcz33_1 hcz33_2 hcz33_3 hcz33_4 hcz33_5
    try clear hcz42_0 hcz42_1 hcz42_2 hcz42_3 hcz42_4 hcz42_5
    try clear hcz44_0 hcz44_1 hcz44_2 hcz44_3 hcz44_4 hcz44_5
    try clear hcz46_0 hcz46_1 hcz46_2 hcz46_3 hcz46_4 hcz46_5
    try clear hcz50_0 hcz50_1 hcz50_2 hcz50_3 hcz50_4 hcz50_5
    try clear hcz52_0 hcz52_1 hcz52_2 hcz52_3 hcz52_4 hcz52_5
    try clear hcz54_0 hcz54_1 hcz54_2 hcz54_3 hcz54_4 hcz54_5
    try clear hcz58_0 hcz58_1 hcz58_2 hcz58_3 hcz58_4 hcz58_5
    try clear hcz60_0 hcz60_1 hcz60_2 hcz60_3 hcz60_4 hcz60_5
    try clear hcz64_0 hcz64_1 hcz64_2 hcz64_3 hcz64_4 hcz64_5
    try clear hfz11_0 hfz11_1 hfz11_2 hfz11_3 hfz11_4 hfz11_5
    try clear hfz25_0 hfz25_1 hfz25_2 hfz25_3 hfz25_4 hfz25_5
    try clear hfz27_0 hfz27_1 hfz27_2 hfz27_3 hfz27_4 hfz27_5
    try clear hfz31_0 hfz31_1 hfz31_2 hfz31_3 hfz31_4 hfz31_5
    try clear hfz33_0 hfz33_1 hfz33_2 hfz33_3 hfz33_4 hfz33_5
    try clear hfz42_0 hfz42_1 hfz42_2 hfz42_3 hfz42_4 hfz42_5
    try clear hfz44_0 hfz44_1 hfz44_2 hfz44_3 hfz44_4 hfz44_5
    try clear hfz46_0 hfz46_1 hfz46_2 hfz46_3 hfz46_4 hfz46_5
    try clear hfz50_0 hfz50_1 hfz50_2 hfz50_3 hfz50_4 hfz50_5
    try clear hfz52_0 hfz52_1 hfz52_2 hfz52_3 hfz52_4 hfz52_5
    try clear hfz54_0 hfz54_1 hfz54_2 hfz54_3 hfz54_4 hfz54_5
    try clear hfz58_0 hfz58_1 hfz58_2 hfz58_3 hfz58_4 hfz58_5
    try clear hfz60_0 hfz60_1 hfz60_2 hfz60_3 hfz60_4 hfz60_5
    try clear hfz64_0 hfz64_1 hfz64_2 hfz64_3 hfz64_4 hfz64_5
    obtain ⟨kq, x65_7, rfl, HA, HJ7, HO_3, HO_5, BK299, HB⟩ := hcut
    cases kq with
    | zero => exact absurd HA.out (by simp [laws_FnFacts.j0])
    | succ kj7 =>
      have H := HA.out
      clear HA
      simp only [laws_FnFacts.j0] at H
      by_cases c68 : x65_7 = true
      ·
       subst c68
       have H1 : (some false) = some r := by rw [if_pos rfl] at H; exact H
       clear H
       have H := H1
       clear H1
       obtain rfl := Option.some.inj H
       go_wp2
       go_ret
       exact ⟨by first | rfl | (simp [errW_none, errW_some] <;> rfl) | (simp [*, errW_none, errW_some] <;> rfl), by repeat (with_reducible first | exact HB.out | apply bA_ | apply bN_ | apply b1_ | refine bS_ ?_ GE299.out)⟩
      replace c68 := Bool.eq_false_iff.mpr c68
      subst c68
      have H1 : (laws_FnFacts.l0 kj7 t290 t300 0 t293 t294 t295 t296 t297 t298) = some r := by rw [if_neg (show ¬ (false = true) by decide)] at H; exact H
      clear H
      have H := H1
      clear H1
      have H' := Ad_.mk H
      clear H
      go_wp2
      go_loopg [6] kj7 (fun kq v6 w' => ∃ (x6_2 : Int), v6 = .int .i64 x6_2 ∧ Ad_ (laws_FnFacts.l0 kq t290 t300 x6_2 t293 t294 t295 t296 t297 t298 = some r) ∧ Ad_ (kq ≤ kj7) ∧ Ad_ (Kd.R k43 43 w' w.heap.size (fun k_ => some k_ ≠ (v301 : Value).ownBlock ∧ k_ ≠ gb299) (.slice Ao12 t290.length co12) t290) ∧ Ad_ (Kd.R k43 43 w' w.heap.size (fun k_ => some k_ ≠ ((.slice Ao12 t290.length co12) : Value).ownBlock ∧ k_ ≠ gb299) v301 t300) ∧ Ad_ (w'.heap[gb299]? = some (.cells #[.int .i64 t293, .int .i64 t294, .int .i64 t295, .int .i64 t296, .int .i64 t297, .int .i64 t298] 43 (0, 0))) ∧ Ad_ (Below w.heap.size w w'))
      case atStart => exact ⟨(0), fs_, H', ⟨Nat.le_refl _⟩, ⟨by (with_reducible repeat (first | apply Kd.R_alloc | apply Kd.R_drewN | apply Kd.R_drew)); exact HO_3.out⟩, ⟨by (with_reducible repeat (first | apply Kd.R_alloc | apply Kd.R_drewN | apply Kd.R_drew)); exact HO_5.out⟩, ⟨by (with_reducible repeat (first | refine kN_ ?_ _ | refine k1_ ?_ | refine kA_ ?_ _)); exact BK299.out⟩, ⟨by repeat (with_reducible first | exact HB.out | apply bA_ | apply bN_ | apply b1_ | refine bS_ ?_ GE299.out)⟩⟩
      case round =>
        clear H'
        try clear p2
        try clear p6
        try clear c19b0 c19b1
        try clear p64
        try clear hcz11_0 hcz11_1 hcz11_2 hcz11_3 hcz11_4 hcz11_5
        try clear hcz25_0 hcz25_1 hcz25_2 hcz25_3 hcz25_4 hcz25_5
        try clear hcz27_0 hcz27_1 hcz27_2 hcz27_3 hcz27_4 hcz27_5
        try clear hcz31_0 hcz31_1 hcz31_2 hcz31_3 hcz31_4 hcz31_5
        try clear hcz33_0 hcz33_1 hcz33_2 hcz33_3 hcz33_4 hcz33_5
        try clear hcz42_0 hcz42_1 hcz42_2 hcz42_3 hcz42_4 hcz42_5
        try clear hcz44_0 hcz44_1 hcz44_2 hcz44_3 hcz44_4 hcz44_5
        try clear hcz46_0 hcz46_1 hcz46_2 hcz46_3 hcz46_4 hcz46_5
        try clear hcz50_0 hcz50_1 hcz50_2 hcz50_3 hcz50_4 hcz50_5
        try clear hcz52_0 hcz52_1 hcz52_2 hcz52_3 hcz52_4 hcz52_5
        try clear hcz54_0 hcz54_1 hcz54_2 hcz54_3 hcz54_4 hcz54_5
        try clear hcz58_0 hcz58_1 hcz58_2 hcz58_3 hcz58_4 hcz58_5
        try clear hcz60_0 hcz60_1 hcz60_2 hcz60_3 hcz60_4 hcz60_5
        try clear hcz64_0 hcz64_1 hcz64_2 hcz64_3 hcz64_4 hcz64_5
        try clear hfz11_0 hfz11_1 hfz11_2 hfz11_3 hfz11_4 hfz11_5
        try clear hfz25_0 hfz25_1 hfz25_2 hfz25_3 hfz25_4 hfz25_5
        try clear hfz27_0 hfz27_1 hfz27_2 hfz27_3 hfz27_4 hfz27_5
        try clear hfz31_0 hfz31_1 hfz31_2 hfz31_3 hfz31_4 hfz31_5
        try clear hfz33_0 hfz33_1 hfz33_2 hfz33_3 hfz33_4 hfz33_5
        try clear hfz42_0 hfz42_1 hfz42_2 hfz42_3 hfz42_4 hfz42_5
        try clear hfz44_0 hfz44_1 hfz44_2 hfz44_3 hfz44_4 hfz44_5
        try clear hfz46_0 hfz46_1 hfz46_2 hfz46_3 hfz46_4 hfz46_5
        try clear hfz50_0 hfz50_1 hfz50_2 hfz50_3 hfz50_4 hfz50_5
        try clear hfz52_0 hfz52_1 hfz52_2 hfz52_3 hfz52_4 hfz52_5
        try clear hfz54_0 hfz54_1 hfz54_2 hfz54_3 hfz54_4 hfz54_5
        try clear hfz58_0 hfz58_1 hfz58_2 hfz58_3 hfz58_4 hfz58_5
        try clear hfz60_0 hfz60_1 hfz60_2 hfz60_3 hfz60_4 hfz60_5
        try clear hfz64_0 hfz64_1 hfz64_2 hfz64_3 hfz64_4 hfz64_5
        try clear p2
        try clear p6
        try clear p64
        obtain ⟨x6_2, rfl, HA, HK2, HO_3, HO_5, BK299, HB⟩ := hrel
        cases gk with
        | zero => exact absurd HA.out (by simp [laws_FnFacts.l0])
        | succ k2 =>
          have H := HA.out
          clear HA
          simp only [laws_FnFacts.l0] at H
          by_cases c69 : x6_2 < (t290.length : Int)
          rotate_left
          ·
           rw [if_neg c69] at H
           have c69b0 := decide_eq_false c69
           clear c69
           replace H := Option.bind_eq_some_iff.mp H
           obtain ⟨t322, A980, H⟩ := H
           try dsimp only at H
           have A98 := Ad_.mk A980
           clear A980
           have H' := Ad_.mk H
           clear H
           obtain ⟨hcz99_0, hcz99_1, hcz99_2, hcz99_3, hcz99_4, hcz99_5⟩ := cells6_ BK299.out
           obtain ⟨hfz99_0, hfz99_1, hfz99_2, hfz99_3, hfz99_4, hfz99_5⟩ := froz6_ BK299.out
           obtain ⟨Ao100, co100, eo100⟩ := Kd.R_slice HO_5.out
           subst eo100
           go_wp2_with (first | ((with_reducible refine gC_ (f := 43) rfl ?_); refine gM_ (some 113) rfl rfl Try.func43 (by kernel_rfl) rfl #[.slice Ao100 t300.length co100, .int .i64 t293, .int .i64 t294, .int .i64 t295] rfl ?_; (with_reducible refine (impl_AbsAt.calls k2 _ _ t300 t293 t294 t295 t322 _ ?side1 ?side2 A98.out).mono ?_); (case side1 => repeat (first | exact (Kd.R_reads' HO_5.out).2.2 | (with_reducible refine Kd.C_alloc ?_ _) | (with_reducible refine Kd.C_drewN ?_ _) | (with_reducible refine Kd.C_drew ?_))); (case side2 => exact (Kd.R_reads' HO_5.out).2.1); rintro e w101 ⟨v323, rfl, ho0, hb⟩; refine ⟨_, rfl, ?_⟩; have n0_ := Ad_.mk (Kd.R_below (by (with_reducible repeat (first | apply Kd.R_alloc | apply Kd.R_drewN | apply Kd.R_drew)); exact HO_3.out) hb); have n1_ := Ad_.mk (Kd.R_below (by (with_reducible repeat (first | apply Kd.R_alloc | apply Kd.R_drewN | apply Kd.R_drew)); exact HO_5.out) hb); have n2_ := Ad_.mk (Kd.R_lower ho0 (bZ_ (by repeat (with_reducible first | exact HB.out | apply bA_ | apply bN_ | apply b1_ | refine bS_ ?_ GE299.out)))); have n3_ := Ad_.mk (blk_below (g := gb299) (o := .cells #[.int .i64 t293, .int .i64 t294, .int .i64 t295, .int .i64 t296, .int .i64 t297, .int .i64 t298] 43 (0, 0)) (by (with_reducible repeat (first | refine kN_ ?_ _ | refine k1_ ?_ | refine kA_ ?_ _)); exact BK299.out) hb); have n4_ := Ad_.mk (bP_ (by repeat (with_reducible first | exact HB.out | apply bA_ | apply bN_ | apply b1_ | refine bS_ ?_ GE299.out)) hb); clear HO_3; clear HO_5; clear BK299; clear HB; have HO_3 := n0_; have HO_5 := n1_; have HO324 := n2_; have BK299 := n3_; have HB := n4_; clear n0_ n1_ n2_ n3_ n4_; (try clear hb); (try clear hb2); (try clear hk); (try clear hi); (try clear ho0)))
           go_loopg [8, 9] k2 (fun kq v8 v9 w' => ∃ (x8_3 : Bool) (x9_3 : Int), v8 = .bool x8_3 ∧ v9 = .int .i64 x9_3 ∧ Ad_ (laws_FnFacts.l1 kq t300 t322 x8_3 x9_3 t293 t294 t295 t296 t297 t298 = some r) ∧ Ad_ (kq ≤ k2) ∧ Ad_ (Kd.R k43 43 w' w.heap.size (fun k_ => k_ ≠ gb299) (.slice Ao100 t300.length co100) t300) ∧ Ad_ (Kd.R k41 41 w' w.heap.size (fun _ => True) v323 t322) ∧ Ad_ (w'.heap[gb299]? = some (.cells #[.int .i64 t293, .int .i64 t294, .int .i64 t295, .int .i64 t296, .int .i64 t297, .int .i64 t298] 43 (0, 0))) ∧ Ad_ (Below w.heap.size w w'))
           case atStart => exact ⟨(false), (0), fs_, fs_, H', ⟨Nat.le_refl _⟩, ⟨by (with_reducible repeat (first | apply Kd.R_alloc | apply Kd.R_drewN | apply Kd.R_drew)); exact Kd.R_mono HO_5.out (fun _ hk => hk.2)⟩, ⟨by (with_reducible repeat (first | apply Kd.R_alloc | apply Kd.R_drewN | apply Kd.R_drew)); exact HO324.out⟩, ⟨by (with_reducible repeat (first | refine kN_ ?_ _ | refine k1_ ?_ | refine kA_ ?_ _)); exact BK299.out⟩, ⟨by repeat (with_reducible first | exact HB.out | apply bA_ | apply bN_ | apply b1_ | refine bS_ ?_ GE299.out)⟩⟩
           case round =>
             clear H'
             try clear p2
             try clear p3
             try clear q3
             try clear hx3
             try clear p6
             try clear p31
             try clear q31
             try clear hx31
             try clear p64
             try clear c69b0
             try clear hcz99_0 hcz99_1 hcz99_2 hcz99_3 hcz99_4 hcz99_5
             try clear hfz99_0 hfz99_1 hfz99_2 hfz99_3 hfz99_4 hfz99_5
             try clear hx313_0
             try clear hx313_1
             try clear hx313_2
             try clear hx313_3
             try clear hx313_4
             try clear hx313_5
             try clear p2
             try clear p3
             try clear p31
             try clear p313
             try clear q3
             try clear q31
             try clear q313
             obtain ⟨x8_3, x9_3, rfl, rfl, HA, HK3, HO_5, HO_7, BK299, HB⟩ := hrel
             cases gk with
             | zero => exact absurd HA.out (by simp [laws_FnFacts.l1])
             | succ k3 =>
               have H := HA.out
               clear HA
               simp only [laws_FnFacts.l1] at H
               by_cases c102 : x9_3 < (t322.length : Int)
               rotate_left
               ·
                rw [if_neg c102] at H
                have c102b0 := decide_eq_false c102
                clear c102
                obtain rfl := Option.some.inj H
                obtain ⟨Ao126, co126, eo126⟩ := Kd.R_slice HO_7.out
                subst eo126
                go_wp2
                go_ret
                exact ⟨by first | rfl | (simp [errW_none, errW_some] <;> rfl) | (simp [*, errW_none, errW_some] <;> rfl), by repeat (with_reducible first | exact HB.out | apply bA_ | apply bN_ | apply b1_ | refine bS_ ?_ GE299.out)⟩
               rw [if_pos c102] at H
               have c102b0 := decide_eq_true c102
               clear c102
               by_cases c103 : x8_3 = true
               ·
                subst c103
                have H1 := H
                rw [if_pos rfl] at H1
                clear H
                have H := H1
                clear H1
                by_cases c104 : 0 ≤ x9_3
                rotate_left
                ·
                 rw [if_neg c104] at H
                 exact absurd H (by simp)
                rw [if_pos c104] at H
                have c104b0 := decide_eq_true c104
                clear c104
                replace H := Option.bind_eq_some_iff.mp H
                obtain ⟨t327, A1050, H⟩ := H
                try dsimp only at H
                have A105 := Ad_.mk A1050
                clear A1050
                by_cases c106 : t327 = true
                rotate_left
                ·
                 replace c106 := Bool.eq_false_iff.mpr c106
                 subst c106
                 have H1 : (some false) = some r := by rw [if_neg (show ¬ (false = true) by decide)] at H; exact H
                 clear H
                 have H := H1
                 clear H1
                 obtain rfl := Option.some.inj H
                 obtain ⟨Ao111, co111, eo111⟩ := Kd.R_slice HO_7.out
                 subst eo111
                 try go_wp2
                 have n0_ := Ad_.mk (Kd.R_drew HO_5.out)
                 have n1_ := Ad_.mk (Kd.R_drew HO_7.out)
                 have n2_ := Ad_.mk (k1_ BK299.out)
                 have n3_ := Ad_.mk (b1_ HB.out)
                 clear HO_5
                 clear HO_7
                 clear BK299
                 clear HB
                 have HO_5 := n0_
                 have HO_7 := n1_
                 have BK299 := n2_
                 have HB := n3_
                 clear n0_ n1_ n2_ n3_
                 refine start_ (n := 11) (S := fun w' => True) (ds := []) #[fb_,fb_,fb_,fb_,fb_,fb_,fb_,fb_,fb_,fb_,fb_] (by kernel_rfl) rfl rfl trivial (fun hHeld => ?_); refine with_tabW laws_FnFacts.tab19 laws_FnFacts.bits19 (fun HT_ HW_ => ?_)
                 generalize wr.drew = w112 at HO_5 HO_7 BK299 HB hHeld ⊢
                 refine pu_ (i := 0) (N := some 120) #[tb_,fb_,fb_,fb_,fb_,fb_,fb_,fb_,fb_,fb_,fb_] (any_of HT_.out (by kernel_rfl)) ?_
                 refine pu_ (i := 1) (N := some 121) #[tb_,tb_,fb_,fb_,fb_,fb_,fb_,fb_,fb_,fb_,fb_] (any_of HT_.out (by kernel_rfl)) ?_
                 refine pv_ (i := 2) (N := some 122) #[tb_,tb_,tb_,fb_,fb_,fb_,fb_,fb_,fb_,fb_,fb_] (any_of HT_.out (by kernel_rfl)) ?_
                 refine pv_ (i := 3) (N := some 123) #[tb_,tb_,tb_,tb_,fb_,fb_,fb_,fb_,fb_,fb_,fb_] (any_of HT_.out (by kernel_rfl)) ?_
                 refine pv_ (i := 4) (N := some 124) #[tb_,tb_,tb_,tb_,tb_,fb_,fb_,fb_,fb_,fb_,fb_] (any_of HT_.out (by kernel_rfl)) ?_
                 refine pv_ (i := 5) (N := some 125) #[tb_,tb_,tb_,tb_,tb_,tb_,fb_,fb_,fb_,fb_,fb_] (any_of HT_.out (by kernel_rfl)) ?_
                 refine pv_ (i := 6) (N := some 126) #[tb_,tb_,tb_,tb_,tb_,tb_,tb_,fb_,fb_,fb_,fb_] (any_of HT_.out (by kernel_rfl)) ?_
                 refine pv_ (i := 7) (N := some 127) #[tb_,tb_,tb_,tb_,tb_,tb_,tb_,tb_,fb_,fb_,fb_] (any_of HT_.out (by kernel_rfl)) ?_
                 refine pv_ (i := 8) (N := some 128) #[tb_,tb_,tb_,tb_,tb_,tb_,tb_,tb_,tb_,fb_,fb_] (any_of HT_.out (by kernel_rfl)) ?_
                 refine pu_ (i := 9) (N := some 129) #[tb_,tb_,tb_,tb_,tb_,tb_,tb_,tb_,tb_,tb_,fb_] (any_of HT_.out (by kernel_rfl)) ?_
                 refine pu_ (i := 10) (N := some 8) #[tb_,tb_,tb_,tb_,tb_,tb_,tb_,tb_,tb_,tb_,tb_] (any_of HT_.out (by kernel_rfl)) ?_
                 refine done_ (done_of HT_.out (by kernel_rfl)) ?_
                 try go_wp2
                 have n0_ := Ad_.mk (Kd.R_drew HO_5.out)
                 have n1_ := Ad_.mk (Kd.R_drew HO_7.out)
                 have n2_ := Ad_.mk (k1_ BK299.out)
                 have n3_ := Ad_.mk (b1_ HB.out)
                 clear HO_5
                 clear HO_7
                 clear BK299
                 clear HB
                 have HO_5 := n0_
                 have HO_7 := n1_
                 have BK299 := n2_
                 have HB := n3_
                 clear n0_ n1_ n2_ n3_
                 have p326 : 0 ≤ (x9_3 : Int) := od_
                 have q326 : x9_3 < (t322.length : Int) := od_
                 obtain ⟨ad326, e326, hx326_0, hx326_1, hx326_2⟩ := at_T41 (Kd.R_reads' HO_7.out).2.2 x9_3 p326 q326
                 cases e326
                 replace p326 := eq_true p326
                 replace q326 := eq_true q326
                 refine start_ (n := 14) (S := fun w' => w'.cell? ⟨gb299, 0, none⟩ = some (.int .i64 t293) ∧ w'.cell? ⟨gb299, 1, none⟩ = some (.int .i64 t294) ∧ w'.cell? ⟨gb299, 2, none⟩ = some (.int .i64 t295) ∧ w'.cell? ⟨gb299, 3, none⟩ = some (.int .i64 t296) ∧ w'.cell? ⟨gb299, 4, none⟩ = some (.int .i64 t297) ∧ w'.cell? ⟨gb299, 5, none⟩ = some (.int .i64 t298) ∧ w'.cell? (ad326.add ((x9_3).toNat * 3)) = some (.int .i64 ((rd_T41 t322 x9_3).f0)) ∧ w'.cell? ⟨(ad326.add ((x9_3).toNat * 3)).block, (ad326.add ((x9_3).toNat * 3)).off + 1, none⟩ = some (.int .i64 ((rd_T41 t322 x9_3).f1)) ∧ w'.cell? ⟨(ad326.add ((x9_3).toNat * 3)).block, (ad326.add ((x9_3).toNat * 3)).off + 2, none⟩ = some (.int .i64 ((rd_T41 t322 x9_3).f2))) (ds := []) #[fb_,fb_,fb_,fb_,fb_,fb_,fb_,fb_,fb_,fb_,fb_,fb_,fb_,fb_] (by kernel_rfl) rfl rfl ⟨(kC_ BK299.out 0).trans rfl, (kC_ BK299.out 1).trans rfl, (kC_ BK299.out 2).trans rfl, (kC_ BK299.out 3).trans rfl, (kC_ BK299.out 4).trans rfl, (kC_ BK299.out 5).trans rfl, hx326_0, hx326_1, hx326_2⟩ (fun hHeld => ?_); refine with_tabW laws_FnFacts.tab20 laws_FnFacts.bits20 (fun HT_ HW_ => ?_)
                 generalize w112.drew = w113 at HO_5 HO_7 BK299 HB hx326_0 hx326_1 hx326_2 hHeld ⊢
                 refine pu_ (i := 0) (N := some 130) #[tb_,fb_,fb_,fb_,fb_,fb_,fb_,fb_,fb_,fb_,fb_,fb_,fb_,fb_] (any_of HT_.out (by kernel_rfl)) ?_
                 refine pu_ (i := 1) (N := some 131) #[tb_,tb_,fb_,fb_,fb_,fb_,fb_,fb_,fb_,fb_,fb_,fb_,fb_,fb_] (any_of HT_.out (by kernel_rfl)) ?_
                 refine pu_ (i := 3) (N := some 133) #[tb_,tb_,fb_,tb_,fb_,fb_,fb_,fb_,fb_,fb_,fb_,fb_,fb_,fb_] (any_of HT_.out (by kernel_rfl)) ?_
                 refine pu_ (i := 5) (N := some 135) #[tb_,tb_,fb_,tb_,fb_,tb_,fb_,fb_,fb_,fb_,fb_,fb_,fb_,fb_] (any_of HT_.out (by kernel_rfl)) ?_
                 refine pu_ (i := 7) (N := some 137) #[tb_,tb_,fb_,tb_,fb_,tb_,fb_,tb_,fb_,fb_,fb_,fb_,fb_,fb_] (any_of HT_.out (by kernel_rfl)) ?_
                 refine pu_ (i := 8) (N := some 138) #[tb_,tb_,fb_,tb_,fb_,tb_,fb_,tb_,tb_,fb_,fb_,fb_,fb_,fb_] (any_of HT_.out (by kernel_rfl)) ?_
                 refine pu_ (i := 9) (N := some 139) #[tb_,tb_,fb_,tb_,fb_,tb_,fb_,tb_,tb_,tb_,fb_,fb_,fb_,fb_] (any_of HT_.out (by kernel_rfl)) ?_
                 refine take_ (i := 2) (N := some 132) (v := ?_) (a' := ?_) #[tb_,tb_,tb_,tb_,fb_,tb_,fb_,tb_,tb_,tb_,fb_,fb_,fb_,fb_] rfl rfl (take_ofW HT_.out HW_.out (by kernel_rfl)) (fun _ _ _ h => h) (Or.inl ⟨by rfl, ?_⟩) hHeld ?_ ?_
                 rotate_left
                 ·
                  rintro w' ⟨s0, s1, s2, s3, s4, s5, s6, s7, s8⟩
                  go_simp
                  with_reducible rfl
                 rotate_left
                 ·
                  simp only [Act.put, List.setIfInBounds_toArray, List.set_cons_zero, List.set_cons_succ, i64_w, i32_w]
                  rfl
                 refine take_ (i := 4) (N := some 134) (v := ?_) (a' := ?_) #[tb_,tb_,tb_,tb_,tb_,tb_,fb_,tb_,tb_,tb_,fb_,fb_,fb_,fb_] rfl rfl (take_ofW HT_.out HW_.out (by kernel_rfl)) (fun _ _ _ h => h) (Or.inl ⟨by rfl, ?_⟩) hHeld ?_ ?_
                 rotate_left
                 ·
                  rintro w' ⟨s0, s1, s2, s3, s4, s5, s6, s7, s8⟩
                  go_simp
                  with_reducible rfl
                 rotate_left
                 ·
                  simp only [Act.put, List.setIfInBounds_toArray, List.set_cons_zero, List.set_cons_succ, i64_w, i32_w]
                  rfl
                 refine take_ (i := 6) (N := some 136) (v := ?_) (a' := ?_) #[tb_,tb_,tb_,tb_,tb_,tb_,tb_,tb_,tb_,tb_,fb_,fb_,fb_,fb_] rfl rfl (take_ofW HT_.out HW_.out (by kernel_rfl)) (fun _ _ _ h => h) (Or.inl ⟨by rfl, ?_⟩) hHeld ?_ ?_
                 rotate_left
                 ·
                  rintro w' ⟨s0, s1, s2, s3, s4, s5, s6, s7, s8⟩
                  go_simp
                  with_reducible rfl
                 rotate_left
                 ·
                  simp only [Act.put, List.setIfInBounds_toArray, List.set_cons_zero, List.set_cons_succ, i64_w, i32_w]
                  rfl
                 refine take_ (i := 10) (N := some 140) (v := ?_) (a' := ?_) #[tb_,tb_,tb_,tb_,tb_,tb_,tb_,tb_,tb_,tb_,tb_,fb_,fb_,fb_] rfl rfl (take_ofW HT_.out HW_.out (by kernel_rfl)) (fun _ _ _ h => h) (Or.inl ⟨by rfl, ?_⟩) hHeld ?_ ?_
                 rotate_left
                 ·
                  rintro w' ⟨s0, s1, s2, s3, s4, s5, s6, s7, s8⟩
                  go_simp
                  with_reducible rfl
                 rotate_left
                 ·
                  simp only [Act.put, List.setIfInBounds_toArray, List.set_cons_zero, List.set_cons_succ, i64_w, i32_w]
                  rfl
                 refine pu_ (i := 11) (N := some 141) #[tb_,tb_,tb_,tb_,tb_,tb_,tb_,tb_,tb_,tb_,tb_,tb_,fb_,fb_] (any_of HT_.out (by kernel_rfl)) ?_
                 refine one_ (i := 12) (N := some 142) #[tb_,tb_,tb_,tb_,tb_,tb_,tb_,tb_,tb_,tb_,tb_,tb_,tb_,fb_] rfl rfl (one_of HT_.out (by kernel_rfl)) (by decide) (fun K hK => ?_)
                 refine goes_ Try.func40 (by kernel_rfl) rfl #[.slice Ao100 t300.length co100, .agg #[.int .i64 t293, .int .i64 t294, .int .i64 t295, .int .i64 ((rd_T41 t322 x9_3).f0), .int .i64 ((rd_T41 t322 x9_3).f1), .int .i64 ((rd_T41 t322 x9_3).f2)]] (by rfl) rfl rfl (by (try simp only [List.map_toArray, List.map_cons, List.map_nil]); first | done | rfl | (simp only [List.length_drop, List.length_take]; rfl)) ?_
                 with_reducible refine (impl_FactHas.calls k3 _ _ t300 t293 t294 t295 ((rd_T41 t322 x9_3).f0) ((rd_T41 t322 x9_3).f1) ((rd_T41 t322 x9_3).f2) false _ ?side1 ?side2 A105.out).mono ?_
                 (case side1 => repeat (first | exact (Kd.R_reads' HO_5.out).2.2 | (with_reducible refine Kd.C_alloc ?_ _) | (with_reducible refine Kd.C_drewN ?_ _) | (with_reducible refine Kd.C_drew ?_)))
                 (case side2 => exact (Kd.R_reads' HO_5.out).2.1)
                 rintro e w114 ⟨rfl, hb⟩
                 have HS6_ := pB_ hb (hHeld.2.2.2.2.2.2.1)
                 have HS7_ := pB_ hb (hHeld.2.2.2.2.2.2.2.1)
                 have HS8_ := pB_ hb (hHeld.2.2.2.2.2.2.2.2)
                 refine ⟨_, rfl, ?_⟩
                 have n0_ := Ad_.mk (Kd.R_below (by (with_reducible repeat (first | apply Kd.R_alloc | apply Kd.R_drewN | apply Kd.R_drew)); exact HO_5.out) hb)
                 have n1_ := Ad_.mk (Kd.R_below (by (with_reducible repeat (first | apply Kd.R_alloc | apply Kd.R_drewN | apply Kd.R_drew)); exact HO_7.out) hb)
                 have n2_ := Ad_.mk (blk_below (g := gb299) (o := .cells #[.int .i64 t293, .int .i64 t294, .int .i64 t295, .int .i64 t296, .int .i64 t297, .int .i64 t298] 43 (0, 0)) (by (with_reducible repeat (first | refine kN_ ?_ _ | refine k1_ ?_ | refine kA_ ?_ _)); exact BK299.out) hb)
                 have n3_ := Ad_.mk (bP_ (by repeat (with_reducible first | exact HB.out | apply bA_ | apply bN_ | apply b1_ | refine bS_ ?_ GE299.out)) hb)
                 clear HO_5
                 clear HO_7
                 clear BK299
                 clear HB
                 have HO_5 := n0_
                 have HO_7 := n1_
                 have BK299 := n2_
                 have HB := n3_
                 clear n0_ n1_ n2_ n3_
                 (try clear hb)
                 (try clear hb2)
                 (try clear hk)
                 (try clear hi)
                 refine hK.out _ _ ⟨(kC_ BK299.out 0).trans rfl, (kC_ BK299.out 1).trans rfl, (kC_ BK299.out 2).trans rfl, (kC_ BK299.out 3).trans rfl, (kC_ BK299.out 4).trans rfl, (kC_ BK299.out 5).trans rfl, HS6_, HS7_, HS8_⟩ (fun hHeld => ?_)
                 clear hK K
                 refine norm_ (a' := ?_) ?_ ?_
                 rotate_left
                 ·
                  show Act.put _ (some 142) _ = _
                  simp only [Act.put, List.setIfInBounds_toArray, List.set_cons_zero, List.set_cons_succ, i64_w, i32_w]
                  rfl
                 refine pu_ (i := 13) (N := some 143) #[tb_,tb_,tb_,tb_,tb_,tb_,tb_,tb_,tb_,tb_,tb_,tb_,tb_,tb_] (any_of HT_.out (by kernel_rfl)) ?_
                 refine done_ (done_of HT_.out (by kernel_rfl)) ?_
                 try go_wp2
                 go_ret
                 exact ⟨by first | rfl | (simp [errW_none, errW_some] <;> rfl) | (simp [*, errW_none, errW_some] <;> rfl), by repeat (with_reducible first | exact HB.out | apply bA_ | apply bN_ | apply b1_ | refine bS_ ?_ GE299.out)⟩
                subst c106
                have H1 := H
                rw [if_pos rfl] at H1
                clear H
                have H := H1
                clear H1
                have H' := Ad_.mk H
                clear H
                obtain ⟨Ao107, co107, eo107⟩ := Kd.R_slice HO_7.out
                subst eo107
                try go_wp2
                have n0_ := Ad_.mk (Kd.R_drew HO_5.out)
                have n1_ := Ad_.mk (Kd.R_drew HO_7.out)
                have n2_ := Ad_.mk (k1_ BK299.out)
                have n3_ := Ad_.mk (b1_ HB.out)
                clear HO_5
                clear HO_7
                clear BK299
                clear HB
                have HO_5 := n0_
                have HO_7 := n1_
                have BK299 := n2_
                have HB := n3_
                clear n0_ n1_ n2_ n3_
                refine start_ (n := 11) (S := fun w' => True) (ds := []) #[fb_,fb_,fb_,fb_,fb_,fb_,fb_,fb_,fb_,fb_,fb_] (by kernel_rfl) rfl rfl trivial (fun hHeld => ?_); refine with_tabW laws_FnFacts.tab19 laws_FnFacts.bits19 (fun HT_ HW_ => ?_)
                generalize wr.drew = w108 at HO_5 HO_7 BK299 HB hHeld ⊢
                refine pu_ (i := 0) (N := some 120) #[tb_,fb_,fb_,fb_,fb_,fb_,fb_,fb_,fb_,fb_,fb_] (any_of HT_.out (by kernel_rfl)) ?_
                refine pu_ (i := 1) (N := some 121) #[tb_,tb_,fb_,fb_,fb_,fb_,fb_,fb_,fb_,fb_,fb_] (any_of HT_.out (by kernel_rfl)) ?_
                refine pv_ (i := 2) (N := some 122) #[tb_,tb_,tb_,fb_,fb_,fb_,fb_,fb_,fb_,fb_,fb_] (any_of HT_.out (by kernel_rfl)) ?_
                refine pv_ (i := 3) (N := some 123) #[tb_,tb_,tb_,tb_,fb_,fb_,fb_,fb_,fb_,fb_,fb_] (any_of HT_.out (by kernel_rfl)) ?_
                refine pv_ (i := 4) (N := some 124) #[tb_,tb_,tb_,tb_,tb_,fb_,fb_,fb_,fb_,fb_,fb_] (any_of HT_.out (by kernel_rfl)) ?_
                refine pv_ (i := 5) (N := some 125) #[tb_,tb_,tb_,tb_,tb_,tb_,fb_,fb_,fb_,fb_,fb_] (any_of HT_.out (by kernel_rfl)) ?_
                refine pv_ (i := 6) (N := some 126) #[tb_,tb_,tb_,tb_,tb_,tb_,tb_,fb_,fb_,fb_,fb_] (any_of HT_.out (by kernel_rfl)) ?_
                refine pv_ (i := 7) (N := some 127) #[tb_,tb_,tb_,tb_,tb_,tb_,tb_,tb_,fb_,fb_,fb_] (any_of HT_.out (by kernel_rfl)) ?_
                refine pv_ (i := 8) (N := some 128) #[tb_,tb_,tb_,tb_,tb_,tb_,tb_,tb_,tb_,fb_,fb_] (any_of HT_.out (by kernel_rfl)) ?_
                refine pu_ (i := 9) (N := some 129) #[tb_,tb_,tb_,tb_,tb_,tb_,tb_,tb_,tb_,tb_,fb_] (any_of HT_.out (by kernel_rfl)) ?_
                refine pu_ (i := 10) (N := some 8) #[tb_,tb_,tb_,tb_,tb_,tb_,tb_,tb_,tb_,tb_,tb_] (any_of HT_.out (by kernel_rfl)) ?_
                refine done_ (done_of HT_.out (by kernel_rfl)) ?_
                try go_wp2
                have n0_ := Ad_.mk (Kd.R_drew HO_5.out)
                have n1_ := Ad_.mk (Kd.R_drew HO_7.out)
                have n2_ := Ad_.mk (k1_ BK299.out)
                have n3_ := Ad_.mk (b1_ HB.out)
                clear HO_5
                clear HO_7
                clear BK299
                clear HB
                have HO_5 := n0_
                have HO_7 := n1_
                have BK299 := n2_
                have HB := n3_
                clear n0_ n1_ n2_ n3_
                have p326 : 0 ≤ (x9_3 : Int) := od_
                have q326 : x9_3 < (t322.length : Int) := od_
                obtain ⟨ad326, e326, hx326_0, hx326_1, hx326_2⟩ := at_T41 (Kd.R_reads' HO_7.out).2.2 x9_3 p326 q326
                cases e326
                replace p326 := eq_true p326
                replace q326 := eq_true q326
                refine start_ (n := 14) (S := fun w' => w'.cell? ⟨gb299, 0, none⟩ = some (.int .i64 t293) ∧ w'.cell? ⟨gb299, 1, none⟩ = some (.int .i64 t294) ∧ w'.cell? ⟨gb299, 2, none⟩ = some (.int .i64 t295) ∧ w'.cell? ⟨gb299, 3, none⟩ = some (.int .i64 t296) ∧ w'.cell? ⟨gb299, 4, none⟩ = some (.int .i64 t297) ∧ w'.cell? ⟨gb299, 5, none⟩ = some (.int .i64 t298) ∧ w'.cell? (ad326.add ((x9_3).toNat * 3)) = some (.int .i64 ((rd_T41 t322 x9_3).f0)) ∧ w'.cell? ⟨(ad326.add ((x9_3).toNat * 3)).block, (ad326.add ((x9_3).toNat * 3)).off + 1, none⟩ = some (.int .i64 ((rd_T41 t322 x9_3).f1)) ∧ w'.cell? ⟨(ad326.add ((x9_3).toNat * 3)).block, (ad326.add ((x9_3).toNat * 3)).off + 2, none⟩ = some (.int .i64 ((rd_T41 t322 x9_3).f2))) (ds := []) #[fb_,fb_,fb_,fb_,fb_,fb_,fb_,fb_,fb_,fb_,fb_,fb_,fb_,fb_] (by kernel_rfl) rfl rfl ⟨(kC_ BK299.out 0).trans rfl, (kC_ BK299.out 1).trans rfl, (kC_ BK299.out 2).trans rfl, (kC_ BK299.out 3).trans rfl, (kC_ BK299.out 4).trans rfl, (kC_ BK299.out 5).trans rfl, hx326_0, hx326_1, hx326_2⟩ (fun hHeld => ?_); refine with_tabW laws_FnFacts.tab20 laws_FnFacts.bits20 (fun HT_ HW_ => ?_)
                generalize w108.drew = w109 at HO_5 HO_7 BK299 HB hx326_0 hx326_1 hx326_2 hHeld ⊢
                refine pu_ (i := 0) (N := some 130) #[tb_,fb_,fb_,fb_,fb_,fb_,fb_,fb_,fb_,fb_,fb_,fb_,fb_,fb_] (any_of HT_.out (by kernel_rfl)) ?_
                refine pu_ (i := 1) (N := some 131) #[tb_,tb_,fb_,fb_,fb_,fb_,fb_,fb_,fb_,fb_,fb_,fb_,fb_,fb_] (any_of HT_.out (by kernel_rfl)) ?_
                refine pu_ (i := 3) (N := some 133) #[tb_,tb_,fb_,tb_,fb_,fb_,fb_,fb_,fb_,fb_,fb_,fb_,fb_,fb_] (any_of HT_.out (by kernel_rfl)) ?_
                refine pu_ (i := 5) (N := some 135) #[tb_,tb_,fb_,tb_,fb_,tb_,fb_,fb_,fb_,fb_,fb_,fb_,fb_,fb_] (any_of HT_.out (by kernel_rfl)) ?_
                refine pu_ (i := 7) (N := some 137) #[tb_,tb_,fb_,tb_,fb_,tb_,fb_,tb_,fb_,fb_,fb_,fb_,fb_,fb_] (any_of HT_.out (by kernel_rfl)) ?_
                refine pu_ (i := 8) (N := some 138) #[tb_,tb_,fb_,tb_,fb_,tb_,fb_,tb_,tb_,fb_,fb_,fb_,fb_,fb_] (any_of HT_.out (by kernel_rfl)) ?_
                refine pu_ (i := 9) (N := some 139) #[tb_,tb_,fb_,tb_,fb_,tb_,fb_,tb_,tb_,tb_,fb_,fb_,fb_,fb_] (any_of HT_.out (by kernel_rfl)) ?_
                refine take_ (i := 2) (N := some 132) (v := ?_) (a' := ?_) #[tb_,tb_,tb_,tb_,fb_,tb_,fb_,tb_,tb_,tb_,fb_,fb_,fb_,fb_] rfl rfl (take_ofW HT_.out HW_.out (by kernel_rfl)) (fun _ _ _ h => h) (Or.inl ⟨by rfl, ?_⟩) hHeld ?_ ?_
                rotate_left
                ·
                 rintro w' ⟨s0, s1, s2, s3, s4, s5, s6, s7, s8⟩
                 go_simp
                 with_reducible rfl
                rotate_left
                ·
                 simp only [Act.put, List.setIfInBounds_toArray, List.set_cons_zero, List.set_cons_succ, i64_w, i32_w]
                 rfl
                refine take_ (i := 4) (N := some 134) (v := ?_) (a' := ?_) #[tb_,tb_,tb_,tb_,tb_,tb_,fb_,tb_,tb_,tb_,fb_,fb_,fb_,fb_] rfl rfl (take_ofW HT_.out HW_.out (by kernel_rfl)) (fun _ _ _ h => h) (Or.inl ⟨by rfl, ?_⟩) hHeld ?_ ?_
                rotate_left
                ·
                 rintro w' ⟨s0, s1, s2, s3, s4, s5, s6, s7, s8⟩
                 go_simp
                 with_reducible rfl
                rotate_left
                ·
                 simp only [Act.put, List.setIfInBounds_toArray, List.set_cons_zero, List.set_cons_succ, i64_w, i32_w]
                 rfl
                refine take_ (i := 6) (N := some 136) (v := ?_) (a' := ?_) #[tb_,tb_,tb_,tb_,tb_,tb_,tb_,tb_,tb_,tb_,fb_,fb_,fb_,fb_] rfl rfl (take_ofW HT_.out HW_.out (by kernel_rfl)) (fun _ _ _ h => h) (Or.inl ⟨by rfl, ?_⟩) hHeld ?_ ?_
                rotate_left
                ·
                 rintro w' ⟨s0, s1, s2, s3, s4, s5, s6, s7, s8⟩
                 go_simp
                 with_reducible rfl
                rotate_left
                ·
                 simp only [Act.put, List.setIfInBounds_toArray, List.set_cons_zero, List.set_cons_succ, i64_w, i32_w]
                 rfl
                refine take_ (i := 10) (N := some 140) (v := ?_) (a' := ?_) #[tb_,tb_,tb_,tb_,tb_,tb_,tb_,tb_,tb_,tb_,tb_,fb_,fb_,fb_] rfl rfl (take_ofW HT_.out HW_.out (by kernel_rfl)) (fun _ _ _ h => h) (Or.inl ⟨by rfl, ?_⟩) hHeld ?_ ?_
                rotate_left
                ·
                 rintro w' ⟨s0, s1, s2, s3, s4, s5, s6, s7, s8⟩
                 go_simp
                 with_reducible rfl
                rotate_left
                ·
                 simp only [Act.put, List.setIfInBounds_toArray, List.set_cons_zero, List.set_cons_succ, i64_w, i32_w]
                 rfl
                refine pu_ (i := 11) (N := some 141) #[tb_,tb_,tb_,tb_,tb_,tb_,tb_,tb_,tb_,tb_,tb_,tb_,fb_,fb_] (any_of HT_.out (by kernel_rfl)) ?_
                refine one_ (i := 12) (N := some 142) #[tb_,tb_,tb_,tb_,tb_,tb_,tb_,tb_,tb_,tb_,tb_,tb_,tb_,fb_] rfl rfl (one_of HT_.out (by kernel_rfl)) (by decide) (fun K hK => ?_)
                refine goes_ Try.func40 (by kernel_rfl) rfl #[.slice Ao100 t300.length co100, .agg #[.int .i64 t293, .int .i64 t294, .int .i64 t295, .int .i64 ((rd_T41 t322 x9_3).f0), .int .i64 ((rd_T41 t322 x9_3).f1), .int .i64 ((rd_T41 t322 x9_3).f2)]] (by rfl) rfl rfl (by (try simp only [List.map_toArray, List.map_cons, List.map_nil]); first | done | rfl | (simp only [List.length_drop, List.length_take]; rfl)) ?_
                with_reducible refine (impl_FactHas.calls k3 _ _ t300 t293 t294 t295 ((rd_T41 t322 x9_3).f0) ((rd_T41 t322 x9_3).f1) ((rd_T41 t322 x9_3).f2) true _ ?side1 ?side2 A105.out).mono ?_
                (case side1 => repeat (first | exact (Kd.R_reads' HO_5.out).2.2 | (with_reducible refine Kd.C_alloc ?_ _) | (with_reducible refine Kd.C_drewN ?_ _) | (with_reducible refine Kd.C_drew ?_)))
                (case side2 => exact (Kd.R_reads' HO_5.out).2.1)
                rintro e w110 ⟨rfl, hb⟩
                have HS6_ := pB_ hb (hHeld.2.2.2.2.2.2.1)
                have HS7_ := pB_ hb (hHeld.2.2.2.2.2.2.2.1)
                have HS8_ := pB_ hb (hHeld.2.2.2.2.2.2.2.2)
                refine ⟨_, rfl, ?_⟩
                have n0_ := Ad_.mk (Kd.R_below (by (with_reducible repeat (first | apply Kd.R_alloc | apply Kd.R_drewN | apply Kd.R_drew)); exact HO_5.out) hb)
                have n1_ := Ad_.mk (Kd.R_below (by (with_reducible repeat (first | apply Kd.R_alloc | apply Kd.R_drewN | apply Kd.R_drew)); exact HO_7.out) hb)
                have n2_ := Ad_.mk (blk_below (g := gb299) (o := .cells #[.int .i64 t293, .int .i64 t294, .int .i64 t295, .int .i64 t296, .int .i64 t297, .int .i64 t298] 43 (0, 0)) (by (with_reducible repeat (first | refine kN_ ?_ _ | refine k1_ ?_ | refine kA_ ?_ _)); exact BK299.out) hb)
                have n3_ := Ad_.mk (bP_ (by repeat (with_reducible first | exact HB.out | apply bA_ | apply bN_ | apply b1_ | refine bS_ ?_ GE299.out)) hb)
                clear HO_5
                clear HO_7
                clear BK299
                clear HB
                have HO_5 := n0_
                have HO_7 := n1_
                have BK299 := n2_
                have HB := n3_
                clear n0_ n1_ n2_ n3_
                (try clear hb)
                (try clear hb2)
                (try clear hk)
                (try clear hi)
                refine hK.out _ _ ⟨(kC_ BK299.out 0).trans rfl, (kC_ BK299.out 1).trans rfl, (kC_ BK299.out 2).trans rfl, (kC_ BK299.out 3).trans rfl, (kC_ BK299.out 4).trans rfl, (kC_ BK299.out 5).trans rfl, HS6_, HS7_, HS8_⟩ (fun hHeld => ?_)
                clear hK K
                refine norm_ (a' := ?_) ?_ ?_
                rotate_left
                ·
                 show Act.put _ (some 142) _ = _
                 simp only [Act.put, List.setIfInBounds_toArray, List.set_cons_zero, List.set_cons_succ, i64_w, i32_w]
                 rfl
                refine pu_ (i := 13) (N := some 143) #[tb_,tb_,tb_,tb_,tb_,tb_,tb_,tb_,tb_,tb_,tb_,tb_,tb_,tb_] (any_of HT_.out (by kernel_rfl)) ?_
                refine done_ (done_of HT_.out (by kernel_rfl)) ?_
                try go_wp2
                go_roundg k3
                case measure => have := HJ7.out; have := HK2.out; have := HK3.out; omega
                case rel => exact ⟨(true), (wrap64 (x9_3 + 1)), fs_, fs_, H', ⟨by have := HJ7.out; have := HK2.out; have := HK3.out; omega⟩, ⟨by (with_reducible repeat (first | apply Kd.R_alloc | apply Kd.R_drewN | apply Kd.R_drew)); exact HO_5.out⟩, ⟨by (with_reducible repeat (first | apply Kd.R_alloc | apply Kd.R_drewN | apply Kd.R_drew)); exact HO_7.out⟩, ⟨by (with_reducible repeat (first | refine kN_ ?_ _ | refine k1_ ?_ | refine kA_ ?_ _)); exact BK299.out⟩, ⟨by repeat (with_reducible first | exact HB.out | apply bA_ | apply bN_ | apply b1_ | refine bS_ ?_ GE299.out)⟩⟩
               replace c103 := Bool.eq_false_iff.mpr c103
               subst c103
               have H1 : (if 0 ≤ x9_3 then ((impl_FactHas.f k3 t300 t293 t294 t295 ((rd_T41 t322 x9_3).f0) ((rd_T41 t322 x9_3).f1) ((rd_T41 t322 x9_3).f2)).bind fun t329 => (if t329 = true then (laws_FnFacts.l1 k3 t300 t322 (((rd_T41 t322 x9_3).f0) == t296 && (((rd_T41 t322 x9_3).f1) == t297 && (((rd_T41 t322 x9_3).f2) == t298))) (wrap64 (x9_3 + 1)) t293 t294 t295 t296 t297 t298) else (some false))) else (none)) = some r := by rw [if_neg (show ¬ (false = true) by decide)] at H; exact H
               clear H
               have H := H1
               clear H1
               by_cases c115 : 0 ≤ x9_3
               rotate_left
               ·
                rw [if_neg c115] at H
                exact absurd H (by simp)
               rw [if_pos c115] at H
               have c115b0 := decide_eq_true c115
               clear c115
               replace H := Option.bind_eq_some_iff.mp H
               obtain ⟨t329, A1160, H⟩ := H
               try dsimp only at H
               have A116 := Ad_.mk A1160
               clear A1160
               by_cases c117 : t329 = true
               rotate_left
               ·
                replace c117 := Bool.eq_false_iff.mpr c117
                subst c117
                have H1 : (some false) = some r := by rw [if_neg (show ¬ (false = true) by decide)] at H; exact H
                clear H
                have H := H1
                clear H1
                obtain rfl := Option.some.inj H
                obtain ⟨Ao122, co122, eo122⟩ := Kd.R_slice HO_7.out
                subst eo122
                try go_wp2
                have n0_ := Ad_.mk (Kd.R_drew HO_5.out)
                have n1_ := Ad_.mk (Kd.R_drew HO_7.out)
                have n2_ := Ad_.mk (k1_ BK299.out)
                have n3_ := Ad_.mk (b1_ HB.out)
                clear HO_5
                clear HO_7
                clear BK299
                clear HB
                have HO_5 := n0_
                have HO_7 := n1_
                have BK299 := n2_
                have HB := n3_
                clear n0_ n1_ n2_ n3_
                have p325 : 0 ≤ (x9_3 : Int) := od_
                have q325 : x9_3 < (t322.length : Int) := od_
                obtain ⟨ad325, e325, hx325_0, hx325_1, hx325_2⟩ := at_T41 (Kd.R_reads' HO_7.out).2.2 x9_3 p325 q325
                cases e325
                replace p325 := eq_true p325
                replace q325 := eq_true q325
                refine start_ (n := 11) (S := fun w' => w'.cell? ⟨gb299, 0, none⟩ = some (.int .i64 t293) ∧ w'.cell? ⟨gb299, 1, none⟩ = some (.int .i64 t294) ∧ w'.cell? ⟨gb299, 2, none⟩ = some (.int .i64 t295) ∧ w'.cell? ⟨gb299, 3, none⟩ = some (.int .i64 t296) ∧ w'.cell? ⟨gb299, 4, none⟩ = some (.int .i64 t297) ∧ w'.cell? ⟨gb299, 5, none⟩ = some (.int .i64 t298) ∧ w'.cell? (ad325.add ((x9_3).toNat * 3)) = some (.int .i64 ((rd_T41 t322 x9_3).f0)) ∧ w'.cell? ⟨(ad325.add ((x9_3).toNat * 3)).block, (ad325.add ((x9_3).toNat * 3)).off + 1, none⟩ = some (.int .i64 ((rd_T41 t322 x9_3).f1)) ∧ w'.cell? ⟨(ad325.add ((x9_3).toNat * 3)).block, (ad325.add ((x9_3).toNat * 3)).off + 2, none⟩ = some (.int .i64 ((rd_T41 t322 x9_3).f2))) (ds := []) #[fb_,fb_,fb_,fb_,fb_,fb_,fb_,fb_,fb_,fb_,fb_] (by kernel_rfl) rfl rfl ⟨(kC_ BK299.out 0).trans rfl, (kC_ BK299.out 1).trans rfl, (kC_ BK299.out 2).trans rfl, (kC_ BK299.out 3).trans rfl, (kC_ BK299.out 4).trans rfl, (kC_ BK299.out 5).trans rfl, hx325_0, hx325_1, hx325_2⟩ (fun hHeld => ?_); refine with_tabW laws_FnFacts.tab19 laws_FnFacts.bits19 (fun HT_ HW_ => ?_)
                generalize wr.drew = w123 at HO_5 HO_7 BK299 HB hx325_0 hx325_1 hx325_2 hHeld ⊢
                refine pu_ (i := 0) (N := some 120) #[tb_,fb_,fb_,fb_,fb_,fb_,fb_,fb_,fb_,fb_,fb_] (any_of HT_.out (by kernel_rfl)) ?_
                refine pu_ (i := 1) (N := some 121) #[tb_,tb_,fb_,fb_,fb_,fb_,fb_,fb_,fb_,fb_,fb_] (any_of HT_.out (by kernel_rfl)) ?_
                refine pu_ (i := 2) (N := some 122) #[tb_,tb_,tb_,fb_,fb_,fb_,fb_,fb_,fb_,fb_,fb_] (any_of HT_.out (by kernel_rfl)) ?_
                refine pu_ (i := 3) (N := some 123) #[tb_,tb_,tb_,tb_,fb_,fb_,fb_,fb_,fb_,fb_,fb_] (any_of HT_.out (by kernel_rfl)) ?_
                refine pu_ (i := 4) (N := some 124) #[tb_,tb_,tb_,tb_,tb_,fb_,fb_,fb_,fb_,fb_,fb_] (any_of HT_.out (by kernel_rfl)) ?_
                refine pu_ (i := 6) (N := some 126) #[tb_,tb_,tb_,tb_,tb_,fb_,tb_,fb_,fb_,fb_,fb_] (any_of HT_.out (by kernel_rfl)) ?_
                refine take_ (i := 5) (N := some 125) (v := ?_) (a' := ?_) #[tb_,tb_,tb_,tb_,tb_,tb_,tb_,fb_,fb_,fb_,fb_] rfl rfl (take_ofW HT_.out HW_.out (by kernel_rfl)) (fun _ _ _ h => h) (Or.inl ⟨by rfl, ?_⟩) hHeld ?_ ?_
                rotate_left
                ·
                 rintro w' ⟨s0, s1, s2, s3, s4, s5, s6, s7, s8⟩
                 go_simp
                 with_reducible rfl
                rotate_left
                ·
                 simp only [Act.put, List.setIfInBounds_toArray, List.set_cons_zero, List.set_cons_succ, i64_w, i32_w]
                 rfl
                refine take_ (i := 7) (N := some 127) (v := ?_) (a' := ?_) #[tb_,tb_,tb_,tb_,tb_,tb_,tb_,tb_,fb_,fb_,fb_] rfl rfl (take_ofW HT_.out HW_.out (by kernel_rfl)) (fun _ _ _ h => h) (Or.inl ⟨by rfl, ?_⟩) hHeld ?_ ?_
                rotate_left
                ·
                 rintro w' ⟨s0, s1, s2, s3, s4, s5, s6, s7, s8⟩
                 go_simp
                 with_reducible rfl
                rotate_left
                ·
                 simp only [Act.put, List.setIfInBounds_toArray, List.set_cons_zero, List.set_cons_succ, i64_w, i32_w]
                 rfl
                refine pu_ (i := 8) (N := some 128) #[tb_,tb_,tb_,tb_,tb_,tb_,tb_,tb_,tb_,fb_,fb_] (any_of HT_.out (by kernel_rfl)) ?_
                refine pu_ (i := 9) (N := some 129) #[tb_,tb_,tb_,tb_,tb_,tb_,tb_,tb_,tb_,tb_,fb_] (any_of HT_.out (by kernel_rfl)) ?_
                refine pu_ (i := 10) (N := some 8) #[tb_,tb_,tb_,tb_,tb_,tb_,tb_,tb_,tb_,tb_,tb_] (any_of HT_.out (by kernel_rfl)) ?_
                refine done_ (done_of HT_.out (by kernel_rfl)) ?_
                try go_wp2
                have n0_ := Ad_.mk (Kd.R_drew HO_5.out)
                have n1_ := Ad_.mk (Kd.R_drew HO_7.out)
                have n2_ := Ad_.mk (k1_ BK299.out)
                have n3_ := Ad_.mk (b1_ HB.out)
                clear HO_5
                clear HO_7
                clear BK299
                clear HB
                have HO_5 := n0_
                have HO_7 := n1_
                have BK299 := n2_
                have HB := n3_
                clear n0_ n1_ n2_ n3_
                have p328 : 0 ≤ (x9_3 : Int) := od_
                have q328 : x9_3 < (t322.length : Int) := od_
                obtain ⟨ad328, e328, hx328_0, hx328_1, hx328_2⟩ := at_T41 (Kd.R_reads' HO_7.out).2.2 x9_3 p328 q328
                obtain rfl : ad325 = ad328 := (by injection e328)
                replace p328 := eq_true p328
                replace q328 := eq_true q328
                refine start_ (n := 14) (S := fun w' => w'.cell? ⟨gb299, 0, none⟩ = some (.int .i64 t293) ∧ w'.cell? ⟨gb299, 1, none⟩ = some (.int .i64 t294) ∧ w'.cell? ⟨gb299, 2, none⟩ = some (.int .i64 t295) ∧ w'.cell? ⟨gb299, 3, none⟩ = some (.int .i64 t296) ∧ w'.cell? ⟨gb299, 4, none⟩ = some (.int .i64 t297) ∧ w'.cell? ⟨gb299, 5, none⟩ = some (.int .i64 t298) ∧ w'.cell? (ad325.add ((x9_3).toNat * 3)) = some (.int .i64 ((rd_T41 t322 x9_3).f0)) ∧ w'.cell? ⟨(ad325.add ((x9_3).toNat * 3)).block, (ad325.add ((x9_3).toNat * 3)).off + 1, none⟩ = some (.int .i64 ((rd_T41 t322 x9_3).f1)) ∧ w'.cell? ⟨(ad325.add ((x9_3).toNat * 3)).block, (ad325.add ((x9_3).toNat * 3)).off + 2, none⟩ = some (.int .i64 ((rd_T41 t322 x9_3).f2))) (ds := []) #[fb_,fb_,fb_,fb_,fb_,fb_,fb_,fb_,fb_,fb_,fb_,fb_,fb_,fb_] (by kernel_rfl) rfl rfl ⟨(kC_ BK299.out 0).trans rfl, (kC_ BK299.out 1).trans rfl, (kC_ BK299.out 2).trans rfl, (kC_ BK299.out 3).trans rfl, (kC_ BK299.out 4).trans rfl, (kC_ BK299.out 5).trans rfl, hx328_0, hx328_1, hx328_2⟩ (fun hHeld => ?_); refine with_tabW laws_FnFacts.tab20 laws_FnFacts.bits20 (fun HT_ HW_ => ?_)
                generalize w123.drew = w124 at HO_5 HO_7 BK299 HB hx328_0 hx328_1 hx328_2 hHeld ⊢
                refine pu_ (i := 0) (N := some 130) #[tb_,fb_,fb_,fb_,fb_,fb_,fb_,fb_,fb_,fb_,fb_,fb_,fb_,fb_] (any_of HT_.out (by kernel_rfl)) ?_
                refine pu_ (i := 1) (N := some 131) #[tb_,tb_,fb_,fb_,fb_,fb_,fb_,fb_,fb_,fb_,fb_,fb_,fb_,fb_] (any_of HT_.out (by kernel_rfl)) ?_
                refine pu_ (i := 3) (N := some 133) #[tb_,tb_,fb_,tb_,fb_,fb_,fb_,fb_,fb_,fb_,fb_,fb_,fb_,fb_] (any_of HT_.out (by kernel_rfl)) ?_
                refine pu_ (i := 5) (N := some 135) #[tb_,tb_,fb_,tb_,fb_,tb_,fb_,fb_,fb_,fb_,fb_,fb_,fb_,fb_] (any_of HT_.out (by kernel_rfl)) ?_
                refine pu_ (i := 7) (N := some 137) #[tb_,tb_,fb_,tb_,fb_,tb_,fb_,tb_,fb_,fb_,fb_,fb_,fb_,fb_] (any_of HT_.out (by kernel_rfl)) ?_
                refine pu_ (i := 8) (N := some 138) #[tb_,tb_,fb_,tb_,fb_,tb_,fb_,tb_,tb_,fb_,fb_,fb_,fb_,fb_] (any_of HT_.out (by kernel_rfl)) ?_
                refine pu_ (i := 9) (N := some 139) #[tb_,tb_,fb_,tb_,fb_,tb_,fb_,tb_,tb_,tb_,fb_,fb_,fb_,fb_] (any_of HT_.out (by kernel_rfl)) ?_
                refine take_ (i := 2) (N := some 132) (v := ?_) (a' := ?_) #[tb_,tb_,tb_,tb_,fb_,tb_,fb_,tb_,tb_,tb_,fb_,fb_,fb_,fb_] rfl rfl (take_ofW HT_.out HW_.out (by kernel_rfl)) (fun _ _ _ h => h) (Or.inl ⟨by rfl, ?_⟩) hHeld ?_ ?_
                rotate_left
                ·
                 rintro w' ⟨s0, s1, s2, s3, s4, s5, s6, s7, s8⟩
                 go_simp
                 with_reducible rfl
                rotate_left
                ·
                 simp only [Act.put, List.setIfInBounds_toArray, List.set_cons_zero, List.set_cons_succ, i64_w, i32_w]
                 rfl
                refine take_ (i := 4) (N := some 134) (v := ?_) (a' := ?_) #[tb_,tb_,tb_,tb_,tb_,tb_,fb_,tb_,tb_,tb_,fb_,fb_,fb_,fb_] rfl rfl (take_ofW HT_.out HW_.out (by kernel_rfl)) (fun _ _ _ h => h) (Or.inl ⟨by rfl, ?_⟩) hHeld ?_ ?_
                rotate_left
                ·
                 rintro w' ⟨s0, s1, s2, s3, s4, s5, s6, s7, s8⟩
                 go_simp
                 with_reducible rfl
                rotate_left
                ·
                 simp only [Act.put, List.setIfInBounds_toArray, List.set_cons_zero, List.set_cons_succ, i64_w, i32_w]
                 rfl
                refine take_ (i := 6) (N := some 136) (v := ?_) (a' := ?_) #[tb_,tb_,tb_,tb_,tb_,tb_,tb_,tb_,tb_,tb_,fb_,fb_,fb_,fb_] rfl rfl (take_ofW HT_.out HW_.out (by kernel_rfl)) (fun _ _ _ h => h) (Or.inl ⟨by rfl, ?_⟩) hHeld ?_ ?_
                rotate_left
                ·
                 rintro w' ⟨s0, s1, s2, s3, s4, s5, s6, s7, s8⟩
                 go_simp
                 with_reducible rfl
                rotate_left
                ·
                 simp only [Act.put, List.setIfInBounds_toArray, List.set_cons_zero, List.set_cons_succ, i64_w, i32_w]
                 rfl
                refine take_ (i := 10) (N := some 140) (v := ?_) (a' := ?_) #[tb_,tb_,tb_,tb_,tb_,tb_,tb_,tb_,tb_,tb_,tb_,fb_,fb_,fb_] rfl rfl (take_ofW HT_.out HW_.out (by kernel_rfl)) (fun _ _ _ h => h) (Or.inl ⟨by rfl, ?_⟩) hHeld ?_ ?_
                rotate_left
                ·
                 rintro w' ⟨s0, s1, s2, s3, s4, s5, s6, s7, s8⟩
                 go_simp
                 with_reducible rfl
                rotate_left
                ·
                 simp only [Act.put, List.setIfInBounds_toArray, List.set_cons_zero, List.set_cons_succ, i64_w, i32_w]
                 rfl
                refine pu_ (i := 11) (N := some 141) #[tb_,tb_,tb_,tb_,tb_,tb_,tb_,tb_,tb_,tb_,tb_,tb_,fb_,fb_] (any_of HT_.out (by kernel_rfl)) ?_
                refine one_ (i := 12) (N := some 142) #[tb_,tb_,tb_,tb_,tb_,tb_,tb_,tb_,tb_,tb_,tb_,tb_,tb_,fb_] rfl rfl (one_of HT_.out (by kernel_rfl)) (by decide) (fun K hK => ?_)
                refine goes_ Try.func40 (by kernel_rfl) rfl #[.slice Ao100 t300.length co100, .agg #[.int .i64 t293, .int .i64 t294, .int .i64 t295, .int .i64 ((rd_T41 t322 x9_3).f0), .int .i64 ((rd_T41 t322 x9_3).f1), .int .i64 ((rd_T41 t322 x9_3).f2)]] (by rfl) rfl rfl (by (try simp only [List.map_toArray, List.map_cons, List.map_nil]); first | done | rfl | (simp only [List.length_drop, List.length_take]; rfl)) ?_
                with_reducible refine (impl_FactHas.calls k3 _ _ t300 t293 t294 t295 ((rd_T41 t322 x9_3).f0) ((rd_T41 t322 x9_3).f1) ((rd_T41 t322 x9_3).f2) false _ ?side1 ?side2 A116.out).mono ?_
                (case side1 => repeat (first | exact (Kd.R_reads' HO_5.out).2.2 | (with_reducible refine Kd.C_alloc ?_ _) | (with_reducible refine Kd.C_drewN ?_ _) | (with_reducible refine Kd.C_drew ?_)))
                (case side2 => exact (Kd.R_reads' HO_5.out).2.1)
                rintro e w125 ⟨rfl, hb⟩
                have HS6_ := pB_ hb (hHeld.2.2.2.2.2.2.1)
                have HS7_ := pB_ hb (hHeld.2.2.2.2.2.2.2.1)
                have HS8_ := pB_ hb (hHeld.2.2.2.2.2.2.2.2)
                refine ⟨_, rfl, ?_⟩
                have n0_ := Ad_.mk (Kd.R_below (by (with_reducible repeat (first | apply Kd.R_alloc | apply Kd.R_drewN | apply Kd.R_drew)); exact HO_5.out) hb)
                have n1_ := Ad_.mk (Kd.R_below (by (with_reducible repeat (first | apply Kd.R_alloc | apply Kd.R_drewN | apply Kd.R_drew)); exact HO_7.out) hb)
                have n2_ := Ad_.mk (blk_below (g := gb299) (o := .cells #[.int .i64 t293, .int .i64 t294, .int .i64 t295, .int .i64 t296, .int .i64 t297, .int .i64 t298] 43 (0, 0)) (by (with_reducible repeat (first | refine kN_ ?_ _ | refine k1_ ?_ | refine kA_ ?_ _)); exact BK299.out) hb)
                have n3_ := Ad_.mk (bP_ (by repeat (with_reducible first | exact HB.out | apply bA_ | apply bN_ | apply b1_ | refine bS_ ?_ GE299.out)) hb)
                clear HO_5
                clear HO_7
                clear BK299
                clear HB
                have HO_5 := n0_
                have HO_7 := n1_
                have BK299 := n2_
                have HB := n3_
                clear n0_ n1_ n2_ n3_
                (try clear hb)
                (try clear hb2)
                (try clear hk)
                (try clear hi)
                refine hK.out _ _ ⟨(kC_ BK299.out 0).trans rfl, (kC_ BK299.out 1).trans rfl, (kC_ BK299.out 2).trans rfl, (kC_ BK299.out 3).trans rfl, (kC_ BK299.out 4).trans rfl, (kC_ BK299.out 5).trans rfl, HS6_, HS7_, HS8_⟩ (fun hHeld => ?_)
                clear hK K
                refine norm_ (a' := ?_) ?_ ?_
                rotate_left
                ·
                 show Act.put _ (some 142) _ = _
                 simp only [Act.put, List.setIfInBounds_toArray, List.set_cons_zero, List.set_cons_succ, i64_w, i32_w]
                 rfl
                refine pu_ (i := 13) (N := some 143) #[tb_,tb_,tb_,tb_,tb_,tb_,tb_,tb_,tb_,tb_,tb_,tb_,tb_,tb_] (any_of HT_.out (by kernel_rfl)) ?_
                refine done_ (done_of HT_.out (by kernel_rfl)) ?_
                try go_wp2
                go_ret
                exact ⟨by first | rfl | (simp [errW_none, errW_some] <;> rfl) | (simp [*, errW_none, errW_some] <;> rfl), by repeat (with_reducible first | exact HB.out | apply bA_ | apply bN_ | apply b1_ | refine bS_ ?_ GE299.out)⟩
               subst c117
               have H1 := H
               rw [if_pos rfl] at H1
               clear H
               have H := H1
               clear H1
               have H' := Ad_.mk H
               clear H
               obtain ⟨Ao118, co118, eo118⟩ := Kd.R_slice HO_7.out
               subst eo118
               try go_wp2
               have n0_ := Ad_.mk (Kd.R_drew HO_5.out)
               have n1_ := Ad_.mk (Kd.R_drew HO_7.out)
               have n2_ := Ad_.mk (k1_ BK299.out)
               have n3_ := Ad_.mk (b1_ HB.out)
               clear HO_5
               clear HO_7
               clear BK299
               clear HB
               have HO_5 := n0_
               have HO_7 := n1_
               have BK299 := n2_
               have HB := n3_
               clear n0_ n1_ n2_ n3_
               have p325 : 0 ≤ (x9_3 : Int) := od_
               have q325 : x9_3 < (t322.length : Int) := od_
               obtain ⟨ad325, e325, hx325_0, hx325_1, hx325_2⟩ := at_T41 (Kd.R_reads' HO_7.out).2.2 x9_3 p325 q325
               cases e325
               replace p325 := eq_true p325
               replace q325 := eq_true q325
               refine start_ (n := 11) (S := fun w' => w'.cell? ⟨gb299, 0, none⟩ = some (.int .i64 t293) ∧ w'.cell? ⟨gb299, 1, none⟩ = some (.int .i64 t294) ∧ w'.cell? ⟨gb299, 2, none⟩ = some (.int .i64 t295) ∧ w'.cell? ⟨gb299, 3, none⟩ = some (.int .i64 t296) ∧ w'.cell? ⟨gb299, 4, none⟩ = some (.int .i64 t297) ∧ w'.cell? ⟨gb299, 5, none⟩ = some (.int .i64 t298) ∧ w'.cell? (ad325.add ((x9_3).toNat * 3)) = some (.int .i64 ((rd_T41 t322 x9_3).f0)) ∧ w'.cell? ⟨(ad325.add ((x9_3).toNat * 3)).block, (ad325.add ((x9_3).toNat * 3)).off + 1, none⟩ = some (.int .i64 ((rd_T41 t322 x9_3).f1)) ∧ w'.cell? ⟨(ad325.add ((x9_3).toNat * 3)).block, (ad325.add ((x9_3).toNat * 3)).off + 2, none⟩ = some (.int .i64 ((rd_T41 t322 x9_3).f2))) (ds := []) #[fb_,fb_,fb_,fb_,fb_,fb_,fb_,fb_,fb_,fb_,fb_] (by kernel_rfl) rfl rfl ⟨(kC_ BK299.out 0).trans rfl, (kC_ BK299.out 1).trans rfl, (kC_ BK299.out 2).trans rfl, (kC_ BK299.out 3).trans rfl, (kC_ BK299.out 4).trans rfl, (kC_ BK299.out 5).trans rfl, hx325_0, hx325_1, hx325_2⟩ (fun hHeld => ?_); refine with_tabW laws_FnFacts.tab19 laws_FnFacts.bits19 (fun HT_ HW_ => ?_)
               generalize wr.drew = w119 at HO_5 HO_7 BK299 HB hx325_0 hx325_1 hx325_2 hHeld ⊢
               refine pu_ (i := 0) (N := some 120) #[tb_,fb_,fb_,fb_,fb_,fb_,fb_,fb_,fb_,fb_,fb_] (any_of HT_.out (by kernel_rfl)) ?_
               refine pu_ (i := 1) (N := some 121) #[tb_,tb_,fb_,fb_,fb_,fb_,fb_,fb_,fb_,fb_,fb_] (any_of HT_.out (by kernel_rfl)) ?_
               refine pu_ (i := 2) (N := some 122) #[tb_,tb_,tb_,fb_,fb_,fb_,fb_,fb_,fb_,fb_,fb_] (any_of HT_.out (by kernel_rfl)) ?_
               refine pu_ (i := 3) (N := some 123) #[tb_,tb_,tb_,tb_,fb_,fb_,fb_,fb_,fb_,fb_,fb_] (any_of HT_.out (by kernel_rfl)) ?_
               refine pu_ (i := 4) (N := some 124) #[tb_,tb_,tb_,tb_,tb_,fb_,fb_,fb_,fb_,fb_,fb_] (any_of HT_.out (by kernel_rfl)) ?_
               refine pu_ (i := 6) (N := some 126) #[tb_,tb_,tb_,tb_,tb_,fb_,tb_,fb_,fb_,fb_,fb_] (any_of HT_.out (by kernel_rfl)) ?_
               refine take_ (i := 5) (N := some 125) (v := ?_) (a' := ?_) #[tb_,tb_,tb_,tb_,tb_,tb_,tb_,fb_,fb_,fb_,fb_] rfl rfl (take_ofW HT_.out HW_.out (by kernel_rfl)) (fun _ _ _ h => h) (Or.inl ⟨by rfl, ?_⟩) hHeld ?_ ?_
               rotate_left
               ·
                rintro w' ⟨s0, s1, s2, s3, s4, s5, s6, s7, s8⟩
                go_simp
                with_reducible rfl
               rotate_left
               ·
                simp only [Act.put, List.setIfInBounds_toArray, List.set_cons_zero, List.set_cons_succ, i64_w, i32_w]
                rfl
               refine take_ (i := 7) (N := some 127) (v := ?_) (a' := ?_) #[tb_,tb_,tb_,tb_,tb_,tb_,tb_,tb_,fb_,fb_,fb_] rfl rfl (take_ofW HT_.out HW_.out (by kernel_rfl)) (fun _ _ _ h => h) (Or.inl ⟨by rfl, ?_⟩) hHeld ?_ ?_
               rotate_left
               ·
                rintro w' ⟨s0, s1, s2, s3, s4, s5, s6, s7, s8⟩
                go_simp
                with_reducible rfl
               rotate_left
               ·
                simp only [Act.put, List.setIfInBounds_toArray, List.set_cons_zero, List.set_cons_succ, i64_w, i32_w]
                rfl
               refine pu_ (i := 8) (N := some 128) #[tb_,tb_,tb_,tb_,tb_,tb_,tb_,tb_,tb_,fb_,fb_] (any_of HT_.out (by kernel_rfl)) ?_
               refine pu_ (i := 9) (N := some 129) #[tb_,tb_,tb_,tb_,tb_,tb_,tb_,tb_,tb_,tb_,fb_] (any_of HT_.out (by kernel_rfl)) ?_
               refine pu_ (i := 10) (N := some 8) #[tb_,tb_,tb_,tb_,tb_,tb_,tb_,tb_,tb_,tb_,tb_] (any_of HT_.out (by kernel_rfl)) ?_
               refine done_ (done_of HT_.out (by kernel_rfl)) ?_
               try go_wp2
               have n0_ := Ad_.mk (Kd.R_drew HO_5.out)
               have n1_ := Ad_.mk (Kd.R_drew HO_7.out)
               have n2_ := Ad_.mk (k1_ BK299.out)
               have n3_ := Ad_.mk (b1_ HB.out)
               clear HO_5
               clear HO_7
               clear BK299
               clear HB
               have HO_5 := n0_
               have HO_7 := n1_
               have BK299 := n2_
               have HB := n3_
               clear n0_ n1_ n2_ n3_
               have p328 : 0 ≤ (x9_3 : Int) := od_
               have q328 : x9_3 < (t322.length : Int) := od_
               obtain ⟨ad328, e328, hx328_0, hx328_1, hx328_2⟩ := at_T41 (Kd.R_reads' HO_7.out).2.2 x9_3 p328 q328
               obtain rfl : ad325 = ad328 := (by injection e328)
               replace p328 := eq_true p328
               replace q328 := eq_true q328
               refine start_ (n := 14) (S := fun w' => w'.cell? ⟨gb299, 0, none⟩ = some (.int .i64 t293) ∧ w'.cell? ⟨gb299, 1, none⟩ = some (.int .i64 t294) ∧ w'.cell? ⟨gb299, 2, none⟩ = some (.int .i64 t295) ∧ w'.cell? ⟨gb299, 3, none⟩ = some (.int .i64 t296) ∧ w'.cell? ⟨gb299, 4, none⟩ = some (.int .i64 t297) ∧ w'.cell? ⟨gb299, 5, none⟩ = some (.int .i64 t298) ∧ w'.cell? (ad325.add ((x9_3).toNat * 3)) = some (.int .i64 ((rd_T41 t322 x9_3).f0)) ∧ w'.cell? ⟨(ad325.add ((x9_3).toNat * 3)).block, (ad325.add ((x9_3).toNat * 3)).off + 1, none⟩ = some (.int .i64 ((rd_T41 t322 x9_3).f1)) ∧ w'.cell? ⟨(ad325.add ((x9_3).toNat * 3)).block, (ad325.add ((x9_3).toNat * 3)).off + 2, none⟩ = some (.int .i64 ((rd_T41 t322 x9_3).f2))) (ds := []) #[fb_,fb_,fb_,fb_,fb_,fb_,fb_,fb_,fb_,fb_,fb_,fb_,fb_,fb_] (by kernel_rfl) rfl rfl ⟨(kC_ BK299.out 0).trans rfl, (kC_ BK299.out 1).trans rfl, (kC_ BK299.out 2).trans rfl, (kC_ BK299.out 3).trans rfl, (kC_ BK299.out 4).trans rfl, (kC_ BK299.out 5).trans rfl, hx328_0, hx328_1, hx328_2⟩ (fun hHeld => ?_); refine with_tabW laws_FnFacts.tab20 laws_FnFacts.bits20 (fun HT_ HW_ => ?_)
               generalize w119.drew = w120 at HO_5 HO_7 BK299 HB hx328_0 hx328_1 hx328_2 hHeld ⊢
               refine pu_ (i := 0) (N := some 130) #[tb_,fb_,fb_,fb_,fb_,fb_,fb_,fb_,fb_,fb_,fb_,fb_,fb_,fb_] (any_of HT_.out (by kernel_rfl)) ?_
               refine pu_ (i := 1) (N := some 131) #[tb_,tb_,fb_,fb_,fb_,fb_,fb_,fb_,fb_,fb_,fb_,fb_,fb_,fb_] (any_of HT_.out (by kernel_rfl)) ?_
               refine pu_ (i := 3) (N := some 133) #[tb_,tb_,fb_,tb_,fb_,fb_,fb_,fb_,fb_,fb_,fb_,fb_,fb_,fb_] (any_of HT_.out (by kernel_rfl)) ?_
               refine pu_ (i := 5) (N := some 135) #[tb_,tb_,fb_,tb_,fb_,tb_,fb_,fb_,fb_,fb_,fb_,fb_,fb_,fb_] (any_of HT_.out (by kernel_rfl)) ?_
               refine pu_ (i := 7) (N := some 137) #[tb_,tb_,fb_,tb_,fb_,tb_,fb_,tb_,fb_,fb_,fb_,fb_,fb_,fb_] (any_of HT_.out (by kernel_rfl)) ?_
               refine pu_ (i := 8) (N := some 138) #[tb_,tb_,fb_,tb_,fb_,tb_,fb_,tb_,tb_,fb_,fb_,fb_,fb_,fb_] (any_of HT_.out (by kernel_rfl)) ?_
               refine pu_ (i := 9) (N := some 139) #[tb_,tb_,fb_,tb_,fb_,tb_,fb_,tb_,tb_,tb_,fb_,fb_,fb_,fb_] (any_of HT_.out (by kernel_rfl)) ?_
               refine take_ (i := 2) (N := some 132) (v := ?_) (a' := ?_) #[tb_,tb_,tb_,tb_,fb_,tb_,fb_,tb_,tb_,tb_,fb_,fb_,fb_,fb_] rfl rfl (take_ofW HT_.out HW_.out (by kernel_rfl)) (fun _ _ _ h => h) (Or.inl ⟨by rfl, ?_⟩) hHeld ?_ ?_
               rotate_left
               ·
                rintro w' ⟨s0, s1, s2, s3, s4, s5, s6, s7, s8⟩
                go_simp
                with_reducible rfl
               rotate_left
               ·
                simp only [Act.put, List.setIfInBounds_toArray, List.set_cons_zero, List.set_cons_succ, i64_w, i32_w]
                rfl
               refine take_ (i := 4) (N := some 134) (v := ?_) (a' := ?_) #[tb_,tb_,tb_,tb_,tb_,tb_,fb_,tb_,tb_,tb_,fb_,fb_,fb_,fb_] rfl rfl (take_ofW HT_.out HW_.out (by kernel_rfl)) (fun _ _ _ h => h) (Or.inl ⟨by rfl, ?_⟩) hHeld ?_ ?_
               rotate_left
               ·
                rintro w' ⟨s0, s1, s2, s3, s4, s5, s6, s7, s8⟩
                go_simp
                with_reducible rfl
               rotate_left
               ·
                simp only [Act.put, List.setIfInBounds_toArray, List.set_cons_zero, List.set_cons_succ, i64_w, i32_w]
                rfl
               refine take_ (i := 6) (N := some 136) (v := ?_) (a' := ?_) #[tb_,tb_,tb_,tb_,tb_,tb_,tb_,tb_,tb_,tb_,fb_,fb_,fb_,fb_] rfl rfl (take_ofW HT_.out HW_.out (by kernel_rfl)) (fun _ _ _ h => h) (Or.inl ⟨by rfl, ?_⟩) hHeld ?_ ?_
               rotate_left
               ·
                rintro w' ⟨s0, s1, s2, s3, s4, s5, s6, s7, s8⟩
                go_simp
                with_reducible rfl
               rotate_left
               ·
                simp only [Act.put, List.setIfInBounds_toArray, List.set_cons_zero, List.set_cons_succ, i64_w, i32_w]
                rfl
               refine take_ (i := 10) (N := some 140) (v := ?_) (a' := ?_) #[tb_,tb_,tb_,tb_,tb_,tb_,tb_,tb_,tb_,tb_,tb_,fb_,fb_,fb_] rfl rfl (take_ofW HT_.out HW_.out (by kernel_rfl)) (fun _ _ _ h => h) (Or.inl ⟨by rfl, ?_⟩) hHeld ?_ ?_
               rotate_left
               ·
                rintro w' ⟨s0, s1, s2, s3, s4, s5, s6, s7, s8⟩
                go_simp
                with_reducible rfl
               rotate_left
               ·
                simp only [Act.put, List.setIfInBounds_toArray, List.set_cons_zero, List.set_cons_succ, i64_w, i32_w]
                rfl
               refine pu_ (i := 11) (N := some 141) #[tb_,tb_,tb_,tb_,tb_,tb_,tb_,tb_,tb_,tb_,tb_,tb_,fb_,fb_] (any_of HT_.out (by kernel_rfl)) ?_
               refine one_ (i := 12) (N := some 142) #[tb_,tb_,tb_,tb_,tb_,tb_,tb_,tb_,tb_,tb_,tb_,tb_,tb_,fb_] rfl rfl (one_of HT_.out (by kernel_rfl)) (by decide) (fun K hK => ?_)
               refine goes_ Try.func40 (by kernel_rfl) rfl #[.slice Ao100 t300.length co100, .agg #[.int .i64 t293, .int .i64 t294, .int .i64 t295, .int .i64 ((rd_T41 t322 x9_3).f0), .int .i64 ((rd_T41 t322 x9_3).f1), .int .i64 ((rd_T41 t322 x9_3).f2)]] (by rfl) rfl rfl (by (try simp only [List.map_toArray, List.map_cons, List.map_nil]); first | done | rfl | (simp only [List.length_drop, List.length_take]; rfl)) ?_
               with_reducible refine (impl_FactHas.calls k3 _ _ t300 t293 t294 t295 ((rd_T41 t322 x9_3).f0) ((rd_T41 t322 x9_3).f1) ((rd_T41 t322 x9_3).f2) true _ ?side1 ?side2 A116.out).mono ?_
               (case side1 => repeat (first | exact (Kd.R_reads' HO_5.out).2.2 | (with_reducible refine Kd.C_alloc ?_ _) | (with_reducible refine Kd.C_drewN ?_ _) | (with_reducible refine Kd.C_drew ?_)))
               (case side2 => exact (Kd.R_reads' HO_5.out).2.1)
               rintro e w121 ⟨rfl, hb⟩
               have HS6_ := pB_ hb (hHeld.2.2.2.2.2.2.1)
               have HS7_ := pB_ hb (hHeld.2.2.2.2.2.2.2.1)
               have HS8_ := pB_ hb (hHeld.2.2.2.2.2.2.2.2)
               refine ⟨_, rfl, ?_⟩
               have n0_ := Ad_.mk (Kd.R_below (by (with_reducible repeat (first | apply Kd.R_alloc | apply Kd.R_drewN | apply Kd.R_drew)); exact HO_5.out) hb)
               have n1_ := Ad_.mk (Kd.R_below (by (with_reducible repeat (first | apply Kd.R_alloc | apply Kd.R_drewN | apply Kd.R_drew)); exact HO_7.out) hb)
               have n2_ := Ad_.mk (blk_below (g := gb299) (o := .cells #[.int .i64 t293, .int .i64 t294, .int .i64 t295, .int .i64 t296, .int .i64 t297, .int .i64 t298] 43 (0, 0)) (by (with_reducible repeat (first | refine kN_ ?_ _ | refine k1_ ?_ | refine kA_ ?_ _)); exact BK299.out) hb)
               have n3_ := Ad_.mk (bP_ (by repeat (with_reducible first | exact HB.out | apply bA_ | apply bN_ | apply b1_ | refine bS_ ?_ GE299.out)) hb)
               clear HO_5
               clear HO_7
               clear BK299
               clear HB
               have HO_5 := n0_
               have HO_7 := n1_
               have BK299 := n2_
               have HB := n3_
               clear n0_ n1_ n2_ n3_
               (try clear hb)
               (try clear hb2)
               (try clear hk)
               (try clear hi)
               refine hK.out _ _ ⟨(kC_ BK299.out 0).trans rfl, (kC_ BK299.out 1).trans rfl, (kC_ BK299.out 2).trans rfl, (kC_ BK299.out 3).trans rfl, (kC_ BK299.out 4).trans rfl, (kC_ BK299.out 5).trans rfl, HS6_, HS7_, HS8_⟩ (fun hHeld => ?_)
               clear hK K
               refine norm_ (a' := ?_) ?_ ?_
               rotate_left
               ·
                show Act.put _ (some 142) _ = _
                simp only [Act.put, List.setIfInBounds_toArray, List.set_cons_zero, List.set_cons_succ, i64_w, i32_w]
                rfl
               refine pu_ (i := 13) (N := some 143) #[tb_,tb_,tb_,tb_,tb_,tb_,tb_,tb_,tb_,tb_,tb_,tb_,tb_,tb_] (any_of HT_.out (by kernel_rfl)) ?_
               refine done_ (done_of HT_.out (by kernel_rfl)) ?_
               try go_wp2
               go_roundg k3
               case measure => have := HJ7.out; have := HK2.out; have := HK3.out; omega
               case rel => exact ⟨((((rd_T41 t322 x9_3).f0) == t296 && (((rd_T41 t322 x9_3).f1) == t297 && (((rd_T41 t322 x9_3).f2) == t298)))), (wrap64 (x9_3 + 1)), fs_, fs_, H', ⟨by have := HJ7.out; have := HK2.out; have := HK3.out; omega⟩, ⟨by (with_reducible repeat (first | apply Kd.R_alloc | apply Kd.R_drewN | apply Kd.R_drew)); exact HO_5.out⟩, ⟨by (with_reducible repeat (first | apply Kd.R_alloc | apply Kd.R_drewN | apply Kd.R_drew)); exact HO_7.out⟩, ⟨by (with_reducible repeat (first | refine kN_ ?_ _ | refine k1_ ?_ | refine kA_ ?_ _)); exact BK299.out⟩, ⟨by repeat (with_reducible first | exact HB.out | apply bA_ | apply bN_ | apply b1_ | refine bS_ ?_ GE299.out)⟩⟩
          rw [if_pos c69] at H
          have c69b0 := decide_eq_true c69
          clear c69
          have HC70 := Ad_.mk H
          clear H
          go_upto_region 12 with (fail)
          go_cut [105] (fun v105 wc => ∃ (kq : Nat) (x105_69 : Bool), v105 = .bool x105_69 ∧ Ad_ (laws_FnFacts.j2 kq t290 t300 x6_2 x105_69 t293 t294 t295 t296 t297 t298 = some r) ∧ Ad_ (kq ≤ k2) ∧ Ad_ (Kd.R k43 43 wc w.heap.size (fun k_ => some k_ ≠ (v301 : Value).ownBlock ∧ k_ ≠ gb299) (.slice Ao12 t290.length co12) t290) ∧ Ad_ (Kd.R k43 43 wc w.heap.size (fun k_ => some k_ ≠ ((.slice Ao12 t290.length co12) : Value).ownBlock ∧ k_ ≠ gb299) v301 t300) ∧ Ad_ (wc.heap[gb299]? = some (.cells #[.int .i64 t293, .int .i64 t294, .int .i64 t295, .int .i64 t296, .int .i64 t297, .int .i64 t298] 43 (0, 0))) ∧ Ad_ (Below w.heap.size w wc))
          case first =>
            have H := HC70.out
            clear HC70
            by_cases c71 : 0 ≤ x6_2
            rotate_left
            ·
             rw [if_neg c71] at H
             exact absurd H (by simp)
            rw [if_pos c71] at H
            have c71b0 := decide_eq_true c71
            clear c71
            (first | rw [c71b0] | (simp only [i64_w, i32_w]; rw [c71b0]) | skip)
            replace H := Option.bind_eq_some_iff.mp H
            obtain ⟨t314, A720, H⟩ := H
            try dsimp only at H
            have A72 := Ad_.mk A720
            clear A720
            by_cases c73 : t314 = true
            rotate_left
            ·
             replace c73 := Bool.eq_false_iff.mpr c73
             subst c73
             have H1 : (laws_FnFacts.j2 k2 t290 t300 x6_2 true t293 t294 t295 t296 t297 t298) = some r := by rw [if_neg (show ¬ (false = true) by decide)] at H; exact H
             clear H
             have H := H1
             clear H1
             have H' := Ad_.mk H
             clear H
             try go_wp2
             have n0_ := Ad_.mk (Kd.R_drew HO_3.out)
             have n1_ := Ad_.mk (Kd.R_drew HO_5.out)
             have n2_ := Ad_.mk (k1_ BK299.out)
             have n3_ := Ad_.mk (b1_ HB.out)
             clear HO_3
             clear HO_5
             clear BK299
             clear HB
             have HO_3 := n0_
             have HO_5 := n1_
             have BK299 := n2_
             have HB := n3_
             clear n0_ n1_ n2_ n3_
             have p313 : 0 ≤ (x6_2 : Int) := od_
             have q313 : x6_2 < (t290.length : Int) := od_
             obtain ⟨ad313, e313, hx313_0, hx313_1, hx313_2, hx313_3, hx313_4, hx313_5⟩ := at_T43 (Kd.R_reads' HO_3.out).2.2 x6_2 p313 q313
             cases e313
             replace p313 := eq_true p313
             replace q313 := eq_true q313
             obtain ⟨Ao95, co95, eo95⟩ := Kd.R_slice HO_5.out
             (first | subst eo95 | (injection eo95 with f1_ f2_ f3_; have f4_ := f1_.symm; have f5_ := f3_.symm; clear f1_ f2_ f3_; subst f4_; subst f5_))
             refine start_ (n := 34) (S := fun w' => w'.cell? (ad313.add ((x6_2).toNat * 6)) = some (.int .i64 ((rd_T43 t290 x6_2).f0)) ∧ w'.cell? ⟨(ad313.add ((x6_2).toNat * 6)).block, (ad313.add ((x6_2).toNat * 6)).off + 1, none⟩ = some (.int .i64 ((rd_T43 t290 x6_2).f1)) ∧ w'.cell? ⟨(ad313.add ((x6_2).toNat * 6)).block, (ad313.add ((x6_2).toNat * 6)).off + 2, none⟩ = some (.int .i64 ((rd_T43 t290 x6_2).f2)) ∧ w'.cell? ⟨(ad313.add ((x6_2).toNat * 6)).block, (ad313.add ((x6_2).toNat * 6)).off + 3, none⟩ = some (.int .i64 ((rd_T43 t290 x6_2).f3.f0)) ∧ w'.cell? ⟨(ad313.add ((x6_2).toNat * 6)).block, (ad313.add ((x6_2).toNat * 6)).off + 4, none⟩ = some (.int .i64 ((rd_T43 t290 x6_2).f3.f1)) ∧ w'.cell? ⟨(ad313.add ((x6_2).toNat * 6)).block, (ad313.add ((x6_2).toNat * 6)).off + 5, none⟩ = some (.int .i64 ((rd_T43 t290 x6_2).f3.f2))) (ds := []) #[fb_,fb_,fb_,fb_,fb_,fb_,fb_,fb_,fb_,fb_,fb_,fb_,fb_,fb_,fb_,fb_,fb_,fb_,fb_,fb_,fb_,fb_,fb_,fb_,fb_,fb_,fb_,fb_,fb_,fb_,fb_,fb_,fb_,fb_] (by kernel_rfl) rfl rfl ⟨hx313_0, hx313_1, hx313_2, hx313_3, hx313_4, hx313_5⟩ (fun hHeld => ?_); refine with_tabW laws_FnFacts.tab12 laws_FnFacts.bits12 (fun HT_ HW_ => ?_)
             generalize wr.drew = w94 at HO_3 HO_5 BK299 HB hx313_0 hx313_1 hx313_2 hx313_3 hx313_4 hx313_5 hHeld ⊢
             refine pu_ (i := 0) (N := some 72) #[tb_,fb_,fb_,fb_,fb_,fb_,fb_,fb_,fb_,fb_,fb_,fb_,fb_,fb_,fb_,fb_,fb_,fb_,fb_,fb_,fb_,fb_,fb_,fb_,fb_,fb_,fb_,fb_,fb_,fb_,fb_,fb_,fb_,fb_] (any_of HT_.out (by kernel_rfl)) ?_
             refine pu_ (i := 1) (N := some 73) #[tb_,tb_,fb_,fb_,fb_,fb_,fb_,fb_,fb_,fb_,fb_,fb_,fb_,fb_,fb_,fb_,fb_,fb_,fb_,fb_,fb_,fb_,fb_,fb_,fb_,fb_,fb_,fb_,fb_,fb_,fb_,fb_,fb_,fb_] (any_of HT_.out (by kernel_rfl)) ?_
             refine pu_ (i := 2) (N := some 74) #[tb_,tb_,tb_,fb_,fb_,fb_,fb_,fb_,fb_,fb_,fb_,fb_,fb_,fb_,fb_,fb_,fb_,fb_,fb_,fb_,fb_,fb_,fb_,fb_,fb_,fb_,fb_,fb_,fb_,fb_,fb_,fb_,fb_,fb_] (any_of HT_.out (by kernel_rfl)) ?_
             refine pu_ (i := 3) (N := some 75) #[tb_,tb_,tb_,tb_,fb_,fb_,fb_,fb_,fb_,fb_,fb_,fb_,fb_,fb_,fb_,fb_,fb_,fb_,fb_,fb_,fb_,fb_,fb_,fb_,fb_,fb_,fb_,fb_,fb_,fb_,fb_,fb_,fb_,fb_] (any_of HT_.out (by kernel_rfl)) ?_
             refine take_ (i := 4) (N := some 76) (v := ?_) (a' := ?_) #[tb_,tb_,tb_,tb_,tb_,fb_,fb_,fb_,fb_,fb_,fb_,fb_,fb_,fb_,fb_,fb_,fb_,fb_,fb_,fb_,fb_,fb_,fb_,fb_,fb_,fb_,fb_,fb_,fb_,fb_,fb_,fb_,fb_,fb_] rfl rfl (take_ofW HT_.out HW_.out (by kernel_rfl)) (fun _ _ _ h => h) (Or.inl ⟨by rfl, ?_⟩) hHeld ?_ ?_
             rotate_left
             ·
              rintro w' ⟨s0, s1, s2, s3, s4, s5⟩
              go_simp
              with_reducible rfl
             rotate_left
             ·
              simp only [Act.put, List.setIfInBounds_toArray, List.set_cons_zero, List.set_cons_succ, i64_w, i32_w]
              rfl
             refine one_ (i := 5) (N := some 77) #[tb_,tb_,tb_,tb_,tb_,tb_,fb_,fb_,fb_,fb_,fb_,fb_,fb_,fb_,fb_,fb_,fb_,fb_,fb_,fb_,fb_,fb_,fb_,fb_,fb_,fb_,fb_,fb_,fb_,fb_,fb_,fb_,fb_,fb_] rfl rfl (one_of HT_.out (by kernel_rfl)) (by decide) (fun K hK => ?_)
             refine goes_ Try.func40 (by kernel_rfl) rfl #[.slice Ao95 t300.length co95, .agg #[.int .i64 ((rd_T43 t290 x6_2).f0), .int .i64 ((rd_T43 t290 x6_2).f1), .int .i64 ((rd_T43 t290 x6_2).f2), .int .i64 ((rd_T43 t290 x6_2).f3.f0), .int .i64 ((rd_T43 t290 x6_2).f3.f1), .int .i64 ((rd_T43 t290 x6_2).f3.f2)]] (by rfl) rfl rfl (by (try simp only [List.map_toArray, List.map_cons, List.map_nil]); first | done | rfl | (simp only [List.length_drop, List.length_take]; rfl)) ?_
             with_reducible refine (impl_FactHas.calls k2 _ _ t300 ((rd_T43 t290 x6_2).f0) ((rd_T43 t290 x6_2).f1) ((rd_T43 t290 x6_2).f2) ((rd_T43 t290 x6_2).f3.f0) ((rd_T43 t290 x6_2).f3.f1) ((rd_T43 t290 x6_2).f3.f2) false _ ?side1 ?side2 A72.out).mono ?_
             (case side1 => repeat (first | exact (Kd.R_reads' HO_5.out).2.2 | (with_reducible refine Kd.C_alloc ?_ _) | (with_reducible refine Kd.C_drewN ?_ _) | (with_reducible refine Kd.C_drew ?_)))
             (case side2 => exact (Kd.R_reads' HO_5.out).2.1)
             rintro e w96 ⟨rfl, hb⟩
             have HS0_ := pB_ hb (hHeld.1)
             have HS1_ := pB_ hb (hHeld.2.1)
             have HS2_ := pB_ hb (hHeld.2.2.1)
             have HS3_ := pB_ hb (hHeld.2.2.2.1)
             have HS4_ := pB_ hb (hHeld.2.2.2.2.1)
             have HS5_ := pB_ hb (hHeld.2.2.2.2.2)
             refine ⟨_, rfl, ?_⟩
             have n0_ := Ad_.mk (Kd.R_below (by (with_reducible repeat (first | apply Kd.R_alloc | apply Kd.R_drewN | apply Kd.R_drew)); exact HO_3.out) hb)
             have n1_ := Ad_.mk (Kd.R_below (by (with_reducible repeat (first | apply Kd.R_alloc | apply Kd.R_drewN | apply Kd.R_drew)); exact HO_5.out) hb)
             have n2_ := Ad_.mk (blk_below (g := gb299) (o := .cells #[.int .i64 t293, .int .i64 t294, .int .i64 t295, .int .i64 t296, .int .i64 t297, .int .i64 t298] 43 (0, 0)) (by (with_reducible repeat (first | refine kN_ ?_ _ | refine k1_ ?_ | refine kA_ ?_ _)); exact BK299.out) hb)
             have n3_ := Ad_.mk (bP_ (by repeat (with_reducible first | exact HB.out | apply bA_ | apply bN_ | apply b1_ | refine bS_ ?_ GE299.out)) hb)
             clear HO_3
             clear HO_5
             clear BK299
             clear HB
             have HO_3 := n0_
             have HO_5 := n1_
             have BK299 := n2_
             have HB := n3_
             clear n0_ n1_ n2_ n3_
             (try clear hb)
             (try clear hb2)
             (try clear hk)
             (try clear hi)
             refine hK.out _ _ ⟨HS0_, HS1_, HS2_, HS3_, HS4_, HS5_⟩ (fun hHeld => ?_)
             clear hK K
             refine norm_ (a' := ?_) ?_ ?_
             rotate_left
             ·
              show Act.put _ (some 77) _ = _
              simp only [Act.put, List.setIfInBounds_toArray, List.set_cons_zero, List.set_cons_succ, i64_w, i32_w]
              rfl
             refine pu_ (i := 6) (N := some 78) #[tb_,tb_,tb_,tb_,tb_,tb_,tb_,fb_,fb_,fb_,fb_,fb_,fb_,fb_,fb_,fb_,fb_,fb_,fb_,fb_,fb_,fb_,fb_,fb_,fb_,fb_,fb_,fb_,fb_,fb_,fb_,fb_,fb_,fb_] (any_of HT_.out (by kernel_rfl)) ?_
             refine pu_ (i := 7) (N := some 79) #[tb_,tb_,tb_,tb_,tb_,tb_,tb_,tb_,fb_,fb_,fb_,fb_,fb_,fb_,fb_,fb_,fb_,fb_,fb_,fb_,fb_,fb_,fb_,fb_,fb_,fb_,fb_,fb_,fb_,fb_,fb_,fb_,fb_,fb_] (any_of HT_.out (by kernel_rfl)) ?_
             refine pv_ (i := 8) (N := some 80) #[tb_,tb_,tb_,tb_,tb_,tb_,tb_,tb_,tb_,fb_,fb_,fb_,fb_,fb_,fb_,fb_,fb_,fb_,fb_,fb_,fb_,fb_,fb_,fb_,fb_,fb_,fb_,fb_,fb_,fb_,fb_,fb_,fb_,fb_] (any_of HT_.out (by kernel_rfl)) ?_
             refine pv_ (i := 9) (N := some 81) #[tb_,tb_,tb_,tb_,tb_,tb_,tb_,tb_,tb_,tb_,fb_,fb_,fb_,fb_,fb_,fb_,fb_,fb_,fb_,fb_,fb_,fb_,fb_,fb_,fb_,fb_,fb_,fb_,fb_,fb_,fb_,fb_,fb_,fb_] (any_of HT_.out (by kernel_rfl)) ?_
             refine pv_ (i := 10) (N := some 82) #[tb_,tb_,tb_,tb_,tb_,tb_,tb_,tb_,tb_,tb_,tb_,fb_,fb_,fb_,fb_,fb_,fb_,fb_,fb_,fb_,fb_,fb_,fb_,fb_,fb_,fb_,fb_,fb_,fb_,fb_,fb_,fb_,fb_,fb_] (any_of HT_.out (by kernel_rfl)) ?_
             refine pv_ (i := 11) (N := some 83) #[tb_,tb_,tb_,tb_,tb_,tb_,tb_,tb_,tb_,tb_,tb_,tb_,fb_,fb_,fb_,fb_,fb_,fb_,fb_,fb_,fb_,fb_,fb_,fb_,fb_,fb_,fb_,fb_,fb_,fb_,fb_,fb_,fb_,fb_] (any_of HT_.out (by kernel_rfl)) ?_
             refine pv_ (i := 12) (N := some 84) #[tb_,tb_,tb_,tb_,tb_,tb_,tb_,tb_,tb_,tb_,tb_,tb_,tb_,fb_,fb_,fb_,fb_,fb_,fb_,fb_,fb_,fb_,fb_,fb_,fb_,fb_,fb_,fb_,fb_,fb_,fb_,fb_,fb_,fb_] (any_of HT_.out (by kernel_rfl)) ?_
             refine pv_ (i := 13) (N := some 85) #[tb_,tb_,tb_,tb_,tb_,tb_,tb_,tb_,tb_,tb_,tb_,tb_,tb_,tb_,fb_,fb_,fb_,fb_,fb_,fb_,fb_,fb_,fb_,fb_,fb_,fb_,fb_,fb_,fb_,fb_,fb_,fb_,fb_,fb_] (any_of HT_.out (by kernel_rfl)) ?_
             refine pv_ (i := 14) (N := some 86) #[tb_,tb_,tb_,tb_,tb_,tb_,tb_,tb_,tb_,tb_,tb_,tb_,tb_,tb_,tb_,fb_,fb_,fb_,fb_,fb_,fb_,fb_,fb_,fb_,fb_,fb_,fb_,fb_,fb_,fb_,fb_,fb_,fb_,fb_] (any_of HT_.out (by kernel_rfl)) ?_
             refine pv_ (i := 15) (N := some 87) #[tb_,tb_,tb_,tb_,tb_,tb_,tb_,tb_,tb_,tb_,tb_,tb_,tb_,tb_,tb_,tb_,fb_,fb_,fb_,fb_,fb_,fb_,fb_,fb_,fb_,fb_,fb_,fb_,fb_,fb_,fb_,fb_,fb_,fb_] (any_of HT_.out (by kernel_rfl)) ?_
             refine pv_ (i := 16) (N := some 88) #[tb_,tb_,tb_,tb_,tb_,tb_,tb_,tb_,tb_,tb_,tb_,tb_,tb_,tb_,tb_,tb_,tb_,fb_,fb_,fb_,fb_,fb_,fb_,fb_,fb_,fb_,fb_,fb_,fb_,fb_,fb_,fb_,fb_,fb_] (any_of HT_.out (by kernel_rfl)) ?_
             refine pu_ (i := 17) (N := some 89) #[tb_,tb_,tb_,tb_,tb_,tb_,tb_,tb_,tb_,tb_,tb_,tb_,tb_,tb_,tb_,tb_,tb_,tb_,fb_,fb_,fb_,fb_,fb_,fb_,fb_,fb_,fb_,fb_,fb_,fb_,fb_,fb_,fb_,fb_] (any_of HT_.out (by kernel_rfl)) ?_
             refine pu_ (i := 18) (N := some 90) #[tb_,tb_,tb_,tb_,tb_,tb_,tb_,tb_,tb_,tb_,tb_,tb_,tb_,tb_,tb_,tb_,tb_,tb_,tb_,fb_,fb_,fb_,fb_,fb_,fb_,fb_,fb_,fb_,fb_,fb_,fb_,fb_,fb_,fb_] (any_of HT_.out (by kernel_rfl)) ?_
             refine pv_ (i := 19) (N := some 91) #[tb_,tb_,tb_,tb_,tb_,tb_,tb_,tb_,tb_,tb_,tb_,tb_,tb_,tb_,tb_,tb_,tb_,tb_,tb_,tb_,fb_,fb_,fb_,fb_,fb_,fb_,fb_,fb_,fb_,fb_,fb_,fb_,fb_,fb_] (any_of HT_.out (by kernel_rfl)) ?_
             refine pv_ (i := 20) (N := some 92) #[tb_,tb_,tb_,tb_,tb_,tb_,tb_,tb_,tb_,tb_,tb_,tb_,tb_,tb_,tb_,tb_,tb_,tb_,tb_,tb_,tb_,fb_,fb_,fb_,fb_,fb_,fb_,fb_,fb_,fb_,fb_,fb_,fb_,fb_] (any_of HT_.out (by kernel_rfl)) ?_
             refine pv_ (i := 21) (N := some 93) #[tb_,tb_,tb_,tb_,tb_,tb_,tb_,tb_,tb_,tb_,tb_,tb_,tb_,tb_,tb_,tb_,tb_,tb_,tb_,tb_,tb_,tb_,fb_,fb_,fb_,fb_,fb_,fb_,fb_,fb_,fb_,fb_,fb_,fb_] (any_of HT_.out (by kernel_rfl)) ?_
             refine pv_ (i := 22) (N := some 94) #[tb_,tb_,tb_,tb_,tb_,tb_,tb_,tb_,tb_,tb_,tb_,tb_,tb_,tb_,tb_,tb_,tb_,tb_,tb_,tb_,tb_,tb_,tb_,fb_,fb_,fb_,fb_,fb_,fb_,fb_,fb_,fb_,fb_,fb_] (any_of HT_.out (by kernel_rfl)) ?_
             refine pv_ (i := 23) (N := some 95) #[tb_,tb_,tb_,tb_,tb_,tb_,tb_,tb_,tb_,tb_,tb_,tb_,tb_,tb_,tb_,tb_,tb_,tb_,tb_,tb_,tb_,tb_,tb_,tb_,fb_,fb_,fb_,fb_,fb_,fb_,fb_,fb_,fb_,fb_] (any_of HT_.out (by kernel_rfl)) ?_
             refine pv_ (i := 24) (N := some 96) #[tb_,tb_,tb_,tb_,tb_,tb_,tb_,tb_,tb_,tb_,tb_,tb_,tb_,tb_,tb_,tb_,tb_,tb_,tb_,tb_,tb_,tb_,tb_,tb_,tb_,fb_,fb_,fb_,fb_,fb_,fb_,fb_,fb_,fb_] (any_of HT_.out (by kernel_rfl)) ?_
             refine pv_ (i := 25) (N := some 97) #[tb_,tb_,tb_,tb_,tb_,tb_,tb_,tb_,tb_,tb_,tb_,tb_,tb_,tb_,tb_,tb_,tb_,tb_,tb_,tb_,tb_,tb_,tb_,tb_,tb_,tb_,fb_,fb_,fb_,fb_,fb_,fb_,fb_,fb_] (any_of HT_.out (by kernel_rfl)) ?_
             refine pv_ (i := 26) (N := some 98) #[tb_,tb_,tb_,tb_,tb_,tb_,tb_,tb_,tb_,tb_,tb_,tb_,tb_,tb_,tb_,tb_,tb_,tb_,tb_,tb_,tb_,tb_,tb_,tb_,tb_,tb_,tb_,fb_,fb_,fb_,fb_,fb_,fb_,fb_] (any_of HT_.out (by kernel_rfl)) ?_
             refine pv_ (i := 27) (N := some 99) #[tb_,tb_,tb_,tb_,tb_,tb_,tb_,tb_,tb_,tb_,tb_,tb_,tb_,tb_,tb_,tb_,tb_,tb_,tb_,tb_,tb_,tb_,tb_,tb_,tb_,tb_,tb_,tb_,fb_,fb_,fb_,fb_,fb_,fb_] (any_of HT_.out (by kernel_rfl)) ?_
             refine pv_ (i := 28) (N := some 100) #[tb_,tb_,tb_,tb_,tb_,tb_,tb_,tb_,tb_,tb_,tb_,tb_,tb_,tb_,tb_,tb_,tb_,tb_,tb_,tb_,tb_,tb_,tb_,tb_,tb_,tb_,tb_,tb_,tb_,fb_,fb_,fb_,fb_,fb_] (any_of HT_.out (by kernel_rfl)) ?_
             refine pv_ (i := 29) (N := some 101) #[tb_,tb_,tb_,tb_,tb_,tb_,tb_,tb_,tb_,tb_,tb_,tb_,tb_,tb_,tb_,tb_,tb_,tb_,tb_,tb_,tb_,tb_,tb_,tb_,tb_,tb_,tb_,tb_,tb_,tb_,fb_,fb_,fb_,fb_] (any_of HT_.out (by kernel_rfl)) ?_
             refine pv_ (i := 30) (N := some 102) #[tb_,tb_,tb_,tb_,tb_,tb_,tb_,tb_,tb_,tb_,tb_,tb_,tb_,tb_,tb_,tb_,tb_,tb_,tb_,tb_,tb_,tb_,tb_,tb_,tb_,tb_,tb_,tb_,tb_,tb_,tb_,fb_,fb_,fb_] (any_of HT_.out (by kernel_rfl)) ?_
             refine pv_ (i := 31) (N := some 103) #[tb_,tb_,tb_,tb_,tb_,tb_,tb_,tb_,tb_,tb_,tb_,tb_,tb_,tb_,tb_,tb_,tb_,tb_,tb_,tb_,tb_,tb_,tb_,tb_,tb_,tb_,tb_,tb_,tb_,tb_,tb_,tb_,fb_,fb_] (any_of HT_.out (by kernel_rfl)) ?_
             refine pv_ (i := 32) (N := some 104) #[tb_,tb_,tb_,tb_,tb_,tb_,tb_,tb_,tb_,tb_,tb_,tb_,tb_,tb_,tb_,tb_,tb_,tb_,tb_,tb_,tb_,tb_,tb_,tb_,tb_,tb_,tb_,tb_,tb_,tb_,tb_,tb_,tb_,fb_] (any_of HT_.out (by kernel_rfl)) ?_
             refine pu_ (i := 33) (N := some 105) #[tb_,tb_,tb_,tb_,tb_,tb_,tb_,tb_,tb_,tb_,tb_,tb_,tb_,tb_,tb_,tb_,tb_,tb_,tb_,tb_,tb_,tb_,tb_,tb_,tb_,tb_,tb_,tb_,tb_,tb_,tb_,tb_,tb_,tb_] (any_of HT_.out (by kernel_rfl)) ?_
             refine done_ (done_of HT_.out (by kernel_rfl)) ?_
             try go_wp2
             go_meet
             case rel => exact ⟨_, (true), fs_, H', ⟨by have := HJ7.out; have := HK2.out; first | omega | exact Nat.le_refl _⟩, ⟨by (with_reducible repeat (first | apply Kd.R_alloc | apply Kd.R_drewN | apply Kd.R_drew)); exact HO_3.out⟩, ⟨by (with_reducible repeat (first | apply Kd.R_alloc | apply Kd.R_drewN | apply Kd.R_drew)); exact HO_5.out⟩, ⟨by (with_reducible repeat (first | refine kN_ ?_ _ | refine k1_ ?_ | refine kA_ ?_ _)); exact BK299.out⟩, ⟨by repeat (with_reducible first | exact HB.out | apply bA_ | apply bN_ | apply b1_ | refine bS_ ?_ GE299.out)⟩⟩
            subst c73
            have H1 := H
            rw [if_pos rfl] at H1
            clear H
            have H := H1
            clear H1
            replace H := Option.bind_eq_some_iff.mp H
            obtain ⟨t317, A740, H⟩ := H
            try dsimp only at H
            have A74 := Ad_.mk A740
            clear A740
            by_cases c75 : t317 = true
            ·
             subst c75
             have H1 := H
             rw [if_pos rfl] at H1
             clear H
             have H := H1
             clear H1
             have H' := Ad_.mk H
             clear H
             try go_wp2
             have n0_ := Ad_.mk (Kd.R_drew HO_3.out)
             have n1_ := Ad_.mk (Kd.R_drew HO_5.out)
             have n2_ := Ad_.mk (k1_ BK299.out)
             have n3_ := Ad_.mk (b1_ HB.out)
             clear HO_3
             clear HO_5
             clear BK299
             clear HB
             have HO_3 := n0_
             have HO_5 := n1_
             have BK299 := n2_
             have HB := n3_
             clear n0_ n1_ n2_ n3_
             have p313 : 0 ≤ (x6_2 : Int) := od_
             have q313 : x6_2 < (t290.length : Int) := od_
             obtain ⟨ad313, e313, hx313_0, hx313_1, hx313_2, hx313_3, hx313_4, hx313_5⟩ := at_T43 (Kd.R_reads' HO_3.out).2.2 x6_2 p313 q313
             cases e313
             replace p313 := eq_true p313
             replace q313 := eq_true q313
             obtain ⟨Ao77, co77, eo77⟩ := Kd.R_slice HO_5.out
             (first | subst eo77 | (injection eo77 with f1_ f2_ f3_; have f4_ := f1_.symm; have f5_ := f3_.symm; clear f1_ f2_ f3_; subst f4_; subst f5_))
             have p315 : 0 ≤ (x6_2 : Int) := od_
             have q315 : x6_2 < (t290.length : Int) := od_
             obtain ⟨ad315, e315, hx315_0, hx315_1, hx315_2, hx315_3, hx315_4, hx315_5⟩ := at_T43 (Kd.R_reads' HO_3.out).2.2 x6_2 p315 q315
             obtain rfl : ad313 = ad315 := (by injection e315)
             replace p315 := eq_true p315
             replace q315 := eq_true q315
             have p316 : 0 ≤ (x6_2 : Int) := od_
             have q316 : x6_2 < (t290.length : Int) := od_
             obtain ⟨ad316, e316, hx316_0, hx316_1, hx316_2, hx316_3, hx316_4, hx316_5⟩ := at_T43 (Kd.R_reads' HO_3.out).2.2 x6_2 p316 q316
             obtain rfl : ad313 = ad316 := (by injection e316)
             replace p316 := eq_true p316
             replace q316 := eq_true q316
             refine start_ (n := 34) (S := fun w' => w'.cell? (ad313.add ((x6_2).toNat * 6)) = some (.int .i64 ((rd_T43 t290 x6_2).f0)) ∧ w'.cell? ⟨(ad313.add ((x6_2).toNat * 6)).block, (ad313.add ((x6_2).toNat * 6)).off + 1, none⟩ = some (.int .i64 ((rd_T43 t290 x6_2).f1)) ∧ w'.cell? ⟨(ad313.add ((x6_2).toNat * 6)).block, (ad313.add ((x6_2).toNat * 6)).off + 2, none⟩ = some (.int .i64 ((rd_T43 t290 x6_2).f2)) ∧ w'.cell? ⟨(ad313.add ((x6_2).toNat * 6)).block, (ad313.add ((x6_2).toNat * 6)).off + 3, none⟩ = some (.int .i64 ((rd_T43 t290 x6_2).f3.f0)) ∧ w'.cell? ⟨(ad313.add ((x6_2).toNat * 6)).block, (ad313.add ((x6_2).toNat * 6)).off + 4, none⟩ = some (.int .i64 ((rd_T43 t290 x6_2).f3.f1)) ∧ w'.cell? ⟨(ad313.add ((x6_2).toNat * 6)).block, (ad313.add ((x6_2).toNat * 6)).off + 5, none⟩ = some (.int .i64 ((rd_T43 t290 x6_2).f3.f2)) ∧ w'.cell? (ad313.add ((x6_2).toNat * 6)) = some (.int .i64 ((rd_T43 t290 x6_2).f0)) ∧ w'.cell? ⟨(ad313.add ((x6_2).toNat * 6)).block, (ad313.add ((x6_2).toNat * 6)).off + 1, none⟩ = some (.int .i64 ((rd_T43 t290 x6_2).f1)) ∧ w'.cell? ⟨(ad313.add ((x6_2).toNat * 6)).block, (ad313.add ((x6_2).toNat * 6)).off + 2, none⟩ = some (.int .i64 ((rd_T43 t290 x6_2).f2)) ∧ w'.cell? ⟨(ad313.add ((x6_2).toNat * 6)).block, (ad313.add ((x6_2).toNat * 6)).off + 3, none⟩ = some (.int .i64 ((rd_T43 t290 x6_2).f3.f0)) ∧ w'.cell? ⟨(ad313.add ((x6_2).toNat * 6)).block, (ad313.add ((x6_2).toNat * 6)).off + 4, none⟩ = some (.int .i64 ((rd_T43 t290 x6_2).f3.f1)) ∧ w'.cell? ⟨(ad313.add ((x6_2).toNat * 6)).block, (ad313.add ((x6_2).toNat * 6)).off + 5, none⟩ = some (.int .i64 ((rd_T43 t290 x6_2).f3.f2)) ∧ w'.cell? (ad313.add ((x6_2).toNat * 6)) = some (.int .i64 ((rd_T43 t290 x6_2).f0)) ∧ w'.cell? ⟨(ad313.add ((x6_2).toNat * 6)).block, (ad313.add ((x6_2).toNat * 6)).off + 1, none⟩ = some (.int .i64 ((rd_T43 t290 x6_2).f1)) ∧ w'.cell? ⟨(ad313.add ((x6_2).toNat * 6)).block, (ad313.add ((x6_2).toNat * 6)).off + 2, none⟩ = some (.int .i64 ((rd_T43 t290 x6_2).f2)) ∧ w'.cell? ⟨(ad313.add ((x6_2).toNat * 6)).block, (ad313.add ((x6_2).toNat * 6)).off + 3, none⟩ = some (.int .i64 ((rd_T43 t290 x6_2).f3.f0)) ∧ w'.cell? ⟨(ad313.add ((x6_2).toNat * 6)).block, (ad313.add ((x6_2).toNat * 6)).off + 4, none⟩ = some (.int .i64 ((rd_T43 t290 x6_2).f3.f1)) ∧ w'.cell? ⟨(ad313.add ((x6_2).toNat * 6)).block, (ad313.add ((x6_2).toNat * 6)).off + 5, none⟩ = some (.int .i64 ((rd_T43 t290 x6_2).f3.f2))) (ds := []) #[fb_,fb_,fb_,fb_,fb_,fb_,fb_,fb_,fb_,fb_,fb_,fb_,fb_,fb_,fb_,fb_,fb_,fb_,fb_,fb_,fb_,fb_,fb_,fb_,fb_,fb_,fb_,fb_,fb_,fb_,fb_,fb_,fb_,fb_] (by kernel_rfl) rfl rfl ⟨hx313_0, hx313_1, hx313_2, hx313_3, hx313_4, hx313_5, hx315_0, hx315_1, hx315_2, hx315_3, hx315_4, hx315_5, hx316_0, hx316_1, hx316_2, hx316_3, hx316_4, hx316_5⟩ (fun hHeld => ?_); refine with_tabW laws_FnFacts.tab12 laws_FnFacts.bits12 (fun HT_ HW_ => ?_)
             generalize wr.drew = w76 at HO_3 HO_5 BK299 HB hx313_0 hx313_1 hx313_2 hx313_3 hx313_4 hx313_5 hx315_0 hx315_1 hx315_2 hx315_3 hx315_4 hx315_5 hx316_0 hx316_1 hx316_2 hx316_3 hx316_4 hx316_5 hHeld ⊢
             refine pu_ (i := 0) (N := some 72) #[tb_,fb_,fb_,fb_,fb_,fb_,fb_,fb_,fb_,fb_,fb_,fb_,fb_,fb_,fb_,fb_,fb_,fb_,fb_,fb_,fb_,fb_,fb_,fb_,fb_,fb_,fb_,fb_,fb_,fb_,fb_,fb_,fb_,fb_] (any_of HT_.out (by kernel_rfl)) ?_
             refine pu_ (i := 1) (N := some 73) #[tb_,tb_,fb_,fb_,fb_,fb_,fb_,fb_,fb_,fb_,fb_,fb_,fb_,fb_,fb_,fb_,fb_,fb_,fb_,fb_,fb_,fb_,fb_,fb_,fb_,fb_,fb_,fb_,fb_,fb_,fb_,fb_,fb_,fb_] (any_of HT_.out (by kernel_rfl)) ?_
             refine pu_ (i := 2) (N := some 74) #[tb_,tb_,tb_,fb_,fb_,fb_,fb_,fb_,fb_,fb_,fb_,fb_,fb_,fb_,fb_,fb_,fb_,fb_,fb_,fb_,fb_,fb_,fb_,fb_,fb_,fb_,fb_,fb_,fb_,fb_,fb_,fb_,fb_,fb_] (any_of HT_.out (by kernel_rfl)) ?_
             refine pu_ (i := 3) (N := some 75) #[tb_,tb_,tb_,tb_,fb_,fb_,fb_,fb_,fb_,fb_,fb_,fb_,fb_,fb_,fb_,fb_,fb_,fb_,fb_,fb_,fb_,fb_,fb_,fb_,fb_,fb_,fb_,fb_,fb_,fb_,fb_,fb_,fb_,fb_] (any_of HT_.out (by kernel_rfl)) ?_
             refine take_ (i := 4) (N := some 76) (v := ?_) (a' := ?_) #[tb_,tb_,tb_,tb_,tb_,fb_,fb_,fb_,fb_,fb_,fb_,fb_,fb_,fb_,fb_,fb_,fb_,fb_,fb_,fb_,fb_,fb_,fb_,fb_,fb_,fb_,fb_,fb_,fb_,fb_,fb_,fb_,fb_,fb_] rfl rfl (take_ofW HT_.out HW_.out (by kernel_rfl)) (fun _ _ _ h => h) (Or.inl ⟨by rfl, ?_⟩) hHeld ?_ ?_
             rotate_left
             ·
              rintro w' ⟨s0, s1, s2, s3, s4, s5, s6, s7, s8, s9, s10, s11, s12, s13, s14, s15, s16, s17⟩
              go_simp
              with_reducible rfl
             rotate_left
             ·
              simp only [Act.put, List.setIfInBounds_toArray, List.set_cons_zero, List.set_cons_succ, i64_w, i32_w]
              rfl
             refine one_ (i := 5) (N := some 77) #[tb_,tb_,tb_,tb_,tb_,tb_,fb_,fb_,fb_,fb_,fb_,fb_,fb_,fb_,fb_,fb_,fb_,fb_,fb_,fb_,fb_,fb_,fb_,fb_,fb_,fb_,fb_,fb_,fb_,fb_,fb_,fb_,fb_,fb_] rfl rfl (one_of HT_.out (by kernel_rfl)) (by decide) (fun K hK => ?_)
             refine goes_ Try.func40 (by kernel_rfl) rfl #[.slice Ao77 t300.length co77, .agg #[.int .i64 ((rd_T43 t290 x6_2).f0), .int .i64 ((rd_T43 t290 x6_2).f1), .int .i64 ((rd_T43 t290 x6_2).f2), .int .i64 ((rd_T43 t290 x6_2).f3.f0), .int .i64 ((rd_T43 t290 x6_2).f3.f1), .int .i64 ((rd_T43 t290 x6_2).f3.f2)]] (by rfl) rfl rfl (by (try simp only [List.map_toArray, List.map_cons, List.map_nil]); first | done | rfl | (simp only [List.length_drop, List.length_take]; rfl)) ?_
             with_reducible refine (impl_FactHas.calls k2 _ _ t300 ((rd_T43 t290 x6_2).f0) ((rd_T43 t290 x6_2).f1) ((rd_T43 t290 x6_2).f2) ((rd_T43 t290 x6_2).f3.f0) ((rd_T43 t290 x6_2).f3.f1) ((rd_T43 t290 x6_2).f3.f2) true _ ?side1 ?side2 A72.out).mono ?_
             (case side1 => repeat (first | exact (Kd.R_reads' HO_5.out).2.2 | (with_reducible refine Kd.C_alloc ?_ _) | (with_reducible refine Kd.C_drewN ?_ _) | (with_reducible refine Kd.C_drew ?_)))
             (case side2 => exact (Kd.R_reads' HO_5.out).2.1)
             rintro e w78 ⟨rfl, hb⟩
             have HS0_ := pB_ hb (hHeld.1)
             have HS1_ := pB_ hb (hHeld.2.1)
             have HS2_ := pB_ hb (hHeld.2.2.1)
             have HS3_ := pB_ hb (hHeld.2.2.2.1)
             have HS4_ := pB_ hb (hHeld.2.2.2.2.1)
             have HS5_ := pB_ hb (hHeld.2.2.2.2.2.1)
             have HS6_ := pB_ hb (hHeld.2.2.2.2.2.2.1)
             have HS7_ := pB_ hb (hHeld.2.2.2.2.2.2.2.1)
             have HS8_ := pB_ hb (hHeld.2.2.2.2.2.2.2.2.1)
             have HS9_ := pB_ hb (hHeld.2.2.2.2.2.2.2.2.2.1)
             have HS10_ := pB_ hb (hHeld.2.2.2.2.2.2.2.2.2.2.1)
             have HS11_ := pB_ hb (hHeld.2.2.2.2.2.2.2.2.2.2.2.1)
             have HS12_ := pB_ hb (hHeld.2.2.2.2.2.2.2.2.2.2.2.2.1)
             have HS13_ := pB_ hb (hHeld.2.2.2.2.2.2.2.2.2.2.2.2.2.1)
             have HS14_ := pB_ hb (hHeld.2.2.2.2.2.2.2.2.2.2.2.2.2.2.1)
             have HS15_ := pB_ hb (hHeld.2.2.2.2.2.2.2.2.2.2.2.2.2.2.2.1)
             have HS16_ := pB_ hb (hHeld.2.2.2.2.2.2.2.2.2.2.2.2.2.2.2.2.1)
             have HS17_ := pB_ hb (hHeld.2.2.2.2.2.2.2.2.2.2.2.2.2.2.2.2.2)
             refine ⟨_, rfl, ?_⟩
             have n0_ := Ad_.mk (Kd.R_below (by (with_reducible repeat (first | apply Kd.R_alloc | apply Kd.R_drewN | apply Kd.R_drew)); exact HO_3.out) hb)
             have n1_ := Ad_.mk (Kd.R_below (by (with_reducible repeat (first | apply Kd.R_alloc | apply Kd.R_drewN | apply Kd.R_drew)); exact HO_5.out) hb)
             have n2_ := Ad_.mk (blk_below (g := gb299) (o := .cells #[.int .i64 t293, .int .i64 t294, .int .i64 t295, .int .i64 t296, .int .i64 t297, .int .i64 t298] 43 (0, 0)) (by (with_reducible repeat (first | refine kN_ ?_ _ | refine k1_ ?_ | refine kA_ ?_ _)); exact BK299.out) hb)
             have n3_ := Ad_.mk (bP_ (by repeat (with_reducible first | exact HB.out | apply bA_ | apply bN_ | apply b1_ | refine bS_ ?_ GE299.out)) hb)
             clear HO_3
             clear HO_5
             clear BK299
             clear HB
             have HO_3 := n0_
             have HO_5 := n1_
             have BK299 := n2_
             have HB := n3_
             clear n0_ n1_ n2_ n3_
             (try clear hb)
             (try clear hb2)
             (try clear hk)
             (try clear hi)
             refine hK.out _ _ ⟨HS0_, HS1_, HS2_, HS3_, HS4_, HS5_, HS6_, HS7_, HS8_, HS9_, HS10_, HS11_, HS12_, HS13_, HS14_, HS15_, HS16_, HS17_⟩ (fun hHeld => ?_)
             clear hK K
             refine norm_ (a' := ?_) ?_ ?_
             rotate_left
             ·
              show Act.put _ (some 77) _ = _
              simp only [Act.put, List.setIfInBounds_toArray, List.set_cons_zero, List.set_cons_succ, i64_w, i32_w]
              rfl
             refine pu_ (i := 6) (N := some 78) #[tb_,tb_,tb_,tb_,tb_,tb_,tb_,fb_,fb_,fb_,fb_,fb_,fb_,fb_,fb_,fb_,fb_,fb_,fb_,fb_,fb_,fb_,fb_,fb_,fb_,fb_,fb_,fb_,fb_,fb_,fb_,fb_,fb_,fb_] (any_of HT_.out (by kernel_rfl)) ?_
             refine pu_ (i := 7) (N := some 79) #[tb_,tb_,tb_,tb_,tb_,tb_,tb_,tb_,fb_,fb_,fb_,fb_,fb_,fb_,fb_,fb_,fb_,fb_,fb_,fb_,fb_,fb_,fb_,fb_,fb_,fb_,fb_,fb_,fb_,fb_,fb_,fb_,fb_,fb_] (any_of HT_.out (by kernel_rfl)) ?_
             refine pu_ (i := 8) (N := some 80) #[tb_,tb_,tb_,tb_,tb_,tb_,tb_,tb_,tb_,fb_,fb_,fb_,fb_,fb_,fb_,fb_,fb_,fb_,fb_,fb_,fb_,fb_,fb_,fb_,fb_,fb_,fb_,fb_,fb_,fb_,fb_,fb_,fb_,fb_] (any_of HT_.out (by kernel_rfl)) ?_
             refine pu_ (i := 9) (N := some 81) #[tb_,tb_,tb_,tb_,tb_,tb_,tb_,tb_,tb_,tb_,fb_,fb_,fb_,fb_,fb_,fb_,fb_,fb_,fb_,fb_,fb_,fb_,fb_,fb_,fb_,fb_,fb_,fb_,fb_,fb_,fb_,fb_,fb_,fb_] (any_of HT_.out (by kernel_rfl)) ?_
             refine pu_ (i := 10) (N := some 82) #[tb_,tb_,tb_,tb_,tb_,tb_,tb_,tb_,tb_,tb_,tb_,fb_,fb_,fb_,fb_,fb_,fb_,fb_,fb_,fb_,fb_,fb_,fb_,fb_,fb_,fb_,fb_,fb_,fb_,fb_,fb_,fb_,fb_,fb_] (any_of HT_.out (by kernel_rfl)) ?_
             refine pu_ (i := 12) (N := some 84) #[tb_,tb_,tb_,tb_,tb_,tb_,tb_,tb_,tb_,tb_,tb_,fb_,tb_,fb_,fb_,fb_,fb_,fb_,fb_,fb_,fb_,fb_,fb_,fb_,fb_,fb_,fb_,fb_,fb_,fb_,fb_,fb_,fb_,fb_] (any_of HT_.out (by kernel_rfl)) ?_
             refine pu_ (i := 13) (N := some 85) #[tb_,tb_,tb_,tb_,tb_,tb_,tb_,tb_,tb_,tb_,tb_,fb_,tb_,tb_,fb_,fb_,fb_,fb_,fb_,fb_,fb_,fb_,fb_,fb_,fb_,fb_,fb_,fb_,fb_,fb_,fb_,fb_,fb_,fb_] (any_of HT_.out (by kernel_rfl)) ?_
             refine pu_ (i := 14) (N := some 86) #[tb_,tb_,tb_,tb_,tb_,tb_,tb_,tb_,tb_,tb_,tb_,fb_,tb_,tb_,tb_,fb_,fb_,fb_,fb_,fb_,fb_,fb_,fb_,fb_,fb_,fb_,fb_,fb_,fb_,fb_,fb_,fb_,fb_,fb_] (any_of HT_.out (by kernel_rfl)) ?_
             refine take_ (i := 11) (N := some 83) (v := ?_) (a' := ?_) #[tb_,tb_,tb_,tb_,tb_,tb_,tb_,tb_,tb_,tb_,tb_,tb_,tb_,tb_,tb_,fb_,fb_,fb_,fb_,fb_,fb_,fb_,fb_,fb_,fb_,fb_,fb_,fb_,fb_,fb_,fb_,fb_,fb_,fb_] rfl rfl (take_ofW HT_.out HW_.out (by kernel_rfl)) (fun _ _ _ h => h) (Or.inl ⟨by rfl, ?_⟩) hHeld ?_ ?_
             rotate_left
             ·
              rintro w' ⟨s0, s1, s2, s3, s4, s5, s6, s7, s8, s9, s10, s11, s12, s13, s14, s15, s16, s17⟩
              go_simp
              with_reducible rfl
             rotate_left
             ·
              simp only [Act.put, List.setIfInBounds_toArray, List.set_cons_zero, List.set_cons_succ, i64_w, i32_w]
              rfl
             refine take_ (i := 15) (N := some 87) (v := ?_) (a' := ?_) #[tb_,tb_,tb_,tb_,tb_,tb_,tb_,tb_,tb_,tb_,tb_,tb_,tb_,tb_,tb_,tb_,fb_,fb_,fb_,fb_,fb_,fb_,fb_,fb_,fb_,fb_,fb_,fb_,fb_,fb_,fb_,fb_,fb_,fb_] rfl rfl (take_ofW HT_.out HW_.out (by kernel_rfl)) (fun _ _ _ h => h) (Or.inl ⟨by rfl, ?_⟩) hHeld ?_ ?_
             rotate_left
             ·
              rintro w' ⟨s0, s1, s2, s3, s4, s5, s6, s7, s8, s9, s10, s11, s12, s13, s14, s15, s16, s17⟩
              go_simp
              with_reducible rfl
             rotate_left
             ·
              simp only [Act.put, List.setIfInBounds_toArray, List.set_cons_zero, List.set_cons_succ, i64_w, i32_w]
              rfl
             refine one_ (i := 16) (N := some 88) #[tb_,tb_,tb_,tb_,tb_,tb_,tb_,tb_,tb_,tb_,tb_,tb_,tb_,tb_,tb_,tb_,tb_,fb_,fb_,fb_,fb_,fb_,fb_,fb_,fb_,fb_,fb_,fb_,fb_,fb_,fb_,fb_,fb_,fb_] rfl rfl (one_of HT_.out (by kernel_rfl)) (by decide) (fun K hK => ?_)
             refine goes_ Try.func28 (by kernel_rfl) rfl #[.agg #[.int .i64 ((rd_T43 t290 x6_2).f0), .int .i64 ((rd_T43 t290 x6_2).f1), .int .i64 ((rd_T43 t290 x6_2).f2), .int .i64 ((rd_T43 t290 x6_2).f3.f0), .int .i64 ((rd_T43 t290 x6_2).f3.f1), .int .i64 ((rd_T43 t290 x6_2).f3.f2)], .agg #[.int .i64 ((rd_T43 t290 x6_2).f0), .int .i64 ((rd_T43 t290 x6_2).f1), .int .i64 ((rd_T43 t290 x6_2).f2), .int .i64 ((rd_T43 t290 x6_2).f3.f0), .int .i64 ((rd_T43 t290 x6_2).f3.f1), .int .i64 ((rd_T43 t290 x6_2).f3.f2)]] (by rfl) rfl rfl (by (try simp only [List.map_toArray, List.map_cons, List.map_nil]); first | done | rfl | (simp only [List.length_drop, List.length_take]; rfl)) ?_
             with_reducible refine (impl_FactLess.calls k2 ((rd_T43 t290 x6_2).f0) ((rd_T43 t290 x6_2).f1) ((rd_T43 t290 x6_2).f2) ((rd_T43 t290 x6_2).f3.f0) ((rd_T43 t290 x6_2).f3.f1) ((rd_T43 t290 x6_2).f3.f2) ((rd_T43 t290 x6_2).f0) ((rd_T43 t290 x6_2).f1) ((rd_T43 t290 x6_2).f2) ((rd_T43 t290 x6_2).f3.f0) ((rd_T43 t290 x6_2).f3.f1) ((rd_T43 t290 x6_2).f3.f2) true _ A74.out).mono ?_
             rintro e w79 ⟨rfl, hb⟩
             have HS0_ := pB_ hb (hHeld.1)
             have HS1_ := pB_ hb (hHeld.2.1)
             have HS2_ := pB_ hb (hHeld.2.2.1)
             have HS3_ := pB_ hb (hHeld.2.2.2.1)
             have HS4_ := pB_ hb (hHeld.2.2.2.2.1)
             have HS5_ := pB_ hb (hHeld.2.2.2.2.2.1)
             have HS6_ := pB_ hb (hHeld.2.2.2.2.2.2.1)
             have HS7_ := pB_ hb (hHeld.2.2.2.2.2.2.2.1)
             have HS8_ := pB_ hb (hHeld.2.2.2.2.2.2.2.2.1)
             have HS9_ := pB_ hb (hHeld.2.2.2.2.2.2.2.2.2.1)
             have HS10_ := pB_ hb (hHeld.2.2.2.2.2.2.2.2.2.2.1)
             have HS11_ := pB_ hb (hHeld.2.2.2.2.2.2.2.2.2.2.2.1)
             have HS12_ := pB_ hb (hHeld.2.2.2.2.2.2.2.2.2.2.2.2.1)
             have HS13_ := pB_ hb (hHeld.2.2.2.2.2.2.2.2.2.2.2.2.2.1)
             have HS14_ := pB_ hb (hHeld.2.2.2.2.2.2.2.2.2.2.2.2.2.2.1)
             have HS15_ := pB_ hb (hHeld.2.2.2.2.2.2.2.2.2.2.2.2.2.2.2.1)
             have HS16_ := pB_ hb (hHeld.2.2.2.2.2.2.2.2.2.2.2.2.2.2.2.2.1)
             have HS17_ := pB_ hb (hHeld.2.2.2.2.2.2.2.2.2.2.2.2.2.2.2.2.2)
             refine ⟨_, rfl, ?_⟩
             have n0_ := Ad_.mk (Kd.R_below (by (with_reducible repeat (first | apply Kd.R_alloc | apply Kd.R_drewN | apply Kd.R_drew)); exact HO_3.out) hb)
             have n1_ := Ad_.mk (Kd.R_below (by (with_reducible repeat (first | apply Kd.R_alloc | apply Kd.R_drewN | apply Kd.R_drew)); exact HO_5.out) hb)
             have n2_ := Ad_.mk (blk_below (g := gb299) (o := .cells #[.int .i64 t293, .int .i64 t294, .int .i64 t295, .int .i64 t296, .int .i64 t297, .int .i64 t298] 43 (0, 0)) (by (with_reducible repeat (first | refine kN_ ?_ _ | refine k1_ ?_ | refine kA_ ?_ _)); exact BK299.out) hb)
             have n3_ := Ad_.mk (bP_ (by repeat (with_reducible first | exact HB.out | apply bA_ | apply bN_ | apply b1_ | refine bS_ ?_ GE299.out)) hb)
             clear HO_3
             clear HO_5
             clear BK299
             clear HB
             have HO_3 := n0_
             have HO_5 := n1_
             have BK299 := n2_
             have HB := n3_
             clear n0_ n1_ n2_ n3_
             (try clear hb)
             (try clear hb2)
             (try clear hk)
             (try clear hi)
             refine hK.out _ _ ⟨HS0_, HS1_, HS2_, HS3_, HS4_, HS5_, HS6_, HS7_, HS8_, HS9_, HS10_, HS11_, HS12_, HS13_, HS14_, HS15_, HS16_, HS17_⟩ (fun hHeld => ?_)
             clear hK K
             refine norm_ (a' := ?_) ?_ ?_
             rotate_left
             ·
              show Act.put _ (some 88) _ = _
              simp only [Act.put, List.setIfInBounds_toArray, List.set_cons_zero, List.set_cons_succ, i64_w, i32_w]
              rfl
             refine pu_ (i := 17) (N := some 89) #[tb_,tb_,tb_,tb_,tb_,tb_,tb_,tb_,tb_,tb_,tb_,tb_,tb_,tb_,tb_,tb_,tb_,tb_,fb_,fb_,fb_,fb_,fb_,fb_,fb_,fb_,fb_,fb_,fb_,fb_,fb_,fb_,fb_,fb_] (any_of HT_.out (by kernel_rfl)) ?_
             refine pu_ (i := 18) (N := some 90) #[tb_,tb_,tb_,tb_,tb_,tb_,tb_,tb_,tb_,tb_,tb_,tb_,tb_,tb_,tb_,tb_,tb_,tb_,tb_,fb_,fb_,fb_,fb_,fb_,fb_,fb_,fb_,fb_,fb_,fb_,fb_,fb_,fb_,fb_] (any_of HT_.out (by kernel_rfl)) ?_
             refine pv_ (i := 19) (N := some 91) #[tb_,tb_,tb_,tb_,tb_,tb_,tb_,tb_,tb_,tb_,tb_,tb_,tb_,tb_,tb_,tb_,tb_,tb_,tb_,tb_,fb_,fb_,fb_,fb_,fb_,fb_,fb_,fb_,fb_,fb_,fb_,fb_,fb_,fb_] (any_of HT_.out (by kernel_rfl)) ?_
             refine pv_ (i := 20) (N := some 92) #[tb_,tb_,tb_,tb_,tb_,tb_,tb_,tb_,tb_,tb_,tb_,tb_,tb_,tb_,tb_,tb_,tb_,tb_,tb_,tb_,tb_,fb_,fb_,fb_,fb_,fb_,fb_,fb_,fb_,fb_,fb_,fb_,fb_,fb_] (any_of HT_.out (by kernel_rfl)) ?_
             refine pv_ (i := 21) (N := some 93) #[tb_,tb_,tb_,tb_,tb_,tb_,tb_,tb_,tb_,tb_,tb_,tb_,tb_,tb_,tb_,tb_,tb_,tb_,tb_,tb_,tb_,tb_,fb_,fb_,fb_,fb_,fb_,fb_,fb_,fb_,fb_,fb_,fb_,fb_] (any_of HT_.out (by kernel_rfl)) ?_
             refine pv_ (i := 22) (N := some 94) #[tb_,tb_,tb_,tb_,tb_,tb_,tb_,tb_,tb_,tb_,tb_,tb_,tb_,tb_,tb_,tb_,tb_,tb_,tb_,tb_,tb_,tb_,tb_,fb_,fb_,fb_,fb_,fb_,fb_,fb_,fb_,fb_,fb_,fb_] (any_of HT_.out (by kernel_rfl)) ?_
             refine pv_ (i := 23) (N := some 95) #[tb_,tb_,tb_,tb_,tb_,tb_,tb_,tb_,tb_,tb_,tb_,tb_,tb_,tb_,tb_,tb_,tb_,tb_,tb_,tb_,tb_,tb_,tb_,tb_,fb_,fb_,fb_,fb_,fb_,fb_,fb_,fb_,fb_,fb_] (any_of HT_.out (by kernel_rfl)) ?_
             refine pv_ (i := 24) (N := some 96) #[tb_,tb_,tb_,tb_,tb_,tb_,tb_,tb_,tb_,tb_,tb_,tb_,tb_,tb_,tb_,tb_,tb_,tb_,tb_,tb_,tb_,tb_,tb_,tb_,tb_,fb_,fb_,fb_,fb_,fb_,fb_,fb_,fb_,fb_] (any_of HT_.out (by kernel_rfl)) ?_
             refine pv_ (i := 25) (N := some 97) #[tb_,tb_,tb_,tb_,tb_,tb_,tb_,tb_,tb_,tb_,tb_,tb_,tb_,tb_,tb_,tb_,tb_,tb_,tb_,tb_,tb_,tb_,tb_,tb_,tb_,tb_,fb_,fb_,fb_,fb_,fb_,fb_,fb_,fb_] (any_of HT_.out (by kernel_rfl)) ?_
             refine pv_ (i := 26) (N := some 98) #[tb_,tb_,tb_,tb_,tb_,tb_,tb_,tb_,tb_,tb_,tb_,tb_,tb_,tb_,tb_,tb_,tb_,tb_,tb_,tb_,tb_,tb_,tb_,tb_,tb_,tb_,tb_,fb_,fb_,fb_,fb_,fb_,fb_,fb_] (any_of HT_.out (by kernel_rfl)) ?_
             refine pv_ (i := 27) (N := some 99) #[tb_,tb_,tb_,tb_,tb_,tb_,tb_,tb_,tb_,tb_,tb_,tb_,tb_,tb_,tb_,tb_,tb_,tb_,tb_,tb_,tb_,tb_,tb_,tb_,tb_,tb_,tb_,tb_,fb_,fb_,fb_,fb_,fb_,fb_] (any_of HT_.out (by kernel_rfl)) ?_
             refine pv_ (i := 28) (N := some 100) #[tb_,tb_,tb_,tb_,tb_,tb_,tb_,tb_,tb_,tb_,tb_,tb_,tb_,tb_,tb_,tb_,tb_,tb_,tb_,tb_,tb_,tb_,tb_,tb_,tb_,tb_,tb_,tb_,tb_,fb_,fb_,fb_,fb_,fb_] (any_of HT_.out (by kernel_rfl)) ?_
             refine pv_ (i := 29) (N := some 101) #[tb_,tb_,tb_,tb_,tb_,tb_,tb_,tb_,tb_,tb_,tb_,tb_,tb_,tb_,tb_,tb_,tb_,tb_,tb_,tb_,tb_,tb_,tb_,tb_,tb_,tb_,tb_,tb_,tb_,tb_,fb_,fb_,fb_,fb_] (any_of HT_.out (by kernel_rfl)) ?_
             refine pv_ (i := 30) (N := some 102) #[tb_,tb_,tb_,tb_,tb_,tb_,tb_,tb_,tb_,tb_,tb_,tb_,tb_,tb_,tb_,tb_,tb_,tb_,tb_,tb_,tb_,tb_,tb_,tb_,tb_,tb_,tb_,tb_,tb_,tb_,tb_,fb_,fb_,fb_] (any_of HT_.out (by kernel_rfl)) ?_
             refine pv_ (i := 31) (N := some 103) #[tb_,tb_,tb_,tb_,tb_,tb_,tb_,tb_,tb_,tb_,tb_,tb_,tb_,tb_,tb_,tb_,tb_,tb_,tb_,tb_,tb_,tb_,tb_,tb_,tb_,tb_,tb_,tb_,tb_,tb_,tb_,tb_,fb_,fb_] (any_of HT_.out (by kernel_rfl)) ?_
             refine pv_ (i := 32) (N := some 104) #[tb_,tb_,tb_,tb_,tb_,tb_,tb_,tb_,tb_,tb_,tb_,tb_,tb_,tb_,tb_,tb_,tb_,tb_,tb_,tb_,tb_,tb_,tb_,tb_,tb_,tb_,tb_,tb_,tb_,tb_,tb_,tb_,tb_,fb_] (any_of HT_.out (by kernel_rfl)) ?_
             refine pu_ (i := 33) (N := some 105) #[tb_,tb_,tb_,tb_,tb_,tb_,tb_,tb_,tb_,tb_,tb_,tb_,tb_,tb_,tb_,tb_,tb_,tb_,tb_,tb_,tb_,tb_,tb_,tb_,tb_,tb_,tb_,tb_,tb_,tb_,tb_,tb_,tb_,tb_] (any_of HT_.out (by kernel_rfl)) ?_
             refine done_ (done_of HT_.out (by kernel_rfl)) ?_
             try go_wp2
             go_meet
             case rel => exact ⟨_, (true), fs_, H', ⟨by have := HJ7.out; have := HK2.out; first | omega | exact Nat.le_refl _⟩, ⟨by (with_reducible repeat (first | apply Kd.R_alloc | apply Kd.R_drewN | apply Kd.R_drew)); exact HO_3.out⟩, ⟨by (with_reducible repeat (first | apply Kd.R_alloc | apply Kd.R_drewN | apply Kd.R_drew)); exact HO_5.out⟩, ⟨by (with_reducible repeat (first | refine kN_ ?_ _ | refine k1_ ?_ | refine kA_ ?_ _)); exact BK299.out⟩, ⟨by repeat (with_reducible first | exact HB.out | apply bA_ | apply bN_ | apply b1_ | refine bS_ ?_ GE299.out)⟩⟩
            replace c75 := Bool.eq_false_iff.mpr c75
            subst c75
            have H1 : ((impl_FactLess.f k2 t293 t294 t295 t296 t297 t298 ((rd_T43 t290 x6_2).f0) ((rd_T43 t290 x6_2).f1) ((rd_T43 t290 x6_2).f2) ((rd_T43 t290 x6_2).f3.f0) ((rd_T43 t290 x6_2).f3.f1) ((rd_T43 t290 x6_2).f3.f2)).bind fun t319 => (if t319 = true then ((impl_FactLess.f k2 ((rd_T43 t290 x6_2).f0) ((rd_T43 t290 x6_2).f1) ((rd_T43 t290 x6_2).f2) ((rd_T43 t290 x6_2).f3.f0) ((rd_T43 t290 x6_2).f3.f1) ((rd_T43 t290 x6_2).f3.f2) t293 t294 t295 t296 t297 t298).bind fun t321 => (laws_FnFacts.j2 k2 t290 t300 x6_2 t321 t293 t294 t295 t296 t297 t298)) else (laws_FnFacts.j2 k2 t290 t300 x6_2 false t293 t294 t295 t296 t297 t298))) = some r := by rw [if_neg (show ¬ (false = true) by decide)] at H; exact H
            clear H
            have H := H1
            clear H1
            replace H := Option.bind_eq_some_iff.mp H
            obtain ⟨t319, A800, H⟩ := H
            try dsimp only at H
            have A80 := Ad_.mk A800
            clear A800
            by_cases c81 : t319 = true
            rotate_left
            ·
             replace c81 := Bool.eq_false_iff.mpr c81
             subst c81
             have H1 : (laws_FnFacts.j2 k2 t290 t300 x6_2 false t293 t294 t295 t296 t297 t298) = some r := by rw [if_neg (show ¬ (false = true) by decide)] at H; exact H
             clear H
             have H := H1
             clear H1
             have H' := Ad_.mk H
             clear H
             try go_wp2
             have n0_ := Ad_.mk (Kd.R_drew HO_3.out)
             have n1_ := Ad_.mk (Kd.R_drew HO_5.out)
             have n2_ := Ad_.mk (k1_ BK299.out)
             have n3_ := Ad_.mk (b1_ HB.out)
             clear HO_3
             clear HO_5
             clear BK299
             clear HB
             have HO_3 := n0_
             have HO_5 := n1_
             have BK299 := n2_
             have HB := n3_
             clear n0_ n1_ n2_ n3_
             have p313 : 0 ≤ (x6_2 : Int) := od_
             have q313 : x6_2 < (t290.length : Int) := od_
             obtain ⟨ad313, e313, hx313_0, hx313_1, hx313_2, hx313_3, hx313_4, hx313_5⟩ := at_T43 (Kd.R_reads' HO_3.out).2.2 x6_2 p313 q313
             cases e313
             replace p313 := eq_true p313
             replace q313 := eq_true q313
             obtain ⟨Ao90, co90, eo90⟩ := Kd.R_slice HO_5.out
             (first | subst eo90 | (injection eo90 with f1_ f2_ f3_; have f4_ := f1_.symm; have f5_ := f3_.symm; clear f1_ f2_ f3_; subst f4_; subst f5_))
             have p315 : 0 ≤ (x6_2 : Int) := od_
             have q315 : x6_2 < (t290.length : Int) := od_
             obtain ⟨ad315, e315, hx315_0, hx315_1, hx315_2, hx315_3, hx315_4, hx315_5⟩ := at_T43 (Kd.R_reads' HO_3.out).2.2 x6_2 p315 q315
             obtain rfl : ad313 = ad315 := (by injection e315)
             replace p315 := eq_true p315
             replace q315 := eq_true q315
             have p316 : 0 ≤ (x6_2 : Int) := od_
             have q316 : x6_2 < (t290.length : Int) := od_
             obtain ⟨ad316, e316, hx316_0, hx316_1, hx316_2, hx316_3, hx316_4, hx316_5⟩ := at_T43 (Kd.R_reads' HO_3.out).2.2 x6_2 p316 q316
             obtain rfl : ad313 = ad316 := (by injection e316)
             replace p316 := eq_true p316
             replace q316 := eq_true q316
             have p318 : 0 ≤ (x6_2 : Int) := od_
             have q318 : x6_2 < (t290.length : Int) := od_
             obtain ⟨ad318, e318, hx318_0, hx318_1, hx318_2, hx318_3, hx318_4, hx318_5⟩ := at_T43 (Kd.R_reads' HO_3.out).2.2 x6_2 p318 q318
             obtain rfl : ad313 = ad318 := (by injection e318)
             replace p318 := eq_true p318
             replace q318 := eq_true q318
             refine start_ (n := 34) (S := fun w' => w'.cell? ⟨gb299, 0, none⟩ = some (.int .i64 t293) ∧ w'.cell? ⟨gb299, 1, none⟩ = some (.int .i64 t294) ∧ w'.cell? ⟨gb299, 2, none⟩ = some (.int .i64 t295) ∧ w'.cell? ⟨gb299, 3, none⟩ = some (.int .i64 t296) ∧ w'.cell? ⟨gb299, 4, none⟩ = some (.int .i64 t297) ∧ w'.cell? ⟨gb299, 5, none⟩ = some (.int .i64 t298) ∧ w'.cell? (ad313.add ((x6_2).toNat * 6)) = some (.int .i64 ((rd_T43 t290 x6_2).f0)) ∧ w'.cell? ⟨(ad313.add ((x6_2).toNat * 6)).block, (ad313.add ((x6_2).toNat * 6)).off + 1, none⟩ = some (.int .i64 ((rd_T43 t290 x6_2).f1)) ∧ w'.cell? ⟨(ad313.add ((x6_2).toNat * 6)).block, (ad313.add ((x6_2).toNat * 6)).off + 2, none⟩ = some (.int .i64 ((rd_T43 t290 x6_2).f2)) ∧ w'.cell? ⟨(ad313.add ((x6_2).toNat * 6)).block, (ad313.add ((x6_2).toNat * 6)).off + 3, none⟩ = some (.int .i64 ((rd_T43 t290 x6_2).f3.f0)) ∧ w'.cell? ⟨(ad313.add ((x6_2).toNat * 6)).block, (ad313.add ((x6_2).toNat * 6)).off + 4, none⟩ = some (.int .i64 ((rd_T43 t290 x6_2).f3.f1)) ∧ w'.cell? ⟨(ad313.add ((x6_2).toNat * 6)).block, (ad313.add ((x6_2).toNat * 6)).off + 5, none⟩ = some (.int .i64 ((rd_T43 t290 x6_2).f3.f2)) ∧ w'.cell? (ad313.add ((x6_2).toNat * 6)) = some (.int .i64 ((rd_T43 t290 x6_2).f0)) ∧ w'.cell? ⟨(ad313.add ((x6_2).toNat * 6)).block, (ad313.add ((x6_2).toNat * 6)).off + 1, none⟩ = some (.int .i64 ((rd_T43 t290 x6_2).f1)) ∧ w'.cell? ⟨(ad313.add ((x6_2).toNat * 6)).block, (ad313.add ((x6_2).toNat * 6)).off + 2, none⟩ = some (.int .i64 ((rd_T43 t290 x6_2).f2)) ∧ w'.cell? ⟨(ad313.add ((x6_2).toNat * 6)).block, (ad313.add ((x6_2).toNat * 6)).off + 3, none⟩ = some (.int .i64 ((rd_T43 t290 x6_2).f3.f0)) ∧ w'.cell? ⟨(ad313.add ((x6_2).toNat * 6)).block, (ad313.add ((x6_2).toNat * 6)).off + 4, none⟩ = some (.int .i64 ((rd_T43 t290 x6_2).f3.f1)) ∧ w'.cell? ⟨(ad313.add ((x6_2).toNat * 6)).block, (ad313.add ((x6_2).toNat * 6)).off + 5, none⟩ = some (.int .i64 ((rd_T43 t290 x6_2).f3.f2)) ∧ w'.cell? (ad313.add ((x6_2).toNat * 6)) = some (.int .i64 ((rd_T43 t290 x6_2).f0)) ∧ w'.cell? ⟨(ad313.add ((x6_2).toNat * 6)).block, (ad313.add ((x6_2).toNat * 6)).off + 1, none⟩ = some (.int .i64 ((rd_T43 t290 x6_2).f1)) ∧ w'.cell? ⟨(ad313.add ((x6_2).toNat * 6)).block, (ad313.add ((x6_2).toNat * 6)).off + 2, none⟩ = some (.int .i64 ((rd_T43 t290 x6_2).f2)) ∧ w'.cell? ⟨(ad313.add ((x6_2).toNat * 6)).block, (ad313.add ((x6_2).toNat * 6)).off + 3, none⟩ = some (.int .i64 ((rd_T43 t290 x6_2).f3.f0)) ∧ w'.cell? ⟨(ad313.add ((x6_2).toNat * 6)).block, (ad313.add ((x6_2).toNat * 6)).off + 4, none⟩ = some (.int .i64 ((rd_T43 t290 x6_2).f3.f1)) ∧ w'.cell? ⟨(ad313.add ((x6_2).toNat * 6)).block, (ad313.add ((x6_2).toNat * 6)).off + 5, none⟩ = some (.int .i64 ((rd_T43 t290 x6_2).f3.f2)) ∧ w'.cell? (ad313.add ((x6_2).toNat * 6)) = some (.int .i64 ((rd_T43 t290 x6_2).f0)) ∧ w'.cell? ⟨(ad313.add ((x6_2).toNat * 6)).block, (ad313.add ((x6_2).toNat * 6)).off + 1, none⟩ = some (.int .i64 ((rd_T43 t290 x6_2).f1)) ∧ w'.cell? ⟨(ad313.add ((x6_2).toNat * 6)).block, (ad313.add ((x6_2).toNat * 6)).off + 2, none⟩ = some (.int .i64 ((rd_T43 t290 x6_2).f2)) ∧ w'.cell? ⟨(ad313.add ((x6_2).toNat * 6)).block, (ad313.add ((x6_2).toNat * 6)).off + 3, none⟩ = some (.int .i64 ((rd_T43 t290 x6_2).f3.f0)) ∧ w'.cell? ⟨(ad313.add ((x6_2).toNat * 6)).block, (ad313.add ((x6_2).toNat * 6)).off + 4, none⟩ = some (.int .i64 ((rd_T43 t290 x6_2).f3.f1)) ∧ w'.cell? ⟨(ad313.add ((x6_2).toNat * 6)).block, (ad313.add ((x6_2).toNat * 6)).off + 5, none⟩ = some (.int .i64 ((rd_T43 t290 x6_2).f3.f2))) (ds := []) #[fb_,fb_,fb_,fb_,fb_,fb_,fb_,fb_,fb_,fb_,fb_,fb_,fb_,fb_,fb_,fb_,fb_,fb_,fb_,fb_,fb_,fb_,fb_,fb_,fb_,fb_,fb_,fb_,fb_,fb_,fb_,fb_,fb_,fb_] (by kernel_rfl) rfl rfl ⟨(kC_ BK299.out 0).trans rfl, (kC_ BK299.out 1).trans rfl, (kC_ BK299.out 2).trans rfl, (kC_ BK299.out 3).trans rfl, (kC_ BK299.out 4).trans rfl, (kC_ BK299.out 5).trans rfl, hx313_0, hx313_1, hx313_2, hx313_3, hx313_4, hx313_5, hx315_0, hx315_1, hx315_2, hx315_3, hx315_4, hx315_5, hx316_0, hx316_1, hx316_2, hx316_3, hx316_4, hx316_5, hx318_0, hx318_1, hx318_2, hx318_3, hx318_4, hx318_5⟩ (fun hHeld => ?_); refine with_tabW laws_FnFacts.tab12 laws_FnFacts.bits12 (fun HT_ HW_ => ?_)
             generalize wr.drew = w89 at HO_3 HO_5 BK299 HB hx313_0 hx313_1 hx313_2 hx313_3 hx313_4 hx313_5 hx315_0 hx315_1 hx315_2 hx315_3 hx315_4 hx315_5 hx316_0 hx316_1 hx316_2 hx316_3 hx316_4 hx316_5 hx318_0 hx318_1 hx318_2 hx318_3 hx318_4 hx318_5 hHeld ⊢
             refine pu_ (i := 0) (N := some 72) #[tb_,fb_,fb_,fb_,fb_,fb_,fb_,fb_,fb_,fb_,fb_,fb_,fb_,fb_,fb_,fb_,fb_,fb_,fb_,fb_,fb_,fb_,fb_,fb_,fb_,fb_,fb_,fb_,fb_,fb_,fb_,fb_,fb_,fb_] (any_of HT_.out (by kernel_rfl)) ?_
             refine pu_ (i := 1) (N := some 73) #[tb_,tb_,fb_,fb_,fb_,fb_,fb_,fb_,fb_,fb_,fb_,fb_,fb_,fb_,fb_,fb_,fb_,fb_,fb_,fb_,fb_,fb_,fb_,fb_,fb_,fb_,fb_,fb_,fb_,fb_,fb_,fb_,fb_,fb_] (any_of HT_.out (by kernel_rfl)) ?_
             refine pu_ (i := 2) (N := some 74) #[tb_,tb_,tb_,fb_,fb_,fb_,fb_,fb_,fb_,fb_,fb_,fb_,fb_,fb_,fb_,fb_,fb_,fb_,fb_,fb_,fb_,fb_,fb_,fb_,fb_,fb_,fb_,fb_,fb_,fb_,fb_,fb_,fb_,fb_] (any_of HT_.out (by kernel_rfl)) ?_
             refine pu_ (i := 3) (N := some 75) #[tb_,tb_,tb_,tb_,fb_,fb_,fb_,fb_,fb_,fb_,fb_,fb_,fb_,fb_,fb_,fb_,fb_,fb_,fb_,fb_,fb_,fb_,fb_,fb_,fb_,fb_,fb_,fb_,fb_,fb_,fb_,fb_,fb_,fb_] (any_of HT_.out (by kernel_rfl)) ?_
             refine take_ (i := 4) (N := some 76) (v := ?_) (a' := ?_) #[tb_,tb_,tb_,tb_,tb_,fb_,fb_,fb_,fb_,fb_,fb_,fb_,fb_,fb_,fb_,fb_,fb_,fb_,fb_,fb_,fb_,fb_,fb_,fb_,fb_,fb_,fb_,fb_,fb_,fb_,fb_,fb_,fb_,fb_] rfl rfl (take_ofW HT_.out HW_.out (by kernel_rfl)) (fun _ _ _ h => h) (Or.inl ⟨by rfl, ?_⟩) hHeld ?_ ?_
             rotate_left
             ·
              rintro w' ⟨s0, s1, s2, s3, s4, s5, s6, s7, s8, s9, s10, s11, s12, s13, s14, s15, s16, s17, s18, s19, s20, s21, s22, s23, s24, s25, s26, s27, s28, s29⟩
              go_simp
              with_reducible rfl
             rotate_left
             ·
              simp only [Act.put, List.setIfInBounds_toArray, List.set_cons_zero, List.set_cons_succ, i64_w, i32_w]
              rfl
             refine one_ (i := 5) (N := some 77) #[tb_,tb_,tb_,tb_,tb_,tb_,fb_,fb_,fb_,fb_,fb_,fb_,fb_,fb_,fb_,fb_,fb_,fb_,fb_,fb_,fb_,fb_,fb_,fb_,fb_,fb_,fb_,fb_,fb_,fb_,fb_,fb_,fb_,fb_] rfl rfl (one_of HT_.out (by kernel_rfl)) (by decide) (fun K hK => ?_)
             refine goes_ Try.func40 (by kernel_rfl) rfl #[.slice Ao90 t300.length co90, .agg #[.int .i64 ((rd_T43 t290 x6_2).f0), .int .i64 ((rd_T43 t290 x6_2).f1), .int .i64 ((rd_T43 t290 x6_2).f2), .int .i64 ((rd_T43 t290 x6_2).f3.f0), .int .i64 ((rd_T43 t290 x6_2).f3.f1), .int .i64 ((rd_T43 t290 x6_2).f3.f2)]] (by rfl) rfl rfl (by (try simp only [List.map_toArray, List.map_cons, List.map_nil]); first | done | rfl | (simp only [List.length_drop, List.length_take]; rfl)) ?_
             with_reducible refine (impl_FactHas.calls k2 _ _ t300 ((rd_T43 t290 x6_2).f0) ((rd_T43 t290 x6_2).f1) ((rd_T43 t290 x6_2).f2) ((rd_T43 t290 x6_2).f3.f0) ((rd_T43 t290 x6_2).f3.f1) ((rd_T43 t290 x6_2).f3.f2) true _ ?side1 ?side2 A72.out).mono ?_
             (case side1 => repeat (first | exact (Kd.R_reads' HO_5.out).2.2 | (with_reducible refine Kd.C_alloc ?_ _) | (with_reducible refine Kd.C_drewN ?_ _) | (with_reducible refine Kd.C_drew ?_)))
             (case side2 => exact (Kd.R_reads' HO_5.out).2.1)
             rintro e w91 ⟨rfl, hb⟩
             have HS6_ := pB_ hb (hHeld.2.2.2.2.2.2.1)
             have HS7_ := pB_ hb (hHeld.2.2.2.2.2.2.2.1)
             have HS8_ := pB_ hb (hHeld.2.2.2.2.2.2.2.2.1)
             have HS9_ := pB_ hb (hHeld.2.2.2.2.2.2.2.2.2.1)
             have HS10_ := pB_ hb (hHeld.2.2.2.2.2.2.2.2.2.2.1)
             have HS11_ := pB_ hb (hHeld.2.2.2.2.2.2.2.2.2.2.2.1)
             have HS12_ := pB_ hb (hHeld.2.2.2.2.2.2.2.2.2.2.2.2.1)
             have HS13_ := pB_ hb (hHeld.2.2.2.2.2.2.2.2.2.2.2.2.2.1)
             have HS14_ := pB_ hb (hHeld.2.2.2.2.2.2.2.2.2.2.2.2.2.2.1)
             have HS15_ := pB_ hb (hHeld.2.2.2.2.2.2.2.2.2.2.2.2.2.2.2.1)
             have HS16_ := pB_ hb (hHeld.2.2.2.2.2.2.2.2.2.2.2.2.2.2.2.2.1)
             have HS17_ := pB_ hb (hHeld.2.2.2.2.2.2.2.2.2.2.2.2.2.2.2.2.2.1)
             have HS18_ := pB_ hb (hHeld.2.2.2.2.2.2.2.2.2.2.2.2.2.2.2.2.2.2.1)
             have HS19_ := pB_ hb (hHeld.2.2.2.2.2.2.2.2.2.2.2.2.2.2.2.2.2.2.2.1)
             have HS20_ := pB_ hb (hHeld.2.2.2.2.2.2.2.2.2.2.2.2.2.2.2.2.2.2.2.2.1)
             have HS21_ := pB_ hb (hHeld.2.2.2.2.2.2.2.2.2.2.2.2.2.2.2.2.2.2.2.2.2.1)
             have HS22_ := pB_ hb (hHeld.2.2.2.2.2.2.2.2.2.2.2.2.2.2.2.2.2.2.2.2.2.2.1)
             have HS23_ := pB_ hb (hHeld.2.2.2.2.2.2.2.2.2.2.2.2.2.2.2.2.2.2.2.2.2.2.2.1)
             have HS24_ := pB_ hb (hHeld.2.2.2.2.2.2.2.2.2.2.2.2.2.2.2.2.2.2.2.2.2.2.2.2.1)
             have HS25_ := pB_ hb (hHeld.2.2.2.2.2.2.2.2.2.2.2.2.2.2.2.2.2.2.2.2.2.2.2.2.2.1)
             have HS26_ := pB_ hb (hHeld.2.2.2.2.2.2.2.2.2.2.2.2.2.2.2.2.2.2.2.2.2.2.2.2.2.2.1)
             have HS27_ := pB_ hb (hHeld.2.2.2.2.2.2.2.2.2.2.2.2.2.2.2.2.2.2.2.2.2.2.2.2.2.2.2.1)
             have HS28_ := pB_ hb (hHeld.2.2.2.2.2.2.2.2.2.2.2.2.2.2.2.2.2.2.2.2.2.2.2.2.2.2.2.2.1)
             have HS29_ := pB_ hb (hHeld.2.2.2.2.2.2.2.2.2.2.2.2.2.2.2.2.2.2.2.2.2.2.2.2.2.2.2.2.2)
             refine ⟨_, rfl, ?_⟩
             have n0_ := Ad_.mk (Kd.R_below (by (with_reducible repeat (first | apply Kd.R_alloc | apply Kd.R_drewN | apply Kd.R_drew)); exact HO_3.out) hb)
             have n1_ := Ad_.mk (Kd.R_below (by (with_reducible repeat (first | apply Kd.R_alloc | apply Kd.R_drewN | apply Kd.R_drew)); exact HO_5.out) hb)
             have n2_ := Ad_.mk (blk_below (g := gb299) (o := .cells #[.int .i64 t293, .int .i64 t294, .int .i64 t295, .int .i64 t296, .int .i64 t297, .int .i64 t298] 43 (0, 0)) (by (with_reducible repeat (first | refine kN_ ?_ _ | refine k1_ ?_ | refine kA_ ?_ _)); exact BK299.out) hb)
             have n3_ := Ad_.mk (bP_ (by repeat (with_reducible first | exact HB.out | apply bA_ | apply bN_ | apply b1_ | refine bS_ ?_ GE299.out)) hb)
             clear HO_3
             clear HO_5
             clear BK299
             clear HB
             have HO_3 := n0_
             have HO_5 := n1_
             have BK299 := n2_
             have HB := n3_
             clear n0_ n1_ n2_ n3_
             (try clear hb)
             (try clear hb2)
             (try clear hk)
             (try clear hi)
             refine hK.out _ _ ⟨(kC_ BK299.out 0).trans rfl, (kC_ BK299.out 1).trans rfl, (kC_ BK299.out 2).trans rfl, (kC_ BK299.out 3).trans rfl, (kC_ BK299.out 4).trans rfl, (kC_ BK299.out 5).trans rfl, HS6_, HS7_, HS8_, HS9_, HS10_, HS11_, HS12_, HS13_, HS14_, HS15_, HS16_, HS17_, HS18_, HS19_, HS20_, HS21_, HS22_, HS23_, HS24_, HS25_, HS26_, HS27_, HS28_, HS29_⟩ (fun hHeld => ?_)
             clear hK K
             refine norm_ (a' := ?_) ?_ ?_
             rotate_left
             ·
              show Act.put _ (some 77) _ = _
              simp only [Act.put, List.setIfInBounds_toArray, List.set_cons_zero, List.set_cons_succ, i64_w, i32_w]
              rfl
             refine pu_ (i := 6) (N := some 78) #[tb_,tb_,tb_,tb_,tb_,tb_,tb_,fb_,fb_,fb_,fb_,fb_,fb_,fb_,fb_,fb_,fb_,fb_,fb_,fb_,fb_,fb_,fb_,fb_,fb_,fb_,fb_,fb_,fb_,fb_,fb_,fb_,fb_,fb_] (any_of HT_.out (by kernel_rfl)) ?_
             refine pu_ (i := 7) (N := some 79) #[tb_,tb_,tb_,tb_,tb_,tb_,tb_,tb_,fb_,fb_,fb_,fb_,fb_,fb_,fb_,fb_,fb_,fb_,fb_,fb_,fb_,fb_,fb_,fb_,fb_,fb_,fb_,fb_,fb_,fb_,fb_,fb_,fb_,fb_] (any_of HT_.out (by kernel_rfl)) ?_
             refine pu_ (i := 8) (N := some 80) #[tb_,tb_,tb_,tb_,tb_,tb_,tb_,tb_,tb_,fb_,fb_,fb_,fb_,fb_,fb_,fb_,fb_,fb_,fb_,fb_,fb_,fb_,fb_,fb_,fb_,fb_,fb_,fb_,fb_,fb_,fb_,fb_,fb_,fb_] (any_of HT_.out (by kernel_rfl)) ?_
             refine pu_ (i := 9) (N := some 81) #[tb_,tb_,tb_,tb_,tb_,tb_,tb_,tb_,tb_,tb_,fb_,fb_,fb_,fb_,fb_,fb_,fb_,fb_,fb_,fb_,fb_,fb_,fb_,fb_,fb_,fb_,fb_,fb_,fb_,fb_,fb_,fb_,fb_,fb_] (any_of HT_.out (by kernel_rfl)) ?_
             refine pu_ (i := 10) (N := some 82) #[tb_,tb_,tb_,tb_,tb_,tb_,tb_,tb_,tb_,tb_,tb_,fb_,fb_,fb_,fb_,fb_,fb_,fb_,fb_,fb_,fb_,fb_,fb_,fb_,fb_,fb_,fb_,fb_,fb_,fb_,fb_,fb_,fb_,fb_] (any_of HT_.out (by kernel_rfl)) ?_
             refine pu_ (i := 12) (N := some 84) #[tb_,tb_,tb_,tb_,tb_,tb_,tb_,tb_,tb_,tb_,tb_,fb_,tb_,fb_,fb_,fb_,fb_,fb_,fb_,fb_,fb_,fb_,fb_,fb_,fb_,fb_,fb_,fb_,fb_,fb_,fb_,fb_,fb_,fb_] (any_of HT_.out (by kernel_rfl)) ?_
             refine pu_ (i := 13) (N := some 85) #[tb_,tb_,tb_,tb_,tb_,tb_,tb_,tb_,tb_,tb_,tb_,fb_,tb_,tb_,fb_,fb_,fb_,fb_,fb_,fb_,fb_,fb_,fb_,fb_,fb_,fb_,fb_,fb_,fb_,fb_,fb_,fb_,fb_,fb_] (any_of HT_.out (by kernel_rfl)) ?_
             refine pu_ (i := 14) (N := some 86) #[tb_,tb_,tb_,tb_,tb_,tb_,tb_,tb_,tb_,tb_,tb_,fb_,tb_,tb_,tb_,fb_,fb_,fb_,fb_,fb_,fb_,fb_,fb_,fb_,fb_,fb_,fb_,fb_,fb_,fb_,fb_,fb_,fb_,fb_] (any_of HT_.out (by kernel_rfl)) ?_
             refine take_ (i := 11) (N := some 83) (v := ?_) (a' := ?_) #[tb_,tb_,tb_,tb_,tb_,tb_,tb_,tb_,tb_,tb_,tb_,tb_,tb_,tb_,tb_,fb_,fb_,fb_,fb_,fb_,fb_,fb_,fb_,fb_,fb_,fb_,fb_,fb_,fb_,fb_,fb_,fb_,fb_,fb_] rfl rfl (take_ofW HT_.out HW_.out (by kernel_rfl)) (fun _ _ _ h => h) (Or.inl ⟨by rfl, ?_⟩) hHeld ?_ ?_
             rotate_left
             ·
              rintro w' ⟨s0, s1, s2, s3, s4, s5, s6, s7, s8, s9, s10, s11, s12, s13, s14, s15, s16, s17, s18, s19, s20, s21, s22, s23, s24, s25, s26, s27, s28, s29⟩
              go_simp
              with_reducible rfl
             rotate_left
             ·
              simp only [Act.put, List.setIfInBounds_toArray, List.set_cons_zero, List.set_cons_succ, i64_w, i32_w]
              rfl
             refine take_ (i := 15) (N := some 87) (v := ?_) (a' := ?_) #[tb_,tb_,tb_,tb_,tb_,tb_,tb_,tb_,tb_,tb_,tb_,tb_,tb_,tb_,tb_,tb_,fb_,fb_,fb_,fb_,fb_,fb_,fb_,fb_,fb_,fb_,fb_,fb_,fb_,fb_,fb_,fb_,fb_,fb_] rfl rfl (take_ofW HT_.out HW_.out (by kernel_rfl)) (fun _ _ _ h => h) (Or.inl ⟨by rfl, ?_⟩) hHeld ?_ ?_
             rotate_left
             ·
              rintro w' ⟨s0, s1, s2, s3, s4, s5, s6, s7, s8, s9, s10, s11, s12, s13, s14, s15, s16, s17, s18, s19, s20, s21, s22, s23, s24, s25, s26, s27, s28, s29⟩
              go_simp
              with_reducible rfl
             rotate_left
             ·
              simp only [Act.put, List.setIfInBounds_toArray, List.set_cons_zero, List.set_cons_succ, i64_w, i32_w]
              rfl
             refine one_ (i := 16) (N := some 88) #[tb_,tb_,tb_,tb_,tb_,tb_,tb_,tb_,tb_,tb_,tb_,tb_,tb_,tb_,tb_,tb_,tb_,fb_,fb_,fb_,fb_,fb_,fb_,fb_,fb_,fb_,fb_,fb_,fb_,fb_,fb_,fb_,fb_,fb_] rfl rfl (one_of HT_.out (by kernel_rfl)) (by decide) (fun K hK => ?_)
             refine goes_ Try.func28 (by kernel_rfl) rfl #[.agg #[.int .i64 ((rd_T43 t290 x6_2).f0), .int .i64 ((rd_T43 t290 x6_2).f1), .int .i64 ((rd_T43 t290 x6_2).f2), .int .i64 ((rd_T43 t290 x6_2).f3.f0), .int .i64 ((rd_T43 t290 x6_2).f3.f1), .int .i64 ((rd_T43 t290 x6_2).f3.f2)], .agg #[.int .i64 ((rd_T43 t290 x6_2).f0), .int .i64 ((rd_T43 t290 x6_2).f1), .int .i64 ((rd_T43 t290 x6_2).f2), .int .i64 ((rd_T43 t290 x6_2).f3.f0), .int .i64 ((rd_T43 t290 x6_2).f3.f1), .int .i64 ((rd_T43 t290 x6_2).f3.f2)]] (by rfl) rfl rfl (by (try simp only [List.map_toArray, List.map_cons, List.map_nil]); first | done | rfl | (simp only [List.length_drop, List.length_take]; rfl)) ?_
             with_reducible refine (impl_FactLess.calls k2 ((rd_T43 t290 x6_2).f0) ((rd_T43 t290 x6_2).f1) ((rd_T43 t290 x6_2).f2) ((rd_T43 t290 x6_2).f3.f0) ((rd_T43 t290 x6_2).f3.f1) ((rd_T43 t290 x6_2).f3.f2) ((rd_T43 t290 x6_2).f0) ((rd_T43 t290 x6_2).f1) ((rd_T43 t290 x6_2).f2) ((rd_T43 t290 x6_2).f3.f0) ((rd_T43 t290 x6_2).f3.f1) ((rd_T43 t290 x6_2).f3.f2) false _ A74.out).mono ?_
             rintro e w92 ⟨rfl, hb⟩
             have HS6_ := pB_ hb (hHeld.2.2.2.2.2.2.1)
             have HS7_ := pB_ hb (hHeld.2.2.2.2.2.2.2.1)
             have HS8_ := pB_ hb (hHeld.2.2.2.2.2.2.2.2.1)
             have HS9_ := pB_ hb (hHeld.2.2.2.2.2.2.2.2.2.1)
             have HS10_ := pB_ hb (hHeld.2.2.2.2.2.2.2.2.2.2.1)
             have HS11_ := pB_ hb (hHeld.2.2.2.2.2.2.2.2.2.2.2.1)
             have HS12_ := pB_ hb (hHeld.2.2.2.2.2.2.2.2.2.2.2.2.1)
             have HS13_ := pB_ hb (hHeld.2.2.2.2.2.2.2.2.2.2.2.2.2.1)
             have HS14_ := pB_ hb (hHeld.2.2.2.2.2.2.2.2.2.2.2.2.2.2.1)
             have HS15_ := pB_ hb (hHeld.2.2.2.2.2.2.2.2.2.2.2.2.2.2.2.1)
             have HS16_ := pB_ hb (hHeld.2.2.2.2.2.2.2.2.2.2.2.2.2.2.2.2.1)
             have HS17_ := pB_ hb (hHeld.2.2.2.2.2.2.2.2.2.2.2.2.2.2.2.2.2.1)
             have HS18_ := pB_ hb (hHeld.2.2.2.2.2.2.2.2.2.2.2.2.2.2.2.2.2.2.1)
             have HS19_ := pB_ hb (hHeld.2.2.2.2.2.2.2.2.2.2.2.2.2.2.2.2.2.2.2.1)
             have HS20_ := pB_ hb (hHeld.2.2.2.2.2.2.2.2.2.2.2.2.2.2.2.2.2.2.2.2.1)
             have HS21_ := pB_ hb (hHeld.2.2.2.2.2.2.2.2.2.2.2.2.2.2.2.2.2.2.2.2.2.1)
             have HS22_ := pB_ hb (hHeld.2.2.2.2.2.2.2.2.2.2.2.2.2.2.2.2.2.2.2.2.2.2.1)
             have HS23_ := pB_ hb (hHeld.2.2.2.2.2.2.2.2.2.2.2.2.2.2.2.2.2.2.2.2.2.2.2.1)
             have HS24_ := pB_ hb (hHeld.2.2.2.2.2.2.2.2.2.2.2.2.2.2.2.2.2.2.2.2.2.2.2.2.1)
             have HS25_ := pB_ hb (hHeld.2.2.2.2.2.2.2.2.2.2.2.2.2.2.2.2.2.2.2.2.2.2.2.2.2.1)
             have HS26_ := pB_ hb (hHeld.2.2.2.2.2.2.2.2.2.2.2.2.2.2.2.2.2.2.2.2.2.2.2.2.2.2.1)
             have HS27_ := pB_ hb (hHeld.2.2.2.2.2.2.2.2.2.2.2.2.2.2.2.2.2.2.2.2.2.2.2.2.2.2.2.1)
             have HS28_ := pB_ hb (hHeld.2.2.2.2.2.2.2.2.2.2.2.2.2.2.2.2.2.2.2.2.2.2.2.2.2.2.2.2.1)
             have HS29_ := pB_ hb (hHeld.2.2.2.2.2.2.2.2.2.2.2.2.2.2.2.2.2.2.2.2.2.2.2.2.2.2.2.2.2)
             refine ⟨_, rfl, ?_⟩
             have n0_ := Ad_.mk (Kd.R_below (by (with_reducible repeat (first | apply Kd.R_alloc | apply Kd.R_drewN | apply Kd.R_drew)); exact HO_3.out) hb)
             have n1_ := Ad_.mk (Kd.R_below (by (with_reducible repeat (first | apply Kd.R_alloc | apply Kd.R_drewN | apply Kd.R_drew)); exact HO_5.out) hb)
             have n2_ := Ad_.mk (blk_below (g := gb299) (o := .cells #[.int .i64 t293, .int .i64 t294, .int .i64 t295, .int .i64 t296, .int .i64 t297, .int .i64 t298] 43 (0, 0)) (by (with_reducible repeat (first | refine kN_ ?_ _ | refine k1_ ?_ | refine kA_ ?_ _)); exact BK299.out) hb)
             have n3_ := Ad_.mk (bP_ (by repeat (with_reducible first | exact HB.out | apply bA_ | apply bN_ | apply b1_ | refine bS_ ?_ GE299.out)) hb)
             clear HO_3
             clear HO_5
             clear BK299
             clear HB
             have HO_3 := n0_
             have HO_5 := n1_
             have BK299 := n2_
             have HB := n3_
             clear n0_ n1_ n2_ n3_
             (try clear hb)
             (try clear hb2)
             (try clear hk)
             (try clear hi)
             refine hK.out _ _ ⟨(kC_ BK299.out 0).trans rfl, (kC_ BK299.out 1).trans rfl, (kC_ BK299.out 2).trans rfl, (kC_ BK299.out 3).trans rfl, (kC_ BK299.out 4).trans rfl, (kC_ BK299.out 5).trans rfl, HS6_, HS7_, HS8_, HS9_, HS10_, HS11_, HS12_, HS13_, HS14_, HS15_, HS16_, HS17_, HS18_, HS19_, HS20_, HS21_, HS22_, HS23_, HS24_, HS25_, HS26_, HS27_, HS28_, HS29_⟩ (fun hHeld => ?_)
             clear hK K
             refine norm_ (a' := ?_) ?_ ?_
             rotate_left
             ·
              show Act.put _ (some 88) _ = _
              simp only [Act.put, List.setIfInBounds_toArray, List.set_cons_zero, List.set_cons_succ, i64_w, i32_w]
              rfl
             refine pu_ (i := 17) (N := some 89) #[tb_,tb_,tb_,tb_,tb_,tb_,tb_,tb_,tb_,tb_,tb_,tb_,tb_,tb_,tb_,tb_,tb_,tb_,fb_,fb_,fb_,fb_,fb_,fb_,fb_,fb_,fb_,fb_,fb_,fb_,fb_,fb_,fb_,fb_] (any_of HT_.out (by kernel_rfl)) ?_
             refine pu_ (i := 18) (N := some 90) #[tb_,tb_,tb_,tb_,tb_,tb_,tb_,tb_,tb_,tb_,tb_,tb_,tb_,tb_,tb_,tb_,tb_,tb_,tb_,fb_,fb_,fb_,fb_,fb_,fb_,fb_,fb_,fb_,fb_,fb_,fb_,fb_,fb_,fb_] (any_of HT_.out (by kernel_rfl)) ?_
             refine pu_ (i := 20) (N := some 92) #[tb_,tb_,tb_,tb_,tb_,tb_,tb_,tb_,tb_,tb_,tb_,tb_,tb_,tb_,tb_,tb_,tb_,tb_,tb_,fb_,tb_,fb_,fb_,fb_,fb_,fb_,fb_,fb_,fb_,fb_,fb_,fb_,fb_,fb_] (any_of HT_.out (by kernel_rfl)) ?_
             refine pu_ (i := 21) (N := some 93) #[tb_,tb_,tb_,tb_,tb_,tb_,tb_,tb_,tb_,tb_,tb_,tb_,tb_,tb_,tb_,tb_,tb_,tb_,tb_,fb_,tb_,tb_,fb_,fb_,fb_,fb_,fb_,fb_,fb_,fb_,fb_,fb_,fb_,fb_] (any_of HT_.out (by kernel_rfl)) ?_
             refine pu_ (i := 22) (N := some 94) #[tb_,tb_,tb_,tb_,tb_,tb_,tb_,tb_,tb_,tb_,tb_,tb_,tb_,tb_,tb_,tb_,tb_,tb_,tb_,fb_,tb_,tb_,tb_,fb_,fb_,fb_,fb_,fb_,fb_,fb_,fb_,fb_,fb_,fb_] (any_of HT_.out (by kernel_rfl)) ?_
             refine take_ (i := 19) (N := some 91) (v := ?_) (a' := ?_) #[tb_,tb_,tb_,tb_,tb_,tb_,tb_,tb_,tb_,tb_,tb_,tb_,tb_,tb_,tb_,tb_,tb_,tb_,tb_,tb_,tb_,tb_,tb_,fb_,fb_,fb_,fb_,fb_,fb_,fb_,fb_,fb_,fb_,fb_] rfl rfl (take_ofW HT_.out HW_.out (by kernel_rfl)) (fun _ _ _ h => h) (Or.inl ⟨by rfl, ?_⟩) hHeld ?_ ?_
             rotate_left
             ·
              rintro w' ⟨s0, s1, s2, s3, s4, s5, s6, s7, s8, s9, s10, s11, s12, s13, s14, s15, s16, s17, s18, s19, s20, s21, s22, s23, s24, s25, s26, s27, s28, s29⟩
              go_simp
              with_reducible rfl
             rotate_left
             ·
              simp only [Act.put, List.setIfInBounds_toArray, List.set_cons_zero, List.set_cons_succ, i64_w, i32_w]
              rfl
             refine take_ (i := 23) (N := some 95) (v := ?_) (a' := ?_) #[tb_,tb_,tb_,tb_,tb_,tb_,tb_,tb_,tb_,tb_,tb_,tb_,tb_,tb_,tb_,tb_,tb_,tb_,tb_,tb_,tb_,tb_,tb_,tb_,fb_,fb_,fb_,fb_,fb_,fb_,fb_,fb_,fb_,fb_] rfl rfl (take_ofW HT_.out HW_.out (by kernel_rfl)) (fun _ _ _ h => h) (Or.inl ⟨by rfl, ?_⟩) hHeld ?_ ?_
             rotate_left
             ·
              rintro w' ⟨s0, s1, s2, s3, s4, s5, s6, s7, s8, s9, s10, s11, s12, s13, s14, s15, s16, s17, s18, s19, s20, s21, s22, s23, s24, s25, s26, s27, s28, s29⟩
              go_simp
              with_reducible rfl
             rotate_left
             ·
              simp only [Act.put, List.setIfInBounds_toArray, List.set_cons_zero, List.set_cons_succ, i64_w, i32_w]
              rfl
             refine one_ (i := 24) (N := some 96) #[tb_,tb_,tb_,tb_,tb_,tb_,tb_,tb_,tb_,tb_,tb_,tb_,tb_,tb_,tb_,tb_,tb_,tb_,tb_,tb_,tb_,tb_,tb_,tb_,tb_,fb_,fb_,fb_,fb_,fb_,fb_,fb_,fb_,fb_] rfl rfl (one_of HT_.out (by kernel_rfl)) (by decide) (fun K hK => ?_)
             refine goes_ Try.func28 (by kernel_rfl) rfl #[.agg #[.int .i64 t293, .int .i64 t294, .int .i64 t295, .int .i64 t296, .int .i64 t297, .int .i64 t298], .agg #[.int .i64 ((rd_T43 t290 x6_2).f0), .int .i64 ((rd_T43 t290 x6_2).f1), .int .i64 ((rd_T43 t290 x6_2).f2), .int .i64 ((rd_T43 t290 x6_2).f3.f0), .int .i64 ((rd_T43 t290 x6_2).f3.f1), .int .i64 ((rd_T43 t290 x6_2).f3.f2)]] (by rfl) rfl rfl (by (try simp only [List.map_toArray, List.map_cons, List.map_nil]); first | done | rfl | (simp only [List.length_drop, List.length_take]; rfl)) ?_
             with_reducible refine (impl_FactLess.calls k2 t293 t294 t295 t296 t297 t298 ((rd_T43 t290 x6_2).f0) ((rd_T43 t290 x6_2).f1) ((rd_T43 t290 x6_2).f2) ((rd_T43 t290 x6_2).f3.f0) ((rd_T43 t290 x6_2).f3.f1) ((rd_T43 t290 x6_2).f3.f2) false _ A80.out).mono ?_
             rintro e w93 ⟨rfl, hb⟩
             have HS6_ := pB_ hb (hHeld.2.2.2.2.2.2.1)
             have HS7_ := pB_ hb (hHeld.2.2.2.2.2.2.2.1)
             have HS8_ := pB_ hb (hHeld.2.2.2.2.2.2.2.2.1)
             have HS9_ := pB_ hb (hHeld.2.2.2.2.2.2.2.2.2.1)
             have HS10_ := pB_ hb (hHeld.2.2.2.2.2.2.2.2.2.2.1)
             have HS11_ := pB_ hb (hHeld.2.2.2.2.2.2.2.2.2.2.2.1)
             have HS12_ := pB_ hb (hHeld.2.2.2.2.2.2.2.2.2.2.2.2.1)
             have HS13_ := pB_ hb (hHeld.2.2.2.2.2.2.2.2.2.2.2.2.2.1)
             have HS14_ := pB_ hb (hHeld.2.2.2.2.2.2.2.2.2.2.2.2.2.2.1)
             have HS15_ := pB_ hb (hHeld.2.2.2.2.2.2.2.2.2.2.2.2.2.2.2.1)
             have HS16_ := pB_ hb (hHeld.2.2.2.2.2.2.2.2.2.2.2.2.2.2.2.2.1)
             have HS17_ := pB_ hb (hHeld.2.2.2.2.2.2.2.2.2.2.2.2.2.2.2.2.2.1)
             have HS18_ := pB_ hb (hHeld.2.2.2.2.2.2.2.2.2.2.2.2.2.2.2.2.2.2.1)
             have HS19_ := pB_ hb (hHeld.2.2.2.2.2.2.2.2.2.2.2.2.2.2.2.2.2.2.2.1)
             have HS20_ := pB_ hb (hHeld.2.2.2.2.2.2.2.2.2.2.2.2.2.2.2.2.2.2.2.2.1)
             have HS21_ := pB_ hb (hHeld.2.2.2.2.2.2.2.2.2.2.2.2.2.2.2.2.2.2.2.2.2.1)
             have HS22_ := pB_ hb (hHeld.2.2.2.2.2.2.2.2.2.2.2.2.2.2.2.2.2.2.2.2.2.2.1)
             have HS23_ := pB_ hb (hHeld.2.2.2.2.2.2.2.2.2.2.2.2.2.2.2.2.2.2.2.2.2.2.2.1)
             have HS24_ := pB_ hb (hHeld.2.2.2.2.2.2.2.2.2.2.2.2.2.2.2.2.2.2.2.2.2.2.2.2.1)
             have HS25_ := pB_ hb (hHeld.2.2.2.2.2.2.2.2.2.2.2.2.2.2.2.2.2.2.2.2.2.2.2.2.2.1)
             have HS26_ := pB_ hb (hHeld.2.2.2.2.2.2.2.2.2.2.2.2.2.2.2.2.2.2.2.2.2.2.2.2.2.2.1)
             have HS27_ := pB_ hb (hHeld.2.2.2.2.2.2.2.2.2.2.2.2.2.2.2.2.2.2.2.2.2.2.2.2.2.2.2.1)
             have HS28_ := pB_ hb (hHeld.2.2.2.2.2.2.2.2.2.2.2.2.2.2.2.2.2.2.2.2.2.2.2.2.2.2.2.2.1)
             have HS29_ := pB_ hb (hHeld.2.2.2.2.2.2.2.2.2.2.2.2.2.2.2.2.2.2.2.2.2.2.2.2.2.2.2.2.2)
             refine ⟨_, rfl, ?_⟩
             have n0_ := Ad_.mk (Kd.R_below (by (with_reducible repeat (first | apply Kd.R_alloc | apply Kd.R_drewN | apply Kd.R_drew)); exact HO_3.out) hb)
             have n1_ := Ad_.mk (Kd.R_below (by (with_reducible repeat (first | apply Kd.R_alloc | apply Kd.R_drewN | apply Kd.R_drew)); exact HO_5.out) hb)
             have n2_ := Ad_.mk (blk_below (g := gb299) (o := .cells #[.int .i64 t293, .int .i64 t294, .int .i64 t295, .int .i64 t296, .int .i64 t297, .int .i64 t298] 43 (0, 0)) (by (with_reducible repeat (first | refine kN_ ?_ _ | refine k1_ ?_ | refine kA_ ?_ _)); exact BK299.out) hb)
             have n3_ := Ad_.mk (bP_ (by repeat (with_reducible first | exact HB.out | apply bA_ | apply bN_ | apply b1_ | refine bS_ ?_ GE299.out)) hb)
             clear HO_3
             clear HO_5
             clear BK299
             clear HB
             have HO_3 := n0_
             have HO_5 := n1_
             have BK299 := n2_
             have HB := n3_
             clear n0_ n1_ n2_ n3_
             (try clear hb)
             (try clear hb2)
             (try clear hk)
             (try clear hi)
             refine hK.out _ _ ⟨(kC_ BK299.out 0).trans rfl, (kC_ BK299.out 1).trans rfl, (kC_ BK299.out 2).trans rfl, (kC_ BK299.out 3).trans rfl, (kC_ BK299.out 4).trans rfl, (kC_ BK299.out 5).trans rfl, HS6_, HS7_, HS8_, HS9_, HS10_, HS11_, HS12_, HS13_, HS14_, HS15_, HS16_, HS17_, HS18_, HS19_, HS20_, HS21_, HS22_, HS23_, HS24_, HS25_, HS26_, HS27_, HS28_, HS29_⟩ (fun hHeld => ?_)
             clear hK K
             refine norm_ (a' := ?_) ?_ ?_
             rotate_left
             ·
              show Act.put _ (some 96) _ = _
              simp only [Act.put, List.setIfInBounds_toArray, List.set_cons_zero, List.set_cons_succ, i64_w, i32_w]
              rfl
             refine pu_ (i := 25) (N := some 97) #[tb_,tb_,tb_,tb_,tb_,tb_,tb_,tb_,tb_,tb_,tb_,tb_,tb_,tb_,tb_,tb_,tb_,tb_,tb_,tb_,tb_,tb_,tb_,tb_,tb_,tb_,fb_,fb_,fb_,fb_,fb_,fb_,fb_,fb_] (any_of HT_.out (by kernel_rfl)) ?_
             refine pv_ (i := 26) (N := some 98) #[tb_,tb_,tb_,tb_,tb_,tb_,tb_,tb_,tb_,tb_,tb_,tb_,tb_,tb_,tb_,tb_,tb_,tb_,tb_,tb_,tb_,tb_,tb_,tb_,tb_,tb_,tb_,fb_,fb_,fb_,fb_,fb_,fb_,fb_] (any_of HT_.out (by kernel_rfl)) ?_
             refine pv_ (i := 27) (N := some 99) #[tb_,tb_,tb_,tb_,tb_,tb_,tb_,tb_,tb_,tb_,tb_,tb_,tb_,tb_,tb_,tb_,tb_,tb_,tb_,tb_,tb_,tb_,tb_,tb_,tb_,tb_,tb_,tb_,fb_,fb_,fb_,fb_,fb_,fb_] (any_of HT_.out (by kernel_rfl)) ?_
             refine pv_ (i := 28) (N := some 100) #[tb_,tb_,tb_,tb_,tb_,tb_,tb_,tb_,tb_,tb_,tb_,tb_,tb_,tb_,tb_,tb_,tb_,tb_,tb_,tb_,tb_,tb_,tb_,tb_,tb_,tb_,tb_,tb_,tb_,fb_,fb_,fb_,fb_,fb_] (any_of HT_.out (by kernel_rfl)) ?_
             refine pv_ (i := 29) (N := some 101) #[tb_,tb_,tb_,tb_,tb_,tb_,tb_,tb_,tb_,tb_,tb_,tb_,tb_,tb_,tb_,tb_,tb_,tb_,tb_,tb_,tb_,tb_,tb_,tb_,tb_,tb_,tb_,tb_,tb_,tb_,fb_,fb_,fb_,fb_] (any_of HT_.out (by kernel_rfl)) ?_
             refine pv_ (i := 30) (N := some 102) #[tb_,tb_,tb_,tb_,tb_,tb_,tb_,tb_,tb_,tb_,tb_,tb_,tb_,tb_,tb_,tb_,tb_,tb_,tb_,tb_,tb_,tb_,tb_,tb_,tb_,tb_,tb_,tb_,tb_,tb_,tb_,fb_,fb_,fb_] (any_of HT_.out (by kernel_rfl)) ?_
             refine pv_ (i := 31) (N := some 103) #[tb_,tb_,tb_,tb_,tb_,tb_,tb_,tb_,tb_,tb_,tb_,tb_,tb_,tb_,tb_,tb_,tb_,tb_,tb_,tb_,tb_,tb_,tb_,tb_,tb_,tb_,tb_,tb_,tb_,tb_,tb_,tb_,fb_,fb_] (any_of HT_.out (by kernel_rfl)) ?_
             refine pu_ (i := 32) (N := some 104) #[tb_,tb_,tb_,tb_,tb_,tb_,tb_,tb_,tb_,tb_,tb_,tb_,tb_,tb_,tb_,tb_,tb_,tb_,tb_,tb_,tb_,tb_,tb_,tb_,tb_,tb_,tb_,tb_,tb_,tb_,tb_,tb_,tb_,fb_] (any_of HT_.out (by kernel_rfl)) ?_
             refine pu_ (i := 33) (N := some 105) #[tb_,tb_,tb_,tb_,tb_,tb_,tb_,tb_,tb_,tb_,tb_,tb_,tb_,tb_,tb_,tb_,tb_,tb_,tb_,tb_,tb_,tb_,tb_,tb_,tb_,tb_,tb_,tb_,tb_,tb_,tb_,tb_,tb_,tb_] (any_of HT_.out (by kernel_rfl)) ?_
             refine done_ (done_of HT_.out (by kernel_rfl)) ?_
             try go_wp2
             go_meet
             case rel => exact ⟨_, (false), fs_, H', ⟨by have := HJ7.out; have := HK2.out; first | omega | exact Nat.le_refl _⟩, ⟨by (with_reducible repeat (first | apply Kd.R_alloc | apply Kd.R_drewN | apply Kd.R_drew)); exact HO_3.out⟩, ⟨by (with_reducible repeat (first | apply Kd.R_alloc | apply Kd.R_drewN | apply Kd.R_drew)); exact HO_5.out⟩, ⟨by (with_reducible repeat (first | refine kN_ ?_ _ | refine k1_ ?_ | refine kA_ ?_ _)); exact BK299.out⟩, ⟨by repeat (with_reducible first | exact HB.out | apply bA_ | apply bN_ | apply b1_ | refine bS_ ?_ GE299.out)⟩⟩
            subst c81
            have H1 := H
            rw [if_pos rfl] at H1
            clear H
            have H := H1
            clear H1
            replace H := Option.bind_eq_some_iff.mp H
            obtain ⟨t321, A820, H⟩ := H
            try dsimp only at H
            have A82 := Ad_.mk A820
            clear A820
            have H' := Ad_.mk H
            clear H
            try go_wp2
            have n0_ := Ad_.mk (Kd.R_drew HO_3.out)
            have n1_ := Ad_.mk (Kd.R_drew HO_5.out)
            have n2_ := Ad_.mk (k1_ BK299.out)
            have n3_ := Ad_.mk (b1_ HB.out)
            clear HO_3
            clear HO_5
            clear BK299
            clear HB
            have HO_3 := n0_
            have HO_5 := n1_
            have BK299 := n2_
            have HB := n3_
            clear n0_ n1_ n2_ n3_
            have p313 : 0 ≤ (x6_2 : Int) := od_
            have q313 : x6_2 < (t290.length : Int) := od_
            obtain ⟨ad313, e313, hx313_0, hx313_1, hx313_2, hx313_3, hx313_4, hx313_5⟩ := at_T43 (Kd.R_reads' HO_3.out).2.2 x6_2 p313 q313
            cases e313
            replace p313 := eq_true p313
            replace q313 := eq_true q313
            obtain ⟨Ao84, co84, eo84⟩ := Kd.R_slice HO_5.out
            (first | subst eo84 | (injection eo84 with f1_ f2_ f3_; have f4_ := f1_.symm; have f5_ := f3_.symm; clear f1_ f2_ f3_; subst f4_; subst f5_))
            have p315 : 0 ≤ (x6_2 : Int) := od_
            have q315 : x6_2 < (t290.length : Int) := od_
            obtain ⟨ad315, e315, hx315_0, hx315_1, hx315_2, hx315_3, hx315_4, hx315_5⟩ := at_T43 (Kd.R_reads' HO_3.out).2.2 x6_2 p315 q315
            obtain rfl : ad313 = ad315 := (by injection e315)
            replace p315 := eq_true p315
            replace q315 := eq_true q315
            have p316 : 0 ≤ (x6_2 : Int) := od_
            have q316 : x6_2 < (t290.length : Int) := od_
            obtain ⟨ad316, e316, hx316_0, hx316_1, hx316_2, hx316_3, hx316_4, hx316_5⟩ := at_T43 (Kd.R_reads' HO_3.out).2.2 x6_2 p316 q316
            obtain rfl : ad313 = ad316 := (by injection e316)
            replace p316 := eq_true p316
            replace q316 := eq_true q316
            have p318 : 0 ≤ (x6_2 : Int) := od_
            have q318 : x6_2 < (t290.length : Int) := od_
            obtain ⟨ad318, e318, hx318_0, hx318_1, hx318_2, hx318_3, hx318_4, hx318_5⟩ := at_T43 (Kd.R_reads' HO_3.out).2.2 x6_2 p318 q318
            obtain rfl : ad313 = ad318 := (by injection e318)
            replace p318 := eq_true p318
            replace q318 := eq_true q318
            have p320 : 0 ≤ (x6_2 : Int) := od_
            have q320 : x6_2 < (t290.length : Int) := od_
            obtain ⟨ad320, e320, hx320_0, hx320_1, hx320_2, hx320_3, hx320_4, hx320_5⟩ := at_T43 (Kd.R_reads' HO_3.out).2.2 x6_2 p320 q320
            obtain rfl : ad313 = ad320 := (by injection e320)
            replace p320 := eq_true p320
            replace q320 := eq_true q320
            refine start_ (n := 34) (S := fun w' => w'.cell? ⟨gb299, 0, none⟩ = some (.int .i64 t293) ∧ w'.cell? ⟨gb299, 1, none⟩ = some (.int .i64 t294) ∧ w'.cell? ⟨gb299, 2, none⟩ = some (.int .i64 t295) ∧ w'.cell? ⟨gb299, 3, none⟩ = some (.int .i64 t296) ∧ w'.cell? ⟨gb299, 4, none⟩ = some (.int .i64 t297) ∧ w'.cell? ⟨gb299, 5, none⟩ = some (.int .i64 t298) ∧ w'.cell? (ad313.add ((x6_2).toNat * 6)) = some (.int .i64 ((rd_T43 t290 x6_2).f0)) ∧ w'.cell? ⟨(ad313.add ((x6_2).toNat * 6)).block, (ad313.add ((x6_2).toNat * 6)).off + 1, none⟩ = some (.int .i64 ((rd_T43 t290 x6_2).f1)) ∧ w'.cell? ⟨(ad313.add ((x6_2).toNat * 6)).block, (ad313.add ((x6_2).toNat * 6)).off + 2, none⟩ = some (.int .i64 ((rd_T43 t290 x6_2).f2)) ∧ w'.cell? ⟨(ad313.add ((x6_2).toNat * 6)).block, (ad313.add ((x6_2).toNat * 6)).off + 3, none⟩ = some (.int .i64 ((rd_T43 t290 x6_2).f3.f0)) ∧ w'.cell? ⟨(ad313.add ((x6_2).toNat * 6)).block, (ad313.add ((x6_2).toNat * 6)).off + 4, none⟩ = some (.int .i64 ((rd_T43 t290 x6_2).f3.f1)) ∧ w'.cell? ⟨(ad313.add ((x6_2).toNat * 6)).block, (ad313.add ((x6_2).toNat * 6)).off + 5, none⟩ = some (.int .i64 ((rd_T43 t290 x6_2).f3.f2)) ∧ w'.cell? (ad313.add ((x6_2).toNat * 6)) = some (.int .i64 ((rd_T43 t290 x6_2).f0)) ∧ w'.cell? ⟨(ad313.add ((x6_2).toNat * 6)).block, (ad313.add ((x6_2).toNat * 6)).off + 1, none⟩ = some (.int .i64 ((rd_T43 t290 x6_2).f1)) ∧ w'.cell? ⟨(ad313.add ((x6_2).toNat * 6)).block, (ad313.add ((x6_2).toNat * 6)).off + 2, none⟩ = some (.int .i64 ((rd_T43 t290 x6_2).f2)) ∧ w'.cell? ⟨(ad313.add ((x6_2).toNat * 6)).block, (ad313.add ((x6_2).toNat * 6)).off + 3, none⟩ = some (.int .i64 ((rd_T43 t290 x6_2).f3.f0)) ∧ w'.cell? ⟨(ad313.add ((x6_2).toNat * 6)).block, (ad313.add ((x6_2).toNat * 6)).off + 4, none⟩ = some (.int .i64 ((rd_T43 t290 x6_2).f3.f1)) ∧ w'.cell? ⟨(ad313.add ((x6_2).toNat * 6)).block, (ad313.add ((x6_2).toNat * 6)).off + 5, none⟩ = some (.int .i64 ((rd_T43 t290 x6_2).f3.f2)) ∧ w'.cell? (ad313.add ((x6_2).toNat * 6)) = some (.int .i64 ((rd_T43 t290 x6_2).f0)) ∧ w'.cell? ⟨(ad313.add ((x6_2).toNat * 6)).block, (ad313.add ((x6_2).toNat * 6)).off + 1, none⟩ = some (.int .i64 ((rd_T43 t290 x6_2).f1)) ∧ w'.cell? ⟨(ad313.add ((x6_2).toNat * 6)).block, (ad313.add ((x6_2).toNat * 6)).off + 2, none⟩ = some (.int .i64 ((rd_T43 t290 x6_2).f2)) ∧ w'.cell? ⟨(ad313.add ((x6_2).toNat * 6)).block, (ad313.add ((x6_2).toNat * 6)).off + 3, none⟩ = some (.int .i64 ((rd_T43 t290 x6_2).f3.f0)) ∧ w'.cell? ⟨(ad313.add ((x6_2).toNat * 6)).block, (ad313.add ((x6_2).toNat * 6)).off + 4, none⟩ = some (.int .i64 ((rd_T43 t290 x6_2).f3.f1)) ∧ w'.cell? ⟨(ad313.add ((x6_2).toNat * 6)).block, (ad313.add ((x6_2).toNat * 6)).off + 5, none⟩ = some (.int .i64 ((rd_T43 t290 x6_2).f3.f2)) ∧ w'.cell? (ad313.add ((x6_2).toNat * 6)) = some (.int .i64 ((rd_T43 t290 x6_2).f0)) ∧ w'.cell? ⟨(ad313.add ((x6_2).toNat * 6)).block, (ad313.add ((x6_2).toNat * 6)).off + 1, none⟩ = some (.int .i64 ((rd_T43 t290 x6_2).f1)) ∧ w'.cell? ⟨(ad313.add ((x6_2).toNat * 6)).block, (ad313.add ((x6_2).toNat * 6)).off + 2, none⟩ = some (.int .i64 ((rd_T43 t290 x6_2).f2)) ∧ w'.cell? ⟨(ad313.add ((x6_2).toNat * 6)).block, (ad313.add ((x6_2).toNat * 6)).off + 3, none⟩ = some (.int .i64 ((rd_T43 t290 x6_2).f3.f0)) ∧ w'.cell? ⟨(ad313.add ((x6_2).toNat * 6)).block, (ad313.add ((x6_2).toNat * 6)).off + 4, none⟩ = some (.int .i64 ((rd_T43 t290 x6_2).f3.f1)) ∧ w'.cell? ⟨(ad313.add ((x6_2).toNat * 6)).block, (ad313.add ((x6_2).toNat * 6)).off + 5, none⟩ = some (.int .i64 ((rd_T43 t290 x6_2).f3.f2)) ∧ w'.cell? (ad313.add ((x6_2).toNat * 6)) = some (.int .i64 ((rd_T43 t290 x6_2).f0)) ∧ w'.cell? ⟨(ad313.add ((x6_2).toNat * 6)).block, (ad313.add ((x6_2).toNat * 6)).off + 1, none⟩ = some (.int .i64 ((rd_T43 t290 x6_2).f1)) ∧ w'.cell? ⟨(ad313.add ((x6_2).toNat * 6)).block, (ad313.add ((x6_2).toNat * 6)).off + 2, none⟩ = some (.int .i64 ((rd_T43 t290 x6_2).f2)) ∧ w'.cell? ⟨(ad313.add ((x6_2).toNat * 6)).block, (ad313.add ((x6_2).toNat * 6)).off + 3, none⟩ = some (.int .i64 ((rd_T43 t290 x6_2).f3.f0)) ∧ w'.cell? ⟨(ad313.add ((x6_2).toNat * 6)).block, (ad313.add ((x6_2).toNat * 6)).off + 4, none⟩ = some (.int .i64 ((rd_T43 t290 x6_2).f3.f1)) ∧ w'.cell? ⟨(ad313.add ((x6_2).toNat * 6)).block, (ad313.add ((x6_2).toNat * 6)).off + 5, none⟩ = some (.int .i64 ((rd_T43 t290 x6_2).f3.f2))) (ds := []) #[fb_,fb_,fb_,fb_,fb_,fb_,fb_,fb_,fb_,fb_,fb_,fb_,fb_,fb_,fb_,fb_,fb_,fb_,fb_,fb_,fb_,fb_,fb_,fb_,fb_,fb_,fb_,fb_,fb_,fb_,fb_,fb_,fb_,fb_] (by kernel_rfl) rfl rfl ⟨(kC_ BK299.out 0).trans rfl, (kC_ BK299.out 1).trans rfl, (kC_ BK299.out 2).trans rfl, (kC_ BK299.out 3).trans rfl, (kC_ BK299.out 4).trans rfl, (kC_ BK299.out 5).trans rfl, hx313_0, hx313_1, hx313_2, hx313_3, hx313_4, hx313_5, hx315_0, hx315_1, hx315_2, hx315_3, hx315_4, hx315_5, hx316_0, hx316_1, hx316_2, hx316_3, hx316_4, hx316_5, hx318_0, hx318_1, hx318_2, hx318_3, hx318_4, hx318_5, hx320_0, hx320_1, hx320_2, hx320_3, hx320_4, hx320_5⟩ (fun hHeld => ?_); refine with_tabW laws_FnFacts.tab12 laws_FnFacts.bits12 (fun HT_ HW_ => ?_)
            generalize wr.drew = w83 at HO_3 HO_5 BK299 HB hx313_0 hx313_1 hx313_2 hx313_3 hx313_4 hx313_5 hx315_0 hx315_1 hx315_2 hx315_3 hx315_4 hx315_5 hx316_0 hx316_1 hx316_2 hx316_3 hx316_4 hx316_5 hx318_0 hx318_1 hx318_2 hx318_3 hx318_4 hx318_5 hx320_0 hx320_1 hx320_2 hx320_3 hx320_4 hx320_5 hHeld ⊢
            refine pu_ (i := 0) (N := some 72) #[tb_,fb_,fb_,fb_,fb_,fb_,fb_,fb_,fb_,fb_,fb_,fb_,fb_,fb_,fb_,fb_,fb_,fb_,fb_,fb_,fb_,fb_,fb_,fb_,fb_,fb_,fb_,fb_,fb_,fb_,fb_,fb_,fb_,fb_] (any_of HT_.out (by kernel_rfl)) ?_
            refine pu_ (i := 1) (N := some 73) #[tb_,tb_,fb_,fb_,fb_,fb_,fb_,fb_,fb_,fb_,fb_,fb_,fb_,fb_,fb_,fb_,fb_,fb_,fb_,fb_,fb_,fb_,fb_,fb_,fb_,fb_,fb_,fb_,fb_,fb_,fb_,fb_,fb_,fb_] (any_of HT_.out (by kernel_rfl)) ?_
            refine pu_ (i := 2) (N := some 74) #[tb_,tb_,tb_,fb_,fb_,fb_,fb_,fb_,fb_,fb_,fb_,fb_,fb_,fb_,fb_,fb_,fb_,fb_,fb_,fb_,fb_,fb_,fb_,fb_,fb_,fb_,fb_,fb_,fb_,fb_,fb_,fb_,fb_,fb_] (any_of HT_.out (by kernel_rfl)) ?_
            refine pu_ (i := 3) (N := some 75) #[tb_,tb_,tb_,tb_,fb_,fb_,fb_,fb_,fb_,fb_,fb_,fb_,fb_,fb_,fb_,fb_,fb_,fb_,fb_,fb_,fb_,fb_,fb_,fb_,fb_,fb_,fb_,fb_,fb_,fb_,fb_,fb_,fb_,fb_] (any_of HT_.out (by kernel_rfl)) ?_
            refine take_ (i := 4) (N := some 76) (v := ?_) (a' := ?_) #[tb_,tb_,tb_,tb_,tb_,fb_,fb_,fb_,fb_,fb_,fb_,fb_,fb_,fb_,fb_,fb_,fb_,fb_,fb_,fb_,fb_,fb_,fb_,fb_,fb_,fb_,fb_,fb_,fb_,fb_,fb_,fb_,fb_,fb_] rfl rfl (take_ofW HT_.out HW_.out (by kernel_rfl)) (fun _ _ _ h => h) (Or.inl ⟨by rfl, ?_⟩) hHeld ?_ ?_
            rotate_left
            ·
             rintro w' ⟨s0, s1, s2, s3, s4, s5, s6, s7, s8, s9, s10, s11, s12, s13, s14, s15, s16, s17, s18, s19, s20, s21, s22, s23, s24, s25, s26, s27, s28, s29, s30, s31, s32, s33, s34, s35⟩
             go_simp
             with_reducible rfl
            rotate_left
            ·
             simp only [Act.put, List.setIfInBounds_toArray, List.set_cons_zero, List.set_cons_succ, i64_w, i32_w]
             rfl
            refine one_ (i := 5) (N := some 77) #[tb_,tb_,tb_,tb_,tb_,tb_,fb_,fb_,fb_,fb_,fb_,fb_,fb_,fb_,fb_,fb_,fb_,fb_,fb_,fb_,fb_,fb_,fb_,fb_,fb_,fb_,fb_,fb_,fb_,fb_,fb_,fb_,fb_,fb_] rfl rfl (one_of HT_.out (by kernel_rfl)) (by decide) (fun K hK => ?_)
            refine goes_ Try.func40 (by kernel_rfl) rfl #[.slice Ao84 t300.length co84, .agg #[.int .i64 ((rd_T43 t290 x6_2).f0), .int .i64 ((rd_T43 t290 x6_2).f1), .int .i64 ((rd_T43 t290 x6_2).f2), .int .i64 ((rd_T43 t290 x6_2).f3.f0), .int .i64 ((rd_T43 t290 x6_2).f3.f1), .int .i64 ((rd_T43 t290 x6_2).f3.f2)]] (by rfl) rfl rfl (by (try simp only [List.map_toArray, List.map_cons, List.map_nil]); first | done | rfl | (simp only [List.length_drop, List.length_take]; rfl)) ?_
            with_reducible refine (impl_FactHas.calls k2 _ _ t300 ((rd_T43 t290 x6_2).f0) ((rd_T43 t290 x6_2).f1) ((rd_T43 t290 x6_2).f2) ((rd_T43 t290 x6_2).f3.f0) ((rd_T43 t290 x6_2).f3.f1) ((rd_T43 t290 x6_2).f3.f2) true _ ?side1 ?side2 A72.out).mono ?_
            (case side1 => repeat (first | exact (Kd.R_reads' HO_5.out).2.2 | (with_reducible refine Kd.C_alloc ?_ _) | (with_reducible refine Kd.C_drewN ?_ _) | (with_reducible refine Kd.C_drew ?_)))
            (case side2 => exact (Kd.R_reads' HO_5.out).2.1)
            rintro e w85 ⟨rfl, hb⟩
            have HS6_ := pB_ hb (hHeld.2.2.2.2.2.2.1)
            have HS7_ := pB_ hb (hHeld.2.2.2.2.2.2.2.1)
            have HS8_ := pB_ hb (hHeld.2.2.2.2.2.2.2.2.1)
            have HS9_ := pB_ hb (hHeld.2.2.2.2.2.2.2.2.2.1)
            have HS10_ := pB_ hb (hHeld.2.2.2.2.2.2.2.2.2.2.1)
            have HS11_ := pB_ hb (hHeld.2.2.2.2.2.2.2.2.2.2.2.1)
            have HS12_ := pB_ hb (hHeld.2.2.2.2.2.2.2.2.2.2.2.2.1)
            have HS13_ := pB_ hb (hHeld.2.2.2.2.2.2.2.2.2.2.2.2.2.1)
            have HS14_ := pB_ hb (hHeld.2.2.2.2.2.2.2.2.2.2.2.2.2.2.1)
            have HS15_ := pB_ hb (hHeld.2.2.2.2.2.2.2.2.2.2.2.2.2.2.2.1)
            have HS16_ := pB_ hb (hHeld.2.2.2.2.2.2.2.2.2.2.2.2.2.2.2.2.1)
            have HS17_ := pB_ hb (hHeld.2.2.2.2.2.2.2.2.2.2.2.2.2.2.2.2.2.1)
            have HS18_ := pB_ hb (hHeld.2.2.2.2.2.2.2.2.2.2.2.2.2.2.2.2.2.2.1)
            have HS19_ := pB_ hb (hHeld.2.2.2.2.2.2.2.2.2.2.2.2.2.2.2.2.2.2.2.1)
            have HS20_ := pB_ hb (hHeld.2.2.2.2.2.2.2.2.2.2.2.2.2.2.2.2.2.2.2.2.1)
            have HS21_ := pB_ hb (hHeld.2.2.2.2.2.2.2.2.2.2.2.2.2.2.2.2.2.2.2.2.2.1)
            have HS22_ := pB_ hb (hHeld.2.2.2.2.2.2.2.2.2.2.2.2.2.2.2.2.2.2.2.2.2.2.1)
            have HS23_ := pB_ hb (hHeld.2.2.2.2.2.2.2.2.2.2.2.2.2.2.2.2.2.2.2.2.2.2.2.1)
            have HS24_ := pB_ hb (hHeld.2.2.2.2.2.2.2.2.2.2.2.2.2.2.2.2.2.2.2.2.2.2.2.2.1)
            have HS25_ := pB_ hb (hHeld.2.2.2.2.2.2.2.2.2.2.2.2.2.2.2.2.2.2.2.2.2.2.2.2.2.1)
            have HS26_ := pB_ hb (hHeld.2.2.2.2.2.2.2.2.2.2.2.2.2.2.2.2.2.2.2.2.2.2.2.2.2.2.1)
            have HS27_ := pB_ hb (hHeld.2.2.2.2.2.2.2.2.2.2.2.2.2.2.2.2.2.2.2.2.2.2.2.2.2.2.2.1)
            have HS28_ := pB_ hb (hHeld.2.2.2.2.2.2.2.2.2.2.2.2.2.2.2.2.2.2.2.2.2.2.2.2.2.2.2.2.1)
            have HS29_ := pB_ hb (hHeld.2.2.2.2.2.2.2.2.2.2.2.2.2.2.2.2.2.2.2.2.2.2.2.2.2.2.2.2.2.1)
            have HS30_ := pB_ hb (hHeld.2.2.2.2.2.2.2.2.2.2.2.2.2.2.2.2.2.2.2.2.2.2.2.2.2.2.2.2.2.2.1)
            have HS31_ := pB_ hb (hHeld.2.2.2.2.2.2.2.2.2.2.2.2.2.2.2.2.2.2.2.2.2.2.2.2.2.2.2.2.2.2.2.1)
            have HS32_ := pB_ hb (hHeld.2.2.2.2.2.2.2.2.2.2.2.2.2.2.2.2.2.2.2.2.2.2.2.2.2.2.2.2.2.2.2.2.1)
            have HS33_ := pB_ hb (hHeld.2.2.2.2.2.2.2.2.2.2.2.2.2.2.2.2.2.2.2.2.2.2.2.2.2.2.2.2.2.2.2.2.2.1)
            have HS34_ := pB_ hb (hHeld.2.2.2.2.2.2.2.2.2.2.2.2.2.2.2.2.2.2.2.2.2.2.2.2.2.2.2.2.2.2.2.2.2.2.1)
            have HS35_ := pB_ hb (hHeld.2.2.2.2.2.2.2.2.2.2.2.2.2.2.2.2.2.2.2.2.2.2.2.2.2.2.2.2.2.2.2.2.2.2.2)
            refine ⟨_, rfl, ?_⟩
            have n0_ := Ad_.mk (Kd.R_below (by (with_reducible repeat (first | apply Kd.R_alloc | apply Kd.R_drewN | apply Kd.R_drew)); exact HO_3.out) hb)
            have n1_ := Ad_.mk (Kd.R_below (by (with_reducible repeat (first | apply Kd.R_alloc | apply Kd.R_drewN | apply Kd.R_drew)); exact HO_5.out) hb)
            have n2_ := Ad_.mk (blk_below (g := gb299) (o := .cells #[.int .i64 t293, .int .i64 t294, .int .i64 t295, .int .i64 t296, .int .i64 t297, .int .i64 t298] 43 (0, 0)) (by (with_reducible repeat (first | refine kN_ ?_ _ | refine k1_ ?_ | refine kA_ ?_ _)); exact BK299.out) hb)
            have n3_ := Ad_.mk (bP_ (by repeat (with_reducible first | exact HB.out | apply bA_ | apply bN_ | apply b1_ | refine bS_ ?_ GE299.out)) hb)
            clear HO_3
            clear HO_5
            clear BK299
            clear HB
            have HO_3 := n0_
            have HO_5 := n1_
            have BK299 := n2_
            have HB := n3_
            clear n0_ n1_ n2_ n3_
            (try clear hb)
            (try clear hb2)
            (try clear hk)
            (try clear hi)
            refine hK.out _ _ ⟨(kC_ BK299.out 0).trans rfl, (kC_ BK299.out 1).trans rfl, (kC_ BK299.out 2).trans rfl, (kC_ BK299.out 3).trans rfl, (kC_ BK299.out 4).trans rfl, (kC_ BK299.out 5).trans rfl, HS6_, HS7_, HS8_, HS9_, HS10_, HS11_, HS12_, HS13_, HS14_, HS15_, HS16_, HS17_, HS18_, HS19_, HS20_, HS21_, HS22_, HS23_, HS24_, HS25_, HS26_, HS27_, HS28_, HS29_, HS30_, HS31_, HS32_, HS33_, HS34_, HS35_⟩ (fun hHeld => ?_)
            clear hK K
            refine norm_ (a' := ?_) ?_ ?_
            rotate_left
            ·
             show Act.put _ (some 77) _ = _
             simp only [Act.put, List.setIfInBounds_toArray, List.set_cons_zero, List.set_cons_succ, i64_w, i32_w]
             rfl
            refine pu_ (i := 6) (N := some 78) #[tb_,tb_,tb_,tb_,tb_,tb_,tb_,fb_,fb_,fb_,fb_,fb_,fb_,fb_,fb_,fb_,fb_,fb_,fb_,fb_,fb_,fb_,fb_,fb_,fb_,fb_,fb_,fb_,fb_,fb_,fb_,fb_,fb_,fb_] (any_of HT_.out (by kernel_rfl)) ?_
            refine pu_ (i := 7) (N := some 79) #[tb_,tb_,tb_,tb_,tb_,tb_,tb_,tb_,fb_,fb_,fb_,fb_,fb_,fb_,fb_,fb_,fb_,fb_,fb_,fb_,fb_,fb_,fb_,fb_,fb_,fb_,fb_,fb_,fb_,fb_,fb_,fb_,fb_,fb_] (any_of HT_.out (by kernel_rfl)) ?_
            refine pu_ (i := 8) (N := some 80) #[tb_,tb_,tb_,tb_,tb_,tb_,tb_,tb_,tb_,fb_,fb_,fb_,fb_,fb_,fb_,fb_,fb_,fb_,fb_,fb_,fb_,fb_,fb_,fb_,fb_,fb_,fb_,fb_,fb_,fb_,fb_,fb_,fb_,fb_] (any_of HT_.out (by kernel_rfl)) ?_
            refine pu_ (i := 9) (N := some 81) #[tb_,tb_,tb_,tb_,tb_,tb_,tb_,tb_,tb_,tb_,fb_,fb_,fb_,fb_,fb_,fb_,fb_,fb_,fb_,fb_,fb_,fb_,fb_,fb_,fb_,fb_,fb_,fb_,fb_,fb_,fb_,fb_,fb_,fb_] (any_of HT_.out (by kernel_rfl)) ?_
            refine pu_ (i := 10) (N := some 82) #[tb_,tb_,tb_,tb_,tb_,tb_,tb_,tb_,tb_,tb_,tb_,fb_,fb_,fb_,fb_,fb_,fb_,fb_,fb_,fb_,fb_,fb_,fb_,fb_,fb_,fb_,fb_,fb_,fb_,fb_,fb_,fb_,fb_,fb_] (any_of HT_.out (by kernel_rfl)) ?_
            refine pu_ (i := 12) (N := some 84) #[tb_,tb_,tb_,tb_,tb_,tb_,tb_,tb_,tb_,tb_,tb_,fb_,tb_,fb_,fb_,fb_,fb_,fb_,fb_,fb_,fb_,fb_,fb_,fb_,fb_,fb_,fb_,fb_,fb_,fb_,fb_,fb_,fb_,fb_] (any_of HT_.out (by kernel_rfl)) ?_
            refine pu_ (i := 13) (N := some 85) #[tb_,tb_,tb_,tb_,tb_,tb_,tb_,tb_,tb_,tb_,tb_,fb_,tb_,tb_,fb_,fb_,fb_,fb_,fb_,fb_,fb_,fb_,fb_,fb_,fb_,fb_,fb_,fb_,fb_,fb_,fb_,fb_,fb_,fb_] (any_of HT_.out (by kernel_rfl)) ?_
            refine pu_ (i := 14) (N := some 86) #[tb_,tb_,tb_,tb_,tb_,tb_,tb_,tb_,tb_,tb_,tb_,fb_,tb_,tb_,tb_,fb_,fb_,fb_,fb_,fb_,fb_,fb_,fb_,fb_,fb_,fb_,fb_,fb_,fb_,fb_,fb_,fb_,fb_,fb_] (any_of HT_.out (by kernel_rfl)) ?_
            refine take_ (i := 11) (N := some 83) (v := ?_) (a' := ?_) #[tb_,tb_,tb_,tb_,tb_,tb_,tb_,tb_,tb_,tb_,tb_,tb_,tb_,tb_,tb_,fb_,fb_,fb_,fb_,fb_,fb_,fb_,fb_,fb_,fb_,fb_,fb_,fb_,fb_,fb_,fb_,fb_,fb_,fb_] rfl rfl (take_ofW HT_.out HW_.out (by kernel_rfl)) (fun _ _ _ h => h) (Or.inl ⟨by rfl, ?_⟩) hHeld ?_ ?_
            rotate_left
            ·
             rintro w' ⟨s0, s1, s2, s3, s4, s5, s6, s7, s8, s9, s10, s11, s12, s13, s14, s15, s16, s17, s18, s19, s20, s21, s22, s23, s24, s25, s26, s27, s28, s29, s30, s31, s32, s33, s34, s35⟩
             go_simp
             with_reducible rfl
            rotate_left
            ·
             simp only [Act.put, List.setIfInBounds_toArray, List.set_cons_zero, List.set_cons_succ, i64_w, i32_w]
             rfl
            refine take_ (i := 15) (N := some 87) (v := ?_) (a' := ?_) #[tb_,tb_,tb_,tb_,tb_,tb_,tb_,tb_,tb_,tb_,tb_,tb_,tb_,tb_,tb_,tb_,fb_,fb_,fb_,fb_,fb_,fb_,fb_,fb_,fb_,fb_,fb_,fb_,fb_,fb_,fb_,fb_,fb_,fb_] rfl rfl (take_ofW HT_.out HW_.out (by kernel_rfl)) (fun _ _ _ h => h) (Or.inl ⟨by rfl, ?_⟩) hHeld ?_ ?_
            rotate_left
            ·
             rintro w' ⟨s0, s1, s2, s3, s4, s5, s6, s7, s8, s9, s10, s11, s12, s13, s14, s15, s16, s17, s18, s19, s20, s21, s22, s23, s24, s25, s26, s27, s28, s29, s30, s31, s32, s33, s34, s35⟩
             go_simp
             with_reducible rfl
            rotate_left
            ·
             simp only [Act.put, List.setIfInBounds_toArray, List.set_cons_zero, List.set_cons_succ, i64_w, i32_w]
             rfl
            refine one_ (i := 16) (N := some 88) #[tb_,tb_,tb_,tb_,tb_,tb_,tb_,tb_,tb_,tb_,tb_,tb_,tb_,tb_,tb_,tb_,tb_,fb_,fb_,fb_,fb_,fb_,fb_,fb_,fb_,fb_,fb_,fb_,fb_,fb_,fb_,fb_,fb_,fb_] rfl rfl (one_of HT_.out (by kernel_rfl)) (by decide) (fun K hK => ?_)
            refine goes_ Try.func28 (by kernel_rfl) rfl #[.agg #[.int .i64 ((rd_T43 t290 x6_2).f0), .int .i64 ((rd_T43 t290 x6_2).f1), .int .i64 ((rd_T43 t290 x6_2).f2), .int .i64 ((rd_T43 t290 x6_2).f3.f0), .int .i64 ((rd_T43 t290 x6_2).f3.f1), .int .i64 ((rd_T43 t290 x6_2).f3.f2)], .agg #[.int .i64 ((rd_T43 t290 x6_2).f0), .int .i64 ((rd_T43 t290 x6_2).f1), .int .i64 ((rd_T43 t290 x6_2).f2), .int .i64 ((rd_T43 t290 x6_2).f3.f0), .int .i64 ((rd_T43 t290 x6_2).f3.f1), .int .i64 ((rd_T43 t290 x6_2).f3.f2)]] (by rfl) rfl rfl (by (try simp only [List.map_toArray, List.map_cons, List.map_nil]); first | done | rfl | (simp only [List.length_drop, List.length_take]; rfl)) ?_
            with_reducible refine (impl_FactLess.calls k2 ((rd_T43 t290 x6_2).f0) ((rd_T43 t290 x6_2).f1) ((rd_T43 t290 x6_2).f2) ((rd_T43 t290 x6_2).f3.f0) ((rd_T43 t290 x6_2).f3.f1) ((rd_T43 t290 x6_2).f3.f2) ((rd_T43 t290 x6_2).f0) ((rd_T43 t290 x6_2).f1) ((rd_T43 t290 x6_2).f2) ((rd_T43 t290 x6_2).f3.f0) ((rd_T43 t290 x6_2).f3.f1) ((rd_T43 t290 x6_2).f3.f2) false _ A74.out).mono ?_
            rintro e w86 ⟨rfl, hb⟩
            have HS6_ := pB_ hb (hHeld.2.2.2.2.2.2.1)
            have HS7_ := pB_ hb (hHeld.2.2.2.2.2.2.2.1)
            have HS8_ := pB_ hb (hHeld.2.2.2.2.2.2.2.2.1)
            have HS9_ := pB_ hb (hHeld.2.2.2.2.2.2.2.2.2.1)
            have HS10_ := pB_ hb (hHeld.2.2.2.2.2.2.2.2.2.2.1)
            have HS11_ := pB_ hb (hHeld.2.2.2.2.2.2.2.2.2.2.2.1)
            have HS12_ := pB_ hb (hHeld.2.2.2.2.2.2.2.2.2.2.2.2.1)
            have HS13_ := pB_ hb (hHeld.2.2.2.2.2.2.2.2.2.2.2.2.2.1)
            have HS14_ := pB_ hb (hHeld.2.2.2.2.2.2.2.2.2.2.2.2.2.2.1)
            have HS15_ := pB_ hb (hHeld.2.2.2.2.2.2.2.2.2.2.2.2.2.2.2.1)
            have HS16_ := pB_ hb (hHeld.2.2.2.2.2.2.2.2.2.2.2.2.2.2.2.2.1)
            have HS17_ := pB_ hb (hHeld.2.2.2.2.2.2.2.2.2.2.2.2.2.2.2.2.2.1)
            have HS18_ := pB_ hb (hHeld.2.2.2.2.2.2.2.2.2.2.2.2.2.2.2.2.2.2.1)
            have HS19_ := pB_ hb (hHeld.2.2.2.2.2.2.2.2.2.2.2.2.2.2.2.2.2.2.2.1)
            have HS20_ := pB_ hb (hHeld.2.2.2.2.2.2.2.2.2.2.2.2.2.2.2.2.2.2.2.2.1)
            have HS21_ := pB_ hb (hHeld.2.2.2.2.2.2.2.2.2.2.2.2.2.2.2.2.2.2.2.2.2.1)
            have HS22_ := pB_ hb (hHeld.2.2.2.2.2.2.2.2.2.2.2.2.2.2.2.2.2.2.2.2.2.2.1)
            have HS23_ := pB_ hb (hHeld.2.2.2.2.2.2.2.2.2.2.2.2.2.2.2.2.2.2.2.2.2.2.2.1)
            have HS24_ := pB_ hb (hHeld.2.2.2.2.2.2.2.2.2.2.2.2.2.2.2.2.2.2.2.2.2.2.2.2.1)
            have HS25_ := pB_ hb (hHeld.2.2.2.2.2.2.2.2.2.2.2.2.2.2.2.2.2.2.2.2.2.2.2.2.2.1)
            have HS26_ := pB_ hb (hHeld.2.2.2.2.2.2.2.2.2.2.2.2.2.2.2.2.2.2.2.2.2.2.2.2.2.2.1)
            have HS27_ := pB_ hb (hHeld.2.2.2.2.2.2.2.2.2.2.2.2.2.2.2.2.2.2.2.2.2.2.2.2.2.2.2.1)
            have HS28_ := pB_ hb (hHeld.2.2.2.2.2.2.2.2.2.2.2.2.2.2.2.2.2.2.2.2.2.2.2.2.2.2.2.2.1)
            have HS29_ := pB_ hb (hHeld.2.2.2.2.2.2.2.2.2.2.2.2.2.2.2.2.2.2.2.2.2.2.2.2.2.2.2.2.2.1)
            have HS30_ := pB_ hb (hHeld.2.2.2.2.2.2.2.2.2.2.2.2.2.2.2.2.2.2.2.2.2.2.2.2.2.2.2.2.2.2.1)
            have HS31_ := pB_ hb (hHeld.2.2.2.2.2.2.2.2.2.2.2.2.2.2.2.2.2.2.2.2.2.2.2.2.2.2.2.2.2.2.2.1)
            have HS32_ := pB_ hb (hHeld.2.2.2.2.2.2.2.2.2.2.2.2.2.2.2.2.2.2.2.2.2.2.2.2.2.2.2.2.2.2.2.2.1)
            have HS33_ := pB_ hb (hHeld.2.2.2.2.2.2.2.2.2.2.2.2.2.2.2.2.2.2.2.2.2.2.2.2.2.2.2.2.2.2.2.2.2.1)
            have HS34_ := pB_ hb (hHeld.2.2.2.2.2.2.2.2.2.2.2.2.2.2.2.2.2.2.2.2.2.2.2.2.2.2.2.2.2.2.2.2.2.2.1)
            have HS35_ := pB_ hb (hHeld.2.2.2.2.2.2.2.2.2.2.2.2.2.2.2.2.2.2.2.2.2.2.2.2.2.2.2.2.2.2.2.2.2.2.2)
            refine ⟨_, rfl, ?_⟩
            have n0_ := Ad_.mk (Kd.R_below (by (with_reducible repeat (first | apply Kd.R_alloc | apply Kd.R_drewN | apply Kd.R_drew)); exact HO_3.out) hb)
            have n1_ := Ad_.mk (Kd.R_below (by (with_reducible repeat (first | apply Kd.R_alloc | apply Kd.R_drewN | apply Kd.R_drew)); exact HO_5.out) hb)
            have n2_ := Ad_.mk (blk_below (g := gb299) (o := .cells #[.int .i64 t293, .int .i64 t294, .int .i64 t295, .int .i64 t296, .int .i64 t297, .int .i64 t298] 43 (0, 0)) (by (with_reducible repeat (first | refine kN_ ?_ _ | refine k1_ ?_ | refine kA_ ?_ _)); exact BK299.out) hb)
            have n3_ := Ad_.mk (bP_ (by repeat (with_reducible first | exact HB.out | apply bA_ | apply bN_ | apply b1_ | refine bS_ ?_ GE299.out)) hb)
            clear HO_3
            clear HO_5
            clear BK299
            clear HB
            have HO_3 := n0_
            have HO_5 := n1_
            have BK299 := n2_
            have HB := n3_
            clear n0_ n1_ n2_ n3_
            (try clear hb)
            (try clear hb2)
            (try clear hk)
            (try clear hi)
            refine hK.out _ _ ⟨(kC_ BK299.out 0).trans rfl, (kC_ BK299.out 1).trans rfl, (kC_ BK299.out 2).trans rfl, (kC_ BK299.out 3).trans rfl, (kC_ BK299.out 4).trans rfl, (kC_ BK299.out 5).trans rfl, HS6_, HS7_, HS8_, HS9_, HS10_, HS11_, HS12_, HS13_, HS14_, HS15_, HS16_, HS17_, HS18_, HS19_, HS20_, HS21_, HS22_, HS23_, HS24_, HS25_, HS26_, HS27_, HS28_, HS29_, HS30_, HS31_, HS32_, HS33_, HS34_, HS35_⟩ (fun hHeld => ?_)
            clear hK K
            refine norm_ (a' := ?_) ?_ ?_
            rotate_left
            ·
             show Act.put _ (some 88) _ = _
             simp only [Act.put, List.setIfInBounds_toArray, List.set_cons_zero, List.set_cons_succ, i64_w, i32_w]
             rfl
            refine pu_ (i := 17) (N := some 89) #[tb_,tb_,tb_,tb_,tb_,tb_,tb_,tb_,tb_,tb_,tb_,tb_,tb_,tb_,tb_,tb_,tb_,tb_,fb_,fb_,fb_,fb_,fb_,fb_,fb_,fb_,fb_,fb_,fb_,fb_,fb_,fb_,fb_,fb_] (any_of HT_.out (by kernel_rfl)) ?_
            refine pu_ (i := 18) (N := some 90) #[tb_,tb_,tb_,tb_,tb_,tb_,tb_,tb_,tb_,tb_,tb_,tb_,tb_,tb_,tb_,tb_,tb_,tb_,tb_,fb_,fb_,fb_,fb_,fb_,fb_,fb_,fb_,fb_,fb_,fb_,fb_,fb_,fb_,fb_] (any_of HT_.out (by kernel_rfl)) ?_
            refine pu_ (i := 20) (N := some 92) #[tb_,tb_,tb_,tb_,tb_,tb_,tb_,tb_,tb_,tb_,tb_,tb_,tb_,tb_,tb_,tb_,tb_,tb_,tb_,fb_,tb_,fb_,fb_,fb_,fb_,fb_,fb_,fb_,fb_,fb_,fb_,fb_,fb_,fb_] (any_of HT_.out (by kernel_rfl)) ?_
            refine pu_ (i := 21) (N := some 93) #[tb_,tb_,tb_,tb_,tb_,tb_,tb_,tb_,tb_,tb_,tb_,tb_,tb_,tb_,tb_,tb_,tb_,tb_,tb_,fb_,tb_,tb_,fb_,fb_,fb_,fb_,fb_,fb_,fb_,fb_,fb_,fb_,fb_,fb_] (any_of HT_.out (by kernel_rfl)) ?_
            refine pu_ (i := 22) (N := some 94) #[tb_,tb_,tb_,tb_,tb_,tb_,tb_,tb_,tb_,tb_,tb_,tb_,tb_,tb_,tb_,tb_,tb_,tb_,tb_,fb_,tb_,tb_,tb_,fb_,fb_,fb_,fb_,fb_,fb_,fb_,fb_,fb_,fb_,fb_] (any_of HT_.out (by kernel_rfl)) ?_
            refine take_ (i := 19) (N := some 91) (v := ?_) (a' := ?_) #[tb_,tb_,tb_,tb_,tb_,tb_,tb_,tb_,tb_,tb_,tb_,tb_,tb_,tb_,tb_,tb_,tb_,tb_,tb_,tb_,tb_,tb_,tb_,fb_,fb_,fb_,fb_,fb_,fb_,fb_,fb_,fb_,fb_,fb_] rfl rfl (take_ofW HT_.out HW_.out (by kernel_rfl)) (fun _ _ _ h => h) (Or.inl ⟨by rfl, ?_⟩) hHeld ?_ ?_
            rotate_left
            ·
             rintro w' ⟨s0, s1, s2, s3, s4, s5, s6, s7, s8, s9, s10, s11, s12, s13, s14, s15, s16, s17, s18, s19, s20, s21, s22, s23, s24, s25, s26, s27, s28, s29, s30, s31, s32, s33, s34, s35⟩
             go_simp
             with_reducible rfl
            rotate_left
            ·
             simp only [Act.put, List.setIfInBounds_toArray, List.set_cons_zero, List.set_cons_succ, i64_w, i32_w]
             rfl
            refine take_ (i := 23) (N := some 95) (v := ?_) (a' := ?_) #[tb_,tb_,tb_,tb_,tb_,tb_,tb_,tb_,tb_,tb_,tb_,tb_,tb_,tb_,tb_,tb_,tb_,tb_,tb_,tb_,tb_,tb_,tb_,tb_,fb_,fb_,fb_,fb_,fb_,fb_,fb_,fb_,fb_,fb_] rfl rfl (take_ofW HT_.out HW_.out (by kernel_rfl)) (fun _ _ _ h => h) (Or.inl ⟨by rfl, ?_⟩) hHeld ?_ ?_
            rotate_left
            ·
             rintro w' ⟨s0, s1, s2, s3, s4, s5, s6, s7, s8, s9, s10, s11, s12, s13, s14, s15, s16, s17, s18, s19, s20, s21, s22, s23, s24, s25, s26, s27, s28, s29, s30, s31, s32, s33, s34, s35⟩
             go_simp
             with_reducible rfl
            rotate_left
            ·
             simp only [Act.put, List.setIfInBounds_toArray, List.set_cons_zero, List.set_cons_succ, i64_w, i32_w]
             rfl
            refine one_ (i := 24) (N := some 96) #[tb_,tb_,tb_,tb_,tb_,tb_,tb_,tb_,tb_,tb_,tb_,tb_,tb_,tb_,tb_,tb_,tb_,tb_,tb_,tb_,tb_,tb_,tb_,tb_,tb_,fb_,fb_,fb_,fb_,fb_,fb_,fb_,fb_,fb_] rfl rfl (one_of HT_.out (by kernel_rfl)) (by decide) (fun K hK => ?_)
            refine goes_ Try.func28 (by kernel_rfl) rfl #[.agg #[.int .i64 t293, .int .i64 t294, .int .i64 t295, .int .i64 t296, .int .i64 t297, .int .i64 t298], .agg #[.int .i64 ((rd_T43 t290 x6_2).f0), .int .i64 ((rd_T43 t290 x6_2).f1), .int .i64 ((rd_T43 t290 x6_2).f2), .int .i64 ((rd_T43 t290 x6_2).f3.f0), .int .i64 ((rd_T43 t290 x6_2).f3.f1), .int .i64 ((rd_T43 t290 x6_2).f3.f2)]] (by rfl) rfl rfl (by (try simp only [List.map_toArray, List.map_cons, List.map_nil]); first | done | rfl | (simp only [List.length_drop, List.length_take]; rfl)) ?_
            with_reducible refine (impl_FactLess.calls k2 t293 t294 t295 t296 t297 t298 ((rd_T43 t290 x6_2).f0) ((rd_T43 t290 x6_2).f1) ((rd_T43 t290 x6_2).f2) ((rd_T43 t290 x6_2).f3.f0) ((rd_T43 t290 x6_2).f3.f1) ((rd_T43 t290 x6_2).f3.f2) true _ A80.out).mono ?_
            rintro e w87 ⟨rfl, hb⟩
            have HS6_ := pB_ hb (hHeld.2.2.2.2.2.2.1)
            have HS7_ := pB_ hb (hHeld.2.2.2.2.2.2.2.1)
            have HS8_ := pB_ hb (hHeld.2.2.2.2.2.2.2.2.1)
            have HS9_ := pB_ hb (hHeld.2.2.2.2.2.2.2.2.2.1)
            have HS10_ := pB_ hb (hHeld.2.2.2.2.2.2.2.2.2.2.1)
            have HS11_ := pB_ hb (hHeld.2.2.2.2.2.2.2.2.2.2.2.1)
            have HS12_ := pB_ hb (hHeld.2.2.2.2.2.2.2.2.2.2.2.2.1)
            have HS13_ := pB_ hb (hHeld.2.2.2.2.2.2.2.2.2.2.2.2.2.1)
            have HS14_ := pB_ hb (hHeld.2.2.2.2.2.2.2.2.2.2.2.2.2.2.1)
            have HS15_ := pB_ hb (hHeld.2.2.2.2.2.2.2.2.2.2.2.2.2.2.2.1)
            have HS16_ := pB_ hb (hHeld.2.2.2.2.2.2.2.2.2.2.2.2.2.2.2.2.1)
            have HS17_ := pB_ hb (hHeld.2.2.2.2.2.2.2.2.2.2.2.2.2.2.2.2.2.1)
            have HS18_ := pB_ hb (hHeld.2.2.2.2.2.2.2.2.2.2.2.2.2.2.2.2.2.2.1)
            have HS19_ := pB_ hb (hHeld.2.2.2.2.2.2.2.2.2.2.2.2.2.2.2.2.2.2.2.1)
            have HS20_ := pB_ hb (hHeld.2.2.2.2.2.2.2.2.2.2.2.2.2.2.2.2.2.2.2.2.1)
            have HS21_ := pB_ hb (hHeld.2.2.2.2.2.2.2.2.2.2.2.2.2.2.2.2.2.2.2.2.2.1)
            have HS22_ := pB_ hb (hHeld.2.2.2.2.2.2.2.2.2.2.2.2.2.2.2.2.2.2.2.2.2.2.1)
            have HS23_ := pB_ hb (hHeld.2.2.2.2.2.2.2.2.2.2.2.2.2.2.2.2.2.2.2.2.2.2.2.1)
            have HS24_ := pB_ hb (hHeld.2.2.2.2.2.2.2.2.2.2.2.2.2.2.2.2.2.2.2.2.2.2.2.2.1)
            have HS25_ := pB_ hb (hHeld.2.2.2.2.2.2.2.2.2.2.2.2.2.2.2.2.2.2.2.2.2.2.2.2.2.1)
            have HS26_ := pB_ hb (hHeld.2.2.2.2.2.2.2.2.2.2.2.2.2.2.2.2.2.2.2.2.2.2.2.2.2.2.1)
            have HS27_ := pB_ hb (hHeld.2.2.2.2.2.2.2.2.2.2.2.2.2.2.2.2.2.2.2.2.2.2.2.2.2.2.2.1)
            have HS28_ := pB_ hb (hHeld.2.2.2.2.2.2.2.2.2.2.2.2.2.2.2.2.2.2.2.2.2.2.2.2.2.2.2.2.1)
            have HS29_ := pB_ hb (hHeld.2.2.2.2.2.2.2.2.2.2.2.2.2.2.2.2.2.2.2.2.2.2.2.2.2.2.2.2.2.1)
            have HS30_ := pB_ hb (hHeld.2.2.2.2.2.2.2.2.2.2.2.2.2.2.2.2.2.2.2.2.2.2.2.2.2.2.2.2.2.2.1)
            have HS31_ := pB_ hb (hHeld.2.2.2.2.2.2.2.2.2.2.2.2.2.2.2.2.2.2.2.2.2.2.2.2.2.2.2.2.2.2.2.1)
            have HS32_ := pB_ hb (hHeld.2.2.2.2.2.2.2.2.2.2.2.2.2.2.2.2.2.2.2.2.2.2.2.2.2.2.2.2.2.2.2.2.1)
            have HS33_ := pB_ hb (hHeld.2.2.2.2.2.2.2.2.2.2.2.2.2.2.2.2.2.2.2.2.2.2.2.2.2.2.2.2.2.2.2.2.2.1)
            have HS34_ := pB_ hb (hHeld.2.2.2.2.2.2.2.2.2.2.2.2.2.2.2.2.2.2.2.2.2.2.2.2.2.2.2.2.2.2.2.2.2.2.1)
            have HS35_ := pB_ hb (hHeld.2.2.2.2.2.2.2.2.2.2.2.2.2.2.2.2.2.2.2.2.2.2.2.2.2.2.2.2.2.2.2.2.2.2.2)
            refine ⟨_, rfl, ?_⟩
            have n0_ := Ad_.mk (Kd.R_below (by (with_reducible repeat (first | apply Kd.R_alloc | apply Kd.R_drewN | apply Kd.R_drew)); exact HO_3.out) hb)
            have n1_ := Ad_.mk (Kd.R_below (by (with_reducible repeat (first | apply Kd.R_alloc | apply Kd.R_drewN | apply Kd.R_drew)); exact HO_5.out) hb)
            have n2_ := Ad_.mk (blk_below (g := gb299) (o := .cells #[.int .i64 t293, .int .i64 t294, .int .i64 t295, .int .i64 t296, .int .i64 t297, .int .i64 t298] 43 (0, 0)) (by (with_reducible repeat (first | refine kN_ ?_ _ | refine k1_ ?_ | refine kA_ ?_ _)); exact BK299.out) hb)
            have n3_ := Ad_.mk (bP_ (by repeat (with_reducible first | exact HB.out | apply bA_ | apply bN_ | apply b1_ | refine bS_ ?_ GE299.out)) hb)
            clear HO_3
            clear HO_5
            clear BK299
            clear HB
            have HO_3 := n0_
            have HO_5 := n1_
            have BK299 := n2_
            have HB := n3_
            clear n0_ n1_ n2_ n3_
            (try clear hb)
            (try clear hb2)
            (try clear hk)
            (try clear hi)
            refine hK.out _ _ ⟨(kC_ BK299.out 0).trans rfl, (kC_ BK299.out 1).trans rfl, (kC_ BK299.out 2).trans rfl, (kC_ BK299.out 3).trans rfl, (kC_ BK299.out 4).trans rfl, (kC_ BK299.out 5).trans rfl, HS6_, HS7_, HS8_, HS9_, HS10_, HS11_, HS12_, HS13_, HS14_, HS15_, HS16_, HS17_, HS18_, HS19_, HS20_, HS21_, HS22_, HS23_, HS24_, HS25_, HS26_, HS27_, HS28_, HS29_, HS30_, HS31_, HS32_, HS33_, HS34_, HS35_⟩ (fun hHeld => ?_)
            clear hK K
            refine norm_ (a' := ?_) ?_ ?_
            rotate_left
            ·
             show Act.put _ (some 96) _ = _
             simp only [Act.put, List.setIfInBounds_toArray, List.set_cons_zero, List.set_cons_succ, i64_w, i32_w]
             rfl
            refine pu_ (i := 25) (N := some 97) #[tb_,tb_,tb_,tb_,tb_,tb_,tb_,tb_,tb_,tb_,tb_,tb_,tb_,tb_,tb_,tb_,tb_,tb_,tb_,tb_,tb_,tb_,tb_,tb_,tb_,tb_,fb_,fb_,fb_,fb_,fb_,fb_,fb_,fb_] (any_of HT_.out (by kernel_rfl)) ?_
            refine pu_ (i := 26) (N := some 98) #[tb_,tb_,tb_,tb_,tb_,tb_,tb_,tb_,tb_,tb_,tb_,tb_,tb_,tb_,tb_,tb_,tb_,tb_,tb_,tb_,tb_,tb_,tb_,tb_,tb_,tb_,tb_,fb_,fb_,fb_,fb_,fb_,fb_,fb_] (any_of HT_.out (by kernel_rfl)) ?_
            refine pu_ (i := 27) (N := some 99) #[tb_,tb_,tb_,tb_,tb_,tb_,tb_,tb_,tb_,tb_,tb_,tb_,tb_,tb_,tb_,tb_,tb_,tb_,tb_,tb_,tb_,tb_,tb_,tb_,tb_,tb_,tb_,tb_,fb_,fb_,fb_,fb_,fb_,fb_] (any_of HT_.out (by kernel_rfl)) ?_
            refine pu_ (i := 28) (N := some 100) #[tb_,tb_,tb_,tb_,tb_,tb_,tb_,tb_,tb_,tb_,tb_,tb_,tb_,tb_,tb_,tb_,tb_,tb_,tb_,tb_,tb_,tb_,tb_,tb_,tb_,tb_,tb_,tb_,tb_,fb_,fb_,fb_,fb_,fb_] (any_of HT_.out (by kernel_rfl)) ?_
            refine take_ (i := 29) (N := some 101) (v := ?_) (a' := ?_) #[tb_,tb_,tb_,tb_,tb_,tb_,tb_,tb_,tb_,tb_,tb_,tb_,tb_,tb_,tb_,tb_,tb_,tb_,tb_,tb_,tb_,tb_,tb_,tb_,tb_,tb_,tb_,tb_,tb_,tb_,fb_,fb_,fb_,fb_] rfl rfl (take_ofW HT_.out HW_.out (by kernel_rfl)) (fun _ _ _ h => h) (Or.inl ⟨by rfl, ?_⟩) hHeld ?_ ?_
            rotate_left
            ·
             rintro w' ⟨s0, s1, s2, s3, s4, s5, s6, s7, s8, s9, s10, s11, s12, s13, s14, s15, s16, s17, s18, s19, s20, s21, s22, s23, s24, s25, s26, s27, s28, s29, s30, s31, s32, s33, s34, s35⟩
             go_simp
             with_reducible rfl
            rotate_left
            ·
             simp only [Act.put, List.setIfInBounds_toArray, List.set_cons_zero, List.set_cons_succ, i64_w, i32_w]
             rfl
            refine take_ (i := 30) (N := some 102) (v := ?_) (a' := ?_) #[tb_,tb_,tb_,tb_,tb_,tb_,tb_,tb_,tb_,tb_,tb_,tb_,tb_,tb_,tb_,tb_,tb_,tb_,tb_,tb_,tb_,tb_,tb_,tb_,tb_,tb_,tb_,tb_,tb_,tb_,tb_,fb_,fb_,fb_] rfl rfl (take_ofW HT_.out HW_.out (by kernel_rfl)) (fun _ _ _ h => h) (Or.inl ⟨by rfl, ?_⟩) hHeld ?_ ?_
            rotate_left
            ·
             rintro w' ⟨s0, s1, s2, s3, s4, s5, s6, s7, s8, s9, s10, s11, s12, s13, s14, s15, s16, s17, s18, s19, s20, s21, s22, s23, s24, s25, s26, s27, s28, s29, s30, s31, s32, s33, s34, s35⟩
             go_simp
             with_reducible rfl
            rotate_left
            ·
             simp only [Act.put, List.setIfInBounds_toArray, List.set_cons_zero, List.set_cons_succ, i64_w, i32_w]
             rfl
            refine one_ (i := 31) (N := some 103) #[tb_,tb_,tb_,tb_,tb_,tb_,tb_,tb_,tb_,tb_,tb_,tb_,tb_,tb_,tb_,tb_,tb_,tb_,tb_,tb_,tb_,tb_,tb_,tb_,tb_,tb_,tb_,tb_,tb_,tb_,tb_,tb_,fb_,fb_] rfl rfl (one_of HT_.out (by kernel_rfl)) (by decide) (fun K hK => ?_)
            refine goes_ Try.func28 (by kernel_rfl) rfl #[.agg #[.int .i64 ((rd_T43 t290 x6_2).f0), .int .i64 ((rd_T43 t290 x6_2).f1), .int .i64 ((rd_T43 t290 x6_2).f2), .int .i64 ((rd_T43 t290 x6_2).f3.f0), .int .i64 ((rd_T43 t290 x6_2).f3.f1), .int .i64 ((rd_T43 t290 x6_2).f3.f2)], .agg #[.int .i64 t293, .int .i64 t294, .int .i64 t295, .int .i64 t296, .int .i64 t297, .int .i64 t298]] (by rfl) rfl rfl (by (try simp only [List.map_toArray, List.map_cons, List.map_nil]); first | done | rfl | (simp only [List.length_drop, List.length_take]; rfl)) ?_
            with_reducible refine (impl_FactLess.calls k2 ((rd_T43 t290 x6_2).f0) ((rd_T43 t290 x6_2).f1) ((rd_T43 t290 x6_2).f2) ((rd_T43 t290 x6_2).f3.f0) ((rd_T43 t290 x6_2).f3.f1) ((rd_T43 t290 x6_2).f3.f2) t293 t294 t295 t296 t297 t298 t321 _ A82.out).mono ?_
            rintro e w88 ⟨rfl, hb⟩
            have HS6_ := pB_ hb (hHeld.2.2.2.2.2.2.1)
            have HS7_ := pB_ hb (hHeld.2.2.2.2.2.2.2.1)
            have HS8_ := pB_ hb (hHeld.2.2.2.2.2.2.2.2.1)
            have HS9_ := pB_ hb (hHeld.2.2.2.2.2.2.2.2.2.1)
            have HS10_ := pB_ hb (hHeld.2.2.2.2.2.2.2.2.2.2.1)
            have HS11_ := pB_ hb (hHeld.2.2.2.2.2.2.2.2.2.2.2.1)
            have HS12_ := pB_ hb (hHeld.2.2.2.2.2.2.2.2.2.2.2.2.1)
            have HS13_ := pB_ hb (hHeld.2.2.2.2.2.2.2.2.2.2.2.2.2.1)
            have HS14_ := pB_ hb (hHeld.2.2.2.2.2.2.2.2.2.2.2.2.2.2.1)
            have HS15_ := pB_ hb (hHeld.2.2.2.2.2.2.2.2.2.2.2.2.2.2.2.1)
            have HS16_ := pB_ hb (hHeld.2.2.2.2.2.2.2.2.2.2.2.2.2.2.2.2.1)
            have HS17_ := pB_ hb (hHeld.2.2.2.2.2.2.2.2.2.2.2.2.2.2.2.2.2.1)
            have HS18_ := pB_ hb (hHeld.2.2.2.2.2.2.2.2.2.2.2.2.2.2.2.2.2.2.1)
            have HS19_ := pB_ hb (hHeld.2.2.2.2.2.2.2.2.2.2.2.2.2.2.2.2.2.2.2.1)
            have HS20_ := pB_ hb (hHeld.2.2.2.2.2.2.2.2.2.2.2.2.2.2.2.2.2.2.2.2.1)
            have HS21_ := pB_ hb (hHeld.2.2.2.2.2.2.2.2.2.2.2.2.2.2.2.2.2.2.2.2.2.1)
            have HS22_ := pB_ hb (hHeld.2.2.2.2.2.2.2.2.2.2.2.2.2.2.2.2.2.2.2.2.2.2.1)
            have HS23_ := pB_ hb (hHeld.2.2.2.2.2.2.2.2.2.2.2.2.2.2.2.2.2.2.2.2.2.2.2.1)
            have HS24_ := pB_ hb (hHeld.2.2.2.2.2.2.2.2.2.2.2.2.2.2.2.2.2.2.2.2.2.2.2.2.1)
            have HS25_ := pB_ hb (hHeld.2.2.2.2.2.2.2.2.2.2.2.2.2.2.2.2.2.2.2.2.2.2.2.2.2.1)
            have HS26_ := pB_ hb (hHeld.2.2.2.2.2.2.2.2.2.2.2.2.2.2.2.2.2.2.2.2.2.2.2.2.2.2.1)
            have HS27_ := pB_ hb (hHeld.2.2.2.2.2.2.2.2.2.2.2.2.2.2.2.2.2.2.2.2.2.2.2.2.2.2.2.1)
            have HS28_ := pB_ hb (hHeld.2.2.2.2.2.2.2.2.2.2.2.2.2.2.2.2.2.2.2.2.2.2.2.2.2.2.2.2.1)
            have HS29_ := pB_ hb (hHeld.2.2.2.2.2.2.2.2.2.2.2.2.2.2.2.2.2.2.2.2.2.2.2.2.2.2.2.2.2.1)
            have HS30_ := pB_ hb (hHeld.2.2.2.2.2.2.2.2.2.2.2.2.2.2.2.2.2.2.2.2.2.2.2.2.2.2.2.2.2.2.1)
            have HS31_ := pB_ hb (hHeld.2.2.2.2.2.2.2.2.2.2.2.2.2.2.2.2.2.2.2.2.2.2.2.2.2.2.2.2.2.2.2.1)
            have HS32_ := pB_ hb (hHeld.2.2.2.2.2.2.2.2.2.2.2.2.2.2.2.2.2.2.2.2.2.2.2.2.2.2.2.2.2.2.2.2.1)
            have HS33_ := pB_ hb (hHeld.2.2.2.2.2.2.2.2.2.2.2.2.2.2.2.2.2.2.2.2.2.2.2.2.2.2.2.2.2.2.2.2.2.1)
            have HS34_ := pB_ hb (hHeld.2.2.2.2.2.2.2.2.2.2.2.2.2.2.2.2.2.2.2.2.2.2.2.2.2.2.2.2.2.2.2.2.2.2.1)
            have HS35_ := pB_ hb (hHeld.2.2.2.2.2.2.2.2.2.2.2.2.2.2.2.2.2.2.2.2.2.2.2.2.2.2.2.2.2.2.2.2.2.2.2)
            refine ⟨_, rfl, ?_⟩
            have n0_ := Ad_.mk (Kd.R_below (by (with_reducible repeat (first | apply Kd.R_alloc | apply Kd.R_drewN | apply Kd.R_drew)); exact HO_3.out) hb)
            have n1_ := Ad_.mk (Kd.R_below (by (with_reducible repeat (first | apply Kd.R_alloc | apply Kd.R_drewN | apply Kd.R_drew)); exact HO_5.out) hb)
            have n2_ := Ad_.mk (blk_below (g := gb299) (o := .cells #[.int .i64 t293, .int .i64 t294, .int .i64 t295, .int .i64 t296, .int .i64 t297, .int .i64 t298] 43 (0, 0)) (by (with_reducible repeat (first | refine kN_ ?_ _ | refine k1_ ?_ | refine kA_ ?_ _)); exact BK299.out) hb)
            have n3_ := Ad_.mk (bP_ (by repeat (with_reducible first | exact HB.out | apply bA_ | apply bN_ | apply b1_ | refine bS_ ?_ GE299.out)) hb)
            clear HO_3
            clear HO_5
            clear BK299
            clear HB
            have HO_3 := n0_
            have HO_5 := n1_
            have BK299 := n2_
            have HB := n3_
            clear n0_ n1_ n2_ n3_
            (try clear hb)
            (try clear hb2)
            (try clear hk)
            (try clear hi)
            refine hK.out _ _ ⟨(kC_ BK299.out 0).trans rfl, (kC_ BK299.out 1).trans rfl, (kC_ BK299.out 2).trans rfl, (kC_ BK299.out 3).trans rfl, (kC_ BK299.out 4).trans rfl, (kC_ BK299.out 5).trans rfl, HS6_, HS7_, HS8_, HS9_, HS10_, HS11_, HS12_, HS13_, HS14_, HS15_, HS16_, HS17_, HS18_, HS19_, HS20_, HS21_, HS22_, HS23_, HS24_, HS25_, HS26_, HS27_, HS28_, HS29_, HS30_, HS31_, HS32_, HS33_, HS34_, HS35_⟩ (fun hHeld => ?_)
            clear hK K
            refine norm_ (a' := ?_) ?_ ?_
            rotate_left
            ·
             show Act.put _ (some 103) _ = _
             simp only [Act.put, List.setIfInBounds_toArray, List.set_cons_zero, List.set_cons_succ, i64_w, i32_w]
             rfl
            refine pu_ (i := 32) (N := some 104) #[tb_,tb_,tb_,tb_,tb_,tb_,tb_,tb_,tb_,tb_,tb_,tb_,tb_,tb_,tb_,tb_,tb_,tb_,tb_,tb_,tb_,tb_,tb_,tb_,tb_,tb_,tb_,tb_,tb_,tb_,tb_,tb_,tb_,fb_] (any_of HT_.out (by kernel_rfl)) ?_
            refine pu_ (i := 33) (N := some 105) #[tb_,tb_,tb_,tb_,tb_,tb_,tb_,tb_,tb_,tb_,tb_,tb_,tb_,tb_,tb_,tb_,tb_,tb_,tb_,tb_,tb_,tb_,tb_,tb_,tb_,tb_,tb_,tb_,tb_,tb_,tb_,tb_,tb_,tb_] (any_of HT_.out (by kernel_rfl)) ?_
            refine done_ (done_of HT_.out (by kernel_rfl)) ?_
            try go_wp2
            go_meet
            case rel => exact ⟨_, (t321), fs_, H', ⟨by have := HJ7.out; have := HK2.out; first | omega | exact Nat.le_refl _⟩, ⟨by (with_reducible repeat (first | apply Kd.R_alloc | apply Kd.R_drewN | apply Kd.R_drew)); exact HO_3.out⟩, ⟨by (with_reducible repeat (first | apply Kd.R_alloc | apply Kd.R_drewN | apply Kd.R_drew)); exact HO_5.out⟩, ⟨by (with_reducible repeat (first | refine kN_ ?_ _ | refine k1_ ?_ | refine kA_ ?_ _)); exact BK299.out⟩, ⟨by repeat (with_reducible first | exact HB.out | apply bA_ | apply bN_ | apply b1_ | refine bS_ ?_ GE299.out)⟩⟩
          case rest =>
            clear HC70
            try clear p2
            try clear p3
            try clear q3
            try clear hx3
            try clear p31
            try clear q31
            try clear hx31
            try clear hx313_0
            try clear hx313_1
            try clear hx313_2
            try clear hx313_3
            try clear hx313_4
            try clear hx313_5
            try clear p313
            try clear q313
            obtain ⟨kq, x105_69, rfl, HA, HJ69, HO_3, HO_5, BK299, HB⟩ := hcut
            cases kq with
            | zero => exact absurd HA.out (by simp [laws_FnFacts.j2])
            | succ kj69 =>
              have H := HA.out
              clear HA
              simp only [laws_FnFacts.j2] at H
              by_cases c97 : x105_69 = true
              ·
               subst c97
               have H1 : (some false) = some r := by rw [if_pos rfl] at H; exact H
               clear H
               have H := H1
               clear H1
               obtain rfl := Option.some.inj H
               go_wp2
               go_ret
               exact ⟨by first | rfl | (simp [errW_none, errW_some] <;> rfl) | (simp [*, errW_none, errW_some] <;> rfl), by repeat (with_reducible first | exact HB.out | apply bA_ | apply bN_ | apply b1_ | refine bS_ ?_ GE299.out)⟩
              replace c97 := Bool.eq_false_iff.mpr c97
              subst c97
              have H1 : (laws_FnFacts.l0 kj69 t290 t300 (wrap64 (x6_2 + 1)) t293 t294 t295 t296 t297 t298) = some r := by rw [if_neg (show ¬ (false = true) by decide)] at H; exact H
              clear H
              have H := H1
              clear H1
              have H' := Ad_.mk H
              clear H
              go_wp2
              go_roundg kj69
              case measure => have := HJ7.out; have := HK2.out; have := HJ69.out; omega
              case rel => exact ⟨(wrap64 (x6_2 + 1)), fs_, H', ⟨by have := HJ7.out; have := HK2.out; have := HJ69.out; omega⟩, ⟨by (with_reducible repeat (first | apply Kd.R_alloc | apply Kd.R_drewN | apply Kd.R_drew)); exact HO_3.out⟩, ⟨by (with_reducible repeat (first | apply Kd.R_alloc | apply Kd.R_drewN | apply Kd.R_drew)); exact HO_5.out⟩, ⟨by (with_reducible repeat (first | refine kN_ ?_ _ | refine k1_ ?_ | refine kA_ ?_ _)); exact BK299.out⟩, ⟨by repeat (with_reducible first | exact HB.out | apply bA_ | apply bN_ | apply b1_ | refine bS_ ?_ GE299.out)⟩⟩
def laws_FnFacts.Pure : Prop := ∀ (l0 : List Int), l0.length ≤ maxLen → l0.length * 1 ≤ 140737488351232 → (∀ x ∈ l0, (Lit.int .u8 x).wf = true) → ∃ k, laws_FnFacts.f k l0 = some true
theorem laws_FnFacts.walk (P : laws_FnFacts.Pure) (a0 : Option Addr) (len0 cap0 : Nat) (z0 : List Int) (w : World) (w0 : (a0 = none ∧ len0 = 0 ∧ cap0 = 0 ∧ z0 = []) ∨ ∃ x, a0 = some x ∧ len0 ≤ cap0 ∧ cap0 ≤ maxLen ∧ z0.length = cap0 ∧ (∀ i, i < z0.length → w.cell? (x.add i) = some (.int .u8 (z0.getD i 0))) ∧ ∀ n ∈ z0, (Lit.int .u8 n).wf = true) (y0 : len0 * 1 ≤ 140737488351232) :
    Calls Try.prog 11 #[.slice a0 len0 cap0] w fun e w' => e = .returned (.bool true) ∧ Below w.heap.size w w' := by
  obtain ⟨l0, rfl, hr0, hm0, hw0, hc0⟩ := ReadsInt.ofRowC w0
  obtain ⟨k, h⟩ := P l0 hm0 y0 hw0
  refine (laws_FnFacts.calls k _ _ l0 true w (Kd.C_of_reads (d := (0 : Int)) (h1 := fun _ => rfl) hr0) hc0 h).mono ?_
  rintro e w' ⟨rfl, hd⟩
  exact ⟨rfl, hd⟩
end Go.Proofs.Ytdjomoogldkpfaa.PAll
end
