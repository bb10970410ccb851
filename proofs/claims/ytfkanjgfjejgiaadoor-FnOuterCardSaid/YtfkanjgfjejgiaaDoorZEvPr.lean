/- Functions of Go's library that the program reaches, by their contracts. -/
import Derived.Shelf.Strings.Split
import Derived.Test.YtfkanjgfjejgiaaDoorZShelf
import Derived.Test.YtfkanjgfjejgiaaDoorZEvTb
import Derived.Test.YtfkanjgfjejgiaaDoorEvPrim
import Derived.WalkKit
import Derived.BigCall
import Derived.KernelRfl
set_option linter.unusedSimpArgs false
set_option linter.unusedVariables false
namespace Go.Proofs.YtfkanjgfjejgiaaDoorE
open Go.Ev Go.RowKit Go.Shelf Go.Lib Go.Sort
set_option linter.unusedVariables false

set_option maxHeartbeats 1000000 in
theorem split_any {P : Program} {ρ : Ren} (L : Lays.n146 P ρ) (hi9 : (P.info? (ρ.t 9)).map (fun i => (i.zero, i.size, i.bytes)) = some (some (.string ByteArray.empty), 1, 16)) (s sep : ByteArray) (w : World)
    (hs : s.size < 4294967281) (h1 : sep.size = 1) :
    Calls P (ρ.f 146) #[.string s, .string sep] w fun e w' =>
      e = .returned (.slice (some ⟨w.heap.size, 0, none⟩) (Lib.countB s sep + 1) (Lib.countB s sep + 1)) ∧ w' = w.alloc (.cells ((Lib.splitB sep 0 (Lib.countB s sep) s).map Value.string).toArray (ρ.t 9)) := by
  have hle := Lib.countB_le sep (by omega) s.size s (Nat.le_refl _)
  have hlen := Lib.splitB_all sep (by omega) 0 _ s rfl
  obtain ⟨b, hb⟩ := Lib.one_byte sep h1
  have c := Any.strings_genSplit_core { L with } hi9 s sep 0 (-1) (Lib.countB s sep + 1) w hs (by omega) (Nat.zero_le _)
    (fun x c _ => by
      subst hb
      refine (Any.strings_Index_one { L with } x b _).mono fun e w' ⟨he, hw⟩ => ⟨?_, hw⟩
      rw [he]
      show _ = Ending.returned (Value.int .i64 (Lib.index x.data.toList [b]))
      rw [Lib.index_one])
    (by
      subst hb
      refine (Any.strings_Count_one { L with } s b w).mono fun e w' ⟨he, hw⟩ => ⟨?_, hw⟩
      rw [he]
      show _ = Ending.returned (Value.int .i64 ((Lib.count s.data.toList [b] : Nat) : Int))
      rw [Lib.count_one]
      rfl)
    (by decide) (by decide) (by rw [if_pos (by decide)]; omega)
  rw [Nat.add_sub_cancel, hlen] at c
  have e2 : Lib.cellsOf (Lib.splitB sep 0 (Lib.countB s sep) s) (Lib.countB s sep + 1) = ((Lib.splitB sep 0 (Lib.countB s sep) s).map Value.string).toArray := by rw [← hlen]; exact Lib.cellsOf_full _
  rw [e2] at c
  have t3 := L.t3; have t9 := L.t9; have t31 := L.t31
  have a3 := L.a3; have a9 := L.a9; have a31 := L.a31
  have z3 := L.z3; have v3 := L.v3; have z9 := L.z9; have v9 := L.v9; have z31 := L.z31; have v31 := L.v31
  have e221 : ∀ args w, (callFunc (ρ.f 221) args).run P w = .ok (.enter (ρ.f 221) args) w := enters_of L.f221 (by kernel_rfl) rfl
  clear hb hle
  go_enter L.f146, Body.n146_ntmps ρ
  go_wp2_with (go_at_fn (ρ.f 221); refine c.mono ?_; rintro e w' ⟨rfl, hw⟩; rw [hw])
  go_ret
  exact ⟨rfl, rfl⟩


/-- The pieces of a text. -/
def strings_Split.f (a b : ByteArray) : Option (List ByteArray) := if a.size < 4294967281 ∧ b.size = 1 then some (Lib.splitB b 0 (Lib.countB a b) a) else none
def primSplit : List T → Option Res
  | [.d (.p (.string a)), .d (.p (.string b))] => (strings_Split.f a b).map fun r => ([.own true 1 (r.map eS)], [])
  | _ => none
theorem info_str : (Tryd.prog.info? 9).map (fun i => (i.zero, i.size, i.bytes)) = some (some (.string ByteArray.empty), 1, 16) := by kernel_rfl
theorem primSplit_ok [Base] : CallOk Tryd.prog fun g ts => if g = 103 then primSplit ts else none :=
  callOk_one ⟨Tryd.f103, by kernel_rfl, by kernel_rfl, rfl⟩ fun ts rs ps e => by
    unfold primSplit at e
    split at e
    · rename_i a b
      simp only [Option.map_eq_some_iff] at e
      obtain ⟨r, hr, e⟩ := e
      cases e
      unfold strings_Split.f at hr
      split at hr
      · rename_i hc
        obtain rfl := Option.some.inj hr
        intro X w us A hts hd hA hX hbs
        obtain ⟨rfl, rfl⟩ := hts.two
        have hlen := Lib.splitB_all b (by omega) 0 _ a rfl
        have hmax : Lib.countB a b + 1 ≤ maxLen := by
          have := Lib.countB_le b (by omega) a.size a (Nat.le_refl _)
          unfold maxLen
          omega
        exact ok_newS rfl _ _ hlen.symm 9 hmax hX (split_any Tryd.lays146 info_str a b w hc.1 hc.2)
      · cases hr
    · cases e
def prim : Prim := fun g => match g with
  | 103 => some primSplit
  | _ => none
theorem prim_ok [Base] : PrimOk Tryd.prog prim := fun g F h => by
  unfold prim at h
  split at h
  · cases h; exact primSplit_ok
  · cases h
end Go.Proofs.YtfkanjgfjejgiaaDoorE
