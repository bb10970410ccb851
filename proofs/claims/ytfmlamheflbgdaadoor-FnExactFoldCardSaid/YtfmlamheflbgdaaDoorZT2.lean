/- For Go functions of the program: their Lean functions, and that Go answers as these do. Written by a program of the session (evprint.py). -/
import Derived.Test.YtfmlamheflbgdaaDoorZEvPr
import Derived.Test.YtfmlamheflbgdaaDoorEvG
set_option linter.unusedSimpArgs false
set_option linter.unusedVariables false
namespace Go.Proofs.YtfmlamheflbgdaaDoorE
open Go.Ev
set_option linter.unusedVariables false
set_option maxRecDepth 100000
set_option maxHeartbeats 4000000
def md : Md := fun f => match f with
  | 16 => ([], [true])
  | 24 => ([2], [false])
  | 37 => ([], [true])
  | 82 => ([1], [true])
  | 94 => ([], [true, false])
  | 100 => ([], [true])
  | 103 => ([], [true])
  | 104 => ([], [true])
  | 127 => ([], [true])
  | 164 => ([], [true])
  | _ => ([], [])
noncomputable abbrev E := Go.Ev.Ev Tryd.prog tb md prim
theorem strings_Split.ev {a b : ByteArray} {r : List ByteArray} (h : strings_Split.f a b = some r) : E 139 [(.d (.p (.string a))), (.d (.p (.string b)))] = some ([(.own true 1 (r.map eS))], []) := Ev_prim rfl (by show (strings_Split.f a b).map _ = _; rw [h]; rfl)
structure impl_Node where
  Kind : Int
  A : Int
  B : Int
  C : Int
  N : Int
  Name : ByteArray
  Other : ByteArray
def impl_Node.e (x : impl_Node) : List D := [(.p (.int .i64 x.Kind)), (.p (.int .i64 x.A)), (.p (.int .i64 x.B)), (.p (.int .i64 x.C)), (.p (.int .i64 x.N)), (.p (.string x.Name)), (.p (.string x.Other))]
structure laws_Node where
  Kind : Int
  A : Int
  B : Int
  C : Int
  N : Int
  Name : ByteArray
  Other : ByteArray
def laws_Node.e (x : laws_Node) : List D := [(.p (.int .i64 x.Kind)), (.p (.int .i64 x.A)), (.p (.int .i64 x.B)), (.p (.int .i64 x.C)), (.p (.int .i64 x.N)), (.p (.string x.Name)), (.p (.string x.Other))]
structure impl_folder where
  n : Int
def impl_folder.e (x : impl_folder) : List D := [(.p (.int .i64 x.n))]
structure impl_tree where
  n : impl_Node
  kids : List impl_tree
def impl_tree.e (x : impl_tree) : List D := [(.p (.int .i64 x.n.Kind)), (.p (.int .i64 x.n.A)), (.p (.int .i64 x.n.B)), (.p (.int .i64 x.n.C)), (.p (.int .i64 x.n.N)), (.p (.string x.n.Name)), (.p (.string x.n.Other)), (.l false 8 (x.kids.attach.map fun y => impl_tree.e y.1))]
termination_by x
decreasing_by
  have := List.sizeOf_lt_of_mem y.2
  cases x; simp_all; omega
def impl_tree.c (x : impl_tree) : List D := [(.p (.int .i64 x.n.Kind)), (.p (.int .i64 x.n.A)), (.p (.int .i64 x.n.B)), (.p (.int .i64 x.n.C)), (.p (.int .i64 x.n.N)), (.p (.string x.n.Name)), (.p (.string x.n.Other)), (.l false 8 (x.kids.map impl_tree.e))]
theorem impl_tree.e_eq (x : impl_tree) : x.e = x.c := by rw [impl_tree.e, impl_tree.c]; simp
def laws_szNode.enc (r : Int) : Res := ([(.d (.p (.int .i64 r)))], [])
def laws_szNode.f  (K : Nat) (a0 : laws_Node) (a1 : Int) : Option (Int) := if (w64 (a1 - (a0.Name.size : Int))) < 0 then (some (-1)) else (if (w64 ((w64 (a1 - (a0.Name.size : Int))) - (a0.Other.size : Int))) < 0 then (some (-1)) else (some (w64 ((w64 (a1 - (a0.Name.size : Int))) - (a0.Other.size : Int)))))
theorem laws_szNode.ev   {K : Nat} {a0 : laws_Node} {a1 : Int} {r : Int} (h : laws_szNode.f  K a0 a1 = some r) : E 61 [(.agg (a0.e.map .d)), (.d (.p (.int .i64 a1)))] = some ([(.d (.p (.int .i64 r)))], []) := by
  refine Ev_intro (fn := Tryd.f61) rfl (by kernel_rfl) (c := _) rfl ⟨rfl, by simp⟩ rfl (evP_spec _ ?_)
  unfold laws_szNode.f at h
  refine goS ?_
  refine iteF h (fun c1 h => ?_) (fun c1 h => ?_)
  · exact retE (enc := laws_szNode.enc) h rfl
  · refine goS ?_
    refine iteF h (fun c2 h => ?_) (fun c2 h => ?_)
    · exact retE (enc := laws_szNode.enc) h rfl
    · exact retE (enc := laws_szNode.enc) h rfl
def laws_szNodeS.enc (r : Int) : Res := ([(.d (.p (.int .i64 r)))], [])
def laws_szNodeS.en (a0 : List laws_Node) (a1 : Int) (r : Int) (S : St) : Prop := endV tb md 14 Tryd.f14 [(.d (.l true 7 (a0.map laws_Node.e))), (.d (.p (.int .i64 a1)))] .ret S = some (laws_szNodeS.enc r)
def laws_szNodeS.l0 (a0 : List laws_Node) (K : Nat) : Nat → Int → Int → Option (Int ⊕ Int)
  | 0, _, _ => none
  | k + 1, v3, v4 => if v4 < (a0.length : Int) then ((at_ a0 v4).bind fun x7 => ((laws_szNode.f K x7 v3).bind fun y8 => (if y8 < 0 then (some (.inl (-1))) else (laws_szNodeS.l0 a0 K k y8 (w64 (v4 + 1)))))) else (some (.inr v3))
def laws_szNodeS.f  (K : Nat) (a0 : List laws_Node) (a1 : Int) : Option (Int) := if (w64 (a1 - (a0.length : Int))) < 0 then (some (-1)) else (jn (fun (v2 : Int) => some v2) (fun j => lb (laws_szNodeS.l0 a0 K K (w64 (a1 - (a0.length : Int))) 0) (fun r => some r) (fun (v5 : Int) => j v5)))
theorem laws_szNodeS.ev   {K : Nat} {a0 : List laws_Node} {a1 : Int} {r : Int} (h : laws_szNodeS.f  K a0 a1 = some r) : E 14 [(.d (.l true 7 (a0.map laws_Node.e))), (.d (.p (.int .i64 a1)))] = some ([(.d (.p (.int .i64 r)))], []) := by
  refine Ev_intro (fn := Tryd.f14) rfl (by kernel_rfl) (c := _) rfl ⟨rfl, by simp⟩ rfl (evP_spec _ ?_)
  unfold laws_szNodeS.f at h
  refine eqM ((a0.length : Int) : Int) (mLen rfl) ?_
  refine goS ?_
  refine iteF h (fun c1 h => ?_) (fun c1 h => ?_)
  · exact retE (enc := laws_szNodeS.enc) h rfl
  · refine seqJ h 27 (fun x => [(1, (.d (.p (.int .i64 x))))]) (fun x => []) (fun J h => ?_) ?_
    · refine loopB (α := Int × Int) (a := ((w64 (a1 - (a0.length : Int))), 0)) 27 (fun x => [(0, (.d (.l true 7 (a0.map laws_Node.e)))), (1, (.d (.p (.int .i64 x.1)))), (5, (.d (.p (.int .i64 x.2))))]) (fun x => []) (fun k x => laws_szNodeS.l0 a0 K k x.1 x.2) (laws_szNodeS.en a0 a1) 0 (fun x => [(1, (.d (.p (.int .i64 x))))]) (fun x => []) h (fun _ => rfl) ?_ ⟨rfl, ⟨rfl, rfl, rfl, trivial⟩, trivial⟩ ?_ ?_
      · rintro k ⟨v3, v4⟩ r h e hp
        replace h : laws_szNodeS.l0 a0 K (k + 1) v3 v4 = some r := h
        unfold laws_szNodeS.l0 at h
        refine goS ?_
        refine eqM ((a0.length : Int) : Int) (mLen rfl) ?_
        refine iteF h (fun c6 h => ?_) (fun c6 h => ?_)
        · refine goS ?_
          refine bindG h fun x7 hx7 h => ?_
          refine anM (at_ix rfl hx7) ?_
          refine exM (laws_Node.e x7) (at_get rfl hx7) ?_
          refine bindG h fun y8 hy9 h => ?_
          refine exM ([(.d (.p (.int .i64 y8)))], []) ?_ ?_
          · exact laws_szNode.ev hy9
          refine iteF h (fun c10 h => ?_) (fun c10 h => ?_)
          · exact lqL h rfl
          · exact ⟨(y8, (w64 (v4 + 1))), h, ⟨rfl, ⟨rfl, rfl, rfl, trivial⟩, trivial⟩⟩
        · refine lqR h ?_
          exact ⟨rfl, ⟨rfl, trivial⟩, trivial⟩
      · intro r' S' h q
        exact retE (enc := laws_szNodeS.enc) h q
      · rintro v5 S' h ⟨qn, ⟨qa0, _⟩, ⟨_⟩⟩
        exact ⟨v5, h, ⟨qn, ⟨qa0, trivial⟩, trivial⟩⟩
    · rintro v2 h e hp
      exact retE (enc := laws_szNodeS.enc) h rfl
def laws_toNode.enc (r : impl_Node) : Res := ([(.agg (r.e.map .d))], [])
def laws_toNode.f  (K : Nat) (a0 : laws_Node) : Option (impl_Node) := some (⟨a0.Kind, a0.A, a0.B, a0.C, a0.N, a0.Name, a0.Other⟩ : impl_Node)
theorem laws_toNode.ev   {K : Nat} {a0 : laws_Node} {r : impl_Node} (h : laws_toNode.f  K a0 = some r) : E 64 [(.agg (a0.e.map .d))] = some ([(.agg (r.e.map .d))], []) := by
  refine Ev_intro (fn := Tryd.f64) rfl (by kernel_rfl) (c := _) rfl ⟨rfl, by simp⟩ rfl (evP_spec _ ?_)
  unfold laws_toNode.f at h
  refine goS ?_
  refine goS ?_
  refine goR ?_
  refine Re.mk 26 [(1, (.ptr 1 0 2 0)), (2, (.ptr 2 0 2 0)), (3, (.ptr 3 0 2 0))] [(1, 0, 2, (some (.box [(.d (.p (.int .i64 a0.Kind))), (.d (.p (.int .i64 a0.A))), (.d (.p (.int .i64 a0.B))), (.d (.p (.int .i64 a0.C))), (.d (.p (.int .i64 a0.N))), (.d (.p (.string a0.Name))), (.d (.p (.string a0.Other)))]))), (2, 0, 2, (some (.box [(.d (.p (.int .i64 0))), (.d (.p (.int .i64 0))), (.d (.p (.int .i64 0))), (.d (.p (.int .i64 0))), (.d (.p (.int .i64 0))), (.d (.p (.string (⟨#[]⟩ : ByteArray)))), (.d (.p (.string (⟨#[]⟩ : ByteArray))))]))), (3, 0, 2, (some (.box [(.d (.p (.int .i64 a0.Kind))), (.d (.p (.int .i64 a0.A))), (.d (.p (.int .i64 a0.B))), (.d (.p (.int .i64 0))), (.d (.p (.int .i64 0))), (.d (.p (.string (⟨#[]⟩ : ByteArray)))), (.d (.p (.string (⟨#[]⟩ : ByteArray))))])))] (by exact ⟨rfl, ⟨rfl, rfl, rfl, trivial⟩, ⟨rfl, rfl, rfl, trivial⟩⟩) ?_
  intro e hp
  refine goS ?_
  refine goS ?_
  refine goR ?_
  refine Re.mk 26 [(1, (.ptr 1 0 2 0)), (2, (.ptr 2 0 2 0)), (3, (.ptr 3 0 2 0))] [(1, 0, 2, (some (.box [(.d (.p (.int .i64 a0.Kind))), (.d (.p (.int .i64 a0.A))), (.d (.p (.int .i64 a0.B))), (.d (.p (.int .i64 a0.C))), (.d (.p (.int .i64 a0.N))), (.d (.p (.string a0.Name))), (.d (.p (.string a0.Other)))]))), (2, 0, 2, (some (.box [(.d (.p (.int .i64 0))), (.d (.p (.int .i64 0))), (.d (.p (.int .i64 0))), (.d (.p (.int .i64 0))), (.d (.p (.int .i64 0))), (.d (.p (.string (⟨#[]⟩ : ByteArray)))), (.d (.p (.string (⟨#[]⟩ : ByteArray))))]))), (3, 0, 2, (some (.box [(.d (.p (.int .i64 a0.Kind))), (.d (.p (.int .i64 a0.A))), (.d (.p (.int .i64 a0.B))), (.d (.p (.int .i64 a0.C))), (.d (.p (.int .i64 a0.N))), (.d (.p (.string a0.Name))), (.d (.p (.string (⟨#[]⟩ : ByteArray))))])))] (by exact ⟨rfl, ⟨rfl, rfl, rfl, trivial⟩, ⟨rfl, rfl, rfl, trivial⟩⟩) ?_
  intro e hp
  refine goS ?_
  refine goS ?_
  exact retE (enc := laws_toNode.enc) h rfl
def laws_toNodeS.enc (r : List impl_Node) : Res := ([(.own true 7 (r.map impl_Node.e))], [])
def laws_toNodeS.l0 (a0 : List laws_Node) (K : Nat) : Nat → Int → (List impl_Node) → Option (List impl_Node)
  | 0, _, _ => none
  | k + 1, v2, v3 => if v2 < (a0.length : Int) then ((at_ a0 v2).bind fun x6 => ((laws_toNode.f K x6).bind fun y7 => ((at_ v3 v2).bind fun x9 => (laws_toNodeS.l0 a0 K k (w64 (v2 + 1)) (v3.set (v2).toNat y7))))) else (some v3)
def laws_toNodeS.f  (K : Nat) (a0 : List laws_Node) : Option (List impl_Node) := gd (0 ≤ (a0.length : Int) ∧ 72 * (a0.length : Int) ≤ 140737488355328 ∧ (a0.length : Int) ≤ 140737488355328) (jn (fun (v1 : List impl_Node) => some v1) (fun j => (laws_toNodeS.l0 a0 K K 0 (List.replicate ((a0.length : Int)).toNat (⟨0, 0, 0, 0, 0, (⟨#[]⟩ : ByteArray), (⟨#[]⟩ : ByteArray)⟩ : impl_Node))).bind fun (v4 : List impl_Node) => j v4))
theorem laws_toNodeS.ev   {K : Nat} {a0 : List laws_Node} {r : List impl_Node} (h : laws_toNodeS.f  K a0 = some r) : E 16 [(.d (.l true 7 (a0.map laws_Node.e)))] = some ([(.own true 7 (r.map impl_Node.e))], []) := by
  refine Ev_intro (fn := Tryd.f16) rfl (by kernel_rfl) (c := _) rfl ⟨rfl, by simp⟩ rfl (evP_spec _ ?_)
  unfold laws_toNodeS.f at h
  refine eqM ((a0.length : Int) : Int) (mLen rfl) ?_
  refine gdG h fun hc h => ?_
  refine anM ⟨rfl, hc⟩ ?_
  refine eqM ((List.replicate ((a0.length : Int)).toNat (⟨0, 0, 0, 0, 0, (⟨#[]⟩ : ByteArray), (⟨#[]⟩ : ByteArray)⟩ : impl_Node)).map impl_Node.e) (mRep rfl) ?_
  refine seqJ h 23 (fun x => [(3, (.own 3 1 2))]) (fun x => [(3, 1, 2, (some (.row true true 7 (x.map impl_Node.e))))]) (fun J h => ?_) ?_
  · refine loopX (α := Int × List impl_Node) (a := (0, (List.replicate ((a0.length : Int)).toNat (⟨0, 0, 0, 0, 0, (⟨#[]⟩ : ByteArray), (⟨#[]⟩ : ByteArray)⟩ : impl_Node)))) 23 (fun x => [(0, (.d (.l true 7 (a0.map laws_Node.e)))), (3, (.own 3 1 2)), (4, (.d (.p (.int .i64 x.1))))]) (fun x => [(3, 1, 2, (some (.row true true 7 (x.2.map impl_Node.e))))]) (fun k x => laws_toNodeS.l0 a0 K k x.1 x.2) 0 (fun x => [(3, (.own 3 1 2))]) (fun x => [(3, 1, 2, (some (.row true true 7 (x.map impl_Node.e))))]) h (fun _ => rfl) ?_ ⟨rfl, ⟨rfl, rfl, rfl, trivial⟩, ⟨rfl, trivial⟩⟩ ?_
    · rintro k ⟨v2, v3⟩ r h e hp
      replace h : laws_toNodeS.l0 a0 K (k + 1) v2 v3 = some r := h
      unfold laws_toNodeS.l0 at h
      refine goS ?_
      refine eqM ((a0.length : Int) : Int) (mLen rfl) ?_
      refine iteF h (fun c5 h => ?_) (fun c5 h => ?_)
      · refine goS ?_
        refine bindG h fun x6 hx6 h => ?_
        refine anM (at_ix rfl hx6) ?_
        refine exM (laws_Node.e x6) (at_get rfl hx6) ?_
        refine bindG h fun y7 hy8 h => ?_
        refine exM ([(.agg (y7.e.map .d))], []) ?_ ?_
        · exact laws_toNode.ev hy8
        refine bindG h fun x9 hx9 h => ?_
        refine anM (at_ix rfl hx9) ?_
        refine exM (impl_Node.e x9) (at_get rfl hx9) ?_
        refine eqM ((v3.set (v2).toNat y7).map impl_Node.e) (mSet rfl rfl) ?_
        exact ⟨((w64 (v2 + 1)), (v3.set (v2).toNat y7)), h, ⟨rfl, ⟨rfl, rfl, rfl, trivial⟩, ⟨rfl, trivial⟩⟩⟩
      · refine exQ h ?_
        exact ⟨rfl, ⟨rfl, trivial⟩, ⟨rfl, trivial⟩⟩
    · rintro v4 S' h ⟨qn, ⟨qa0, _⟩, ⟨qb0, _⟩⟩
      exact ⟨v4, h, ⟨qn, ⟨qa0, trivial⟩, ⟨qb0, trivial⟩⟩⟩
  · rintro v1 h e hp
    exact retE (enc := laws_toNodeS.enc) h rfl
def spec_l1In.enc (r : Bool) : Res := ([(.d (.p (.bool r)))], [])
def spec_l1In.f  (K : Nat) (a0 : Int) (a1 : Int) (a2 : Int) : Option (Bool) := if a0 ≥ a1 then (some (decide (a0 ≤ a2))) else (some false)
theorem spec_l1In.ev   {K : Nat} {a0 : Int} {a1 : Int} {a2 : Int} {r : Bool} (h : spec_l1In.f  K a0 a1 a2 = some r) : E 68 [(.d (.p (.int .i64 a0))), (.d (.p (.int .i64 a1))), (.d (.p (.int .i64 a2)))] = some ([(.d (.p (.bool r)))], []) := by
  refine Ev_intro (fn := Tryd.f68) rfl (by kernel_rfl) (c := _) rfl ⟨rfl, by simp⟩ rfl (evP_spec _ ?_)
  unfold spec_l1In.f at h
  refine goS ?_
  refine iteF h (fun c1 h => ?_) (fun c1 h => ?_)
  · refine Ask.T rfl ?_
    refine Ask.T rfl ?_
    refine Ask.T rfl ?_
    exact retE (enc := spec_l1In.enc) h rfl
  · refine Ask.F rfl ?_
    refine Ask.F rfl ?_
    refine Ask.F rfl ?_
    exact retE (enc := spec_l1In.enc) h rfl
def spec_Arity.enc (r : Int) : Res := ([(.d (.p (.int .i64 r)))], [])
def spec_Arity.f  (K : Nat) (a0 : Int) : Option (Int) := jn (fun (v1 : Bool) => if v1 = true then (some 1) else (jn (fun (v8 : Bool) => if v8 = true then (some 2) else (jn (fun (v17 : Bool) => if v17 = true then (some 3) else (some 0)) (fun j => if a0 = 7 then (j true) else (j (decide (a0 = 14)))))) (fun j => if a0 = 4 then (j true) else (if a0 = 5 then (j true) else (if a0 = 6 then (j true) else (if a0 = 8 then (j true) else (if a0 = 9 then (j true) else (if a0 = 13 then (j true) else (if a0 = 17 then (j true) else (j (decide (a0 = 19)))))))))))) (fun j => if a0 = 3 then (j true) else (if a0 = 10 then (j true) else (if a0 = 11 then (j true) else (if a0 = 15 then (j true) else (if a0 = 16 then (j true) else (j (decide (a0 = 18))))))))
theorem spec_Arity.ev   {K : Nat} {a0 : Int} {r : Int} (h : spec_Arity.f  K a0 = some r) : E 126 [(.d (.p (.int .i64 a0)))] = some ([(.d (.p (.int .i64 r)))], []) := by
  refine Ev_intro (fn := Tryd.f126) rfl (by kernel_rfl) (c := _) rfl ⟨rfl, by simp⟩ rfl (evP_spec _ ?_)
  unfold spec_Arity.f at h
  refine goS ?_
  refine seqJ h 23 (fun x => [(3, (.d (.p (.int .i64 a0)))), (4, (.d (.p (.bool x))))]) (fun x => []) (fun J h => ?_) ?_
  · refine iteF h (fun c2 h => ?_) (fun c2 h => ?_)
    · exact ⟨true, h, ⟨rfl, ⟨rfl, rfl, trivial⟩, trivial⟩⟩
    · refine iteF h (fun c3 h => ?_) (fun c3 h => ?_)
      · exact ⟨true, h, ⟨rfl, ⟨rfl, rfl, trivial⟩, trivial⟩⟩
      · refine iteF h (fun c4 h => ?_) (fun c4 h => ?_)
        · exact ⟨true, h, ⟨rfl, ⟨rfl, rfl, trivial⟩, trivial⟩⟩
        · refine iteF h (fun c5 h => ?_) (fun c5 h => ?_)
          · exact ⟨true, h, ⟨rfl, ⟨rfl, rfl, trivial⟩, trivial⟩⟩
          · refine iteF h (fun c6 h => ?_) (fun c6 h => ?_)
            · exact ⟨true, h, ⟨rfl, ⟨rfl, rfl, trivial⟩, trivial⟩⟩
            · exact ⟨(decide (a0 = 18)), h, ⟨rfl, ⟨rfl, rfl, trivial⟩, trivial⟩⟩
  · rintro v1 h e hp
    refine ifB h (fun c7 h => ?_) (fun c7 h => ?_)
    · exact retE (enc := spec_Arity.enc) h rfl
    · refine seqJ h 23 (fun x => [(3, (.d (.p (.int .i64 a0)))), (11, (.d (.p (.bool x))))]) (fun x => []) (fun J h => ?_) ?_
      · refine iteF h (fun c9 h => ?_) (fun c9 h => ?_)
        · exact ⟨true, h, ⟨rfl, ⟨rfl, rfl, trivial⟩, trivial⟩⟩
        · refine iteF h (fun c10 h => ?_) (fun c10 h => ?_)
          · exact ⟨true, h, ⟨rfl, ⟨rfl, rfl, trivial⟩, trivial⟩⟩
          · refine iteF h (fun c11 h => ?_) (fun c11 h => ?_)
            · exact ⟨true, h, ⟨rfl, ⟨rfl, rfl, trivial⟩, trivial⟩⟩
            · refine iteF h (fun c12 h => ?_) (fun c12 h => ?_)
              · exact ⟨true, h, ⟨rfl, ⟨rfl, rfl, trivial⟩, trivial⟩⟩
              · refine iteF h (fun c13 h => ?_) (fun c13 h => ?_)
                · exact ⟨true, h, ⟨rfl, ⟨rfl, rfl, trivial⟩, trivial⟩⟩
                · refine iteF h (fun c14 h => ?_) (fun c14 h => ?_)
                  · exact ⟨true, h, ⟨rfl, ⟨rfl, rfl, trivial⟩, trivial⟩⟩
                  · refine iteF h (fun c15 h => ?_) (fun c15 h => ?_)
                    · exact ⟨true, h, ⟨rfl, ⟨rfl, rfl, trivial⟩, trivial⟩⟩
                    · exact ⟨(decide (a0 = 19)), h, ⟨rfl, ⟨rfl, rfl, trivial⟩, trivial⟩⟩
      · rintro v8 h e hp
        refine ifB h (fun c16 h => ?_) (fun c16 h => ?_)
        · exact retE (enc := spec_Arity.enc) h rfl
        · refine seqJ h 23 (fun x => [(20, (.d (.p (.bool x))))]) (fun x => []) (fun J h => ?_) ?_
          · refine iteF h (fun c18 h => ?_) (fun c18 h => ?_)
            · exact ⟨true, h, ⟨rfl, ⟨rfl, trivial⟩, trivial⟩⟩
            · exact ⟨(decide (a0 = 14)), h, ⟨rfl, ⟨rfl, trivial⟩, trivial⟩⟩
          · rintro v17 h e hp
            refine ifB h (fun c19 h => ?_) (fun c19 h => ?_)
            · exact retE (enc := spec_Arity.enc) h rfl
            · exact retE (enc := spec_Arity.enc) h rfl
def spec_l3Names.enc (r : Int) : Res := ([(.d (.p (.int .i64 r)))], [])
def spec_l3Names.f  (K : Nat) (a0 : Int) : Option (Int) := jn (fun (v1 : Bool) => if v1 = true then (some 1) else (jn (fun (v6 : Bool) => if v6 = true then (some 2) else (some 0)) (fun j => if a0 = 6 then (j true) else (j (decide (a0 = 14)))))) (fun j => if a0 = 1 then (j true) else (if a0 = 3 then (j true) else (if a0 = 5 then (j true) else (j (decide (a0 = 19))))))
theorem spec_l3Names.ev   {K : Nat} {a0 : Int} {r : Int} (h : spec_l3Names.f  K a0 = some r) : E 136 [(.d (.p (.int .i64 a0)))] = some ([(.d (.p (.int .i64 r)))], []) := by
  refine Ev_intro (fn := Tryd.f136) rfl (by kernel_rfl) (c := _) rfl ⟨rfl, by simp⟩ rfl (evP_spec _ ?_)
  unfold spec_l3Names.f at h
  refine goS ?_
  refine seqJ h 12 (fun x => [(3, (.d (.p (.int .i64 a0)))), (4, (.d (.p (.bool x))))]) (fun x => []) (fun J h => ?_) ?_
  · refine iteF h (fun c2 h => ?_) (fun c2 h => ?_)
    · exact ⟨true, h, ⟨rfl, ⟨rfl, rfl, trivial⟩, trivial⟩⟩
    · refine iteF h (fun c3 h => ?_) (fun c3 h => ?_)
      · exact ⟨true, h, ⟨rfl, ⟨rfl, rfl, trivial⟩, trivial⟩⟩
      · refine iteF h (fun c4 h => ?_) (fun c4 h => ?_)
        · exact ⟨true, h, ⟨rfl, ⟨rfl, rfl, trivial⟩, trivial⟩⟩
        · exact ⟨(decide (a0 = 19)), h, ⟨rfl, ⟨rfl, rfl, trivial⟩, trivial⟩⟩
  · rintro v1 h e hp
    refine ifB h (fun c5 h => ?_) (fun c5 h => ?_)
    · exact retE (enc := spec_l3Names.enc) h rfl
    · refine seqJ h 12 (fun x => [(9, (.d (.p (.bool x))))]) (fun x => []) (fun J h => ?_) ?_
      · refine iteF h (fun c7 h => ?_) (fun c7 h => ?_)
        · exact ⟨true, h, ⟨rfl, ⟨rfl, trivial⟩, trivial⟩⟩
        · exact ⟨(decide (a0 = 14)), h, ⟨rfl, ⟨rfl, trivial⟩, trivial⟩⟩
      · rintro v6 h e hp
        refine ifB h (fun c8 h => ?_) (fun c8 h => ?_)
        · exact retE (enc := spec_l3Names.enc) h rfl
        · exact retE (enc := spec_l3Names.enc) h rfl
def spec_l2Letter.enc (r : Bool) : Res := ([(.d (.p (.bool r)))], [])
def spec_l2Letter.f  (K : Nat) (a0 : Int) : Option (Bool) := if a0 ≥ 97 then (some (decide (a0 ≤ 122))) else (some false)
theorem spec_l2Letter.ev   {K : Nat} {a0 : Int} {r : Bool} (h : spec_l2Letter.f  K a0 = some r) : E 163 [(.d (.p (.int .u8 a0)))] = some ([(.d (.p (.bool r)))], []) := by
  refine Ev_intro (fn := Tryd.f163) rfl (by kernel_rfl) (c := _) rfl ⟨rfl, by simp⟩ rfl (evP_spec _ ?_)
  unfold spec_l2Letter.f at h
  refine goS ?_
  refine iteF h (fun c1 h => ?_) (fun c1 h => ?_)
  · refine Ask.T rfl ?_
    refine Ask.T rfl ?_
    exact retE (enc := spec_l2Letter.enc) h rfl
  · refine Ask.F rfl ?_
    refine Ask.F rfl ?_
    exact retE (enc := spec_l2Letter.enc) h rfl
def spec_IsWord.enc (r : Bool) : Res := ([(.d (.p (.bool r)))], [])
def spec_IsWord.en (a0 : ByteArray) (r : Bool) (S : St) : Prop := endV tb md 150 Tryd.f150 [(.d (.p (.string a0)))] .ret S = some (spec_IsWord.enc r)
def spec_IsWord.l0 (a0 : ByteArray) (K : Nat) : Nat → Int → Option (Bool ⊕ Unit)
  | 0, _ => none
  | k + 1, v1 => if v1 < (a0.size : Int) then ((atS a0 v1).bind fun x3 => ((spec_l2Letter.f K (x3.toNat : Int)).bind fun y4 => (if (!y4) = true then (some (.inl false)) else (spec_IsWord.l0 a0 K k (w64 (v1 + 1)))))) else (some (.inr ()))
def spec_IsWord.f  (K : Nat) (a0 : ByteArray) : Option (Bool) := jn (fun (_ : Unit) => (spec_l1In.f K (a0.size : Int) 1 8).bind fun y7 => (some y7)) (fun j => lb (spec_IsWord.l0 a0 K K 0) (fun r => some r) (fun (_ : Unit) => j ()))
theorem spec_IsWord.ev   {K : Nat} {a0 : ByteArray} {r : Bool} (h : spec_IsWord.f  K a0 = some r) : E 150 [(.d (.p (.string a0)))] = some ([(.d (.p (.bool r)))], []) := by
  refine Ev_intro (fn := Tryd.f150) rfl (by kernel_rfl) (c := _) rfl ⟨rfl, by simp⟩ rfl (evP_spec _ ?_)
  unfold spec_IsWord.f at h
  refine seqJ h 18 (fun x => [(0, (.d (.p (.string a0))))]) (fun x => []) (fun J h => ?_) ?_
  · refine loopB (α := Int) (a := 0) 18 (fun x => [(0, (.d (.p (.string a0)))), (3, (.d (.p (.int .i64 x))))]) (fun x => []) (fun k x => spec_IsWord.l0 a0 K k x) (spec_IsWord.en a0) 0 (fun x => [(0, (.d (.p (.string a0))))]) (fun x => []) h (fun _ => rfl) ?_ ⟨rfl, ⟨rfl, rfl, trivial⟩, trivial⟩ ?_ ?_
    · rintro k v1 r h e hp
      replace h : spec_IsWord.l0 a0 K (k + 1) v1 = some r := h
      unfold spec_IsWord.l0 at h
      refine goS ?_
      refine iteF h (fun c2 h => ?_) (fun c2 h => ?_)
      · refine goS ?_
        refine bindG h fun x3 hx3 h => ?_
        refine exM x3 hx3 ?_
        refine bindG h fun y4 hy5 h => ?_
        refine exM ([(.d (.p (.bool y4)))], []) ?_ ?_
        · exact spec_l2Letter.ev hy5
        refine ifB h (fun c6 h => ?_) (fun c6 h => ?_)
        · exact lqL h rfl
        · exact ⟨(w64 (v1 + 1)), h, ⟨rfl, ⟨rfl, rfl, trivial⟩, trivial⟩⟩
      · refine lqR h ?_
        exact ⟨rfl, ⟨rfl, trivial⟩, trivial⟩
    · intro r' S' h q
      exact retE (enc := spec_IsWord.enc) h q
    · rintro _ S' h ⟨qn, ⟨qa0, _⟩, ⟨_⟩⟩
      exact ⟨(), h, ⟨qn, ⟨qa0, trivial⟩, trivial⟩⟩
  · rintro _ h e hp
    refine bindG h fun y7 hy8 h => ?_
    refine exM ([(.d (.p (.bool y7)))], []) ?_ ?_
    · exact spec_l1In.ev hy8
    exact retE (enc := spec_IsWord.enc) h rfl
def spec_l3Keys.enc (r : List ByteArray) : Res := ([(.own true 1 (r.map eS))], [])
def spec_l3Keys.f  (K : Nat)  : Option (List ByteArray) := some ([(⟨#[102, 117, 110]⟩ : ByteArray), (⟨#[97, 112, 112]⟩ : ByteArray), (⟨#[108, 101, 116]⟩ : ByteArray), (⟨#[114, 101, 99]⟩ : ByteArray), (⟨#[105, 102]⟩ : ByteArray), (⟨#[97, 100, 100]⟩ : ByteArray), (⟨#[115, 117, 98]⟩ : ByteArray), (⟨#[108, 101, 115, 115]⟩ : ByteArray), (⟨#[115, 97, 109, 101]⟩ : ByteArray), (⟨#[112, 97, 105, 114]⟩ : ByteArray), (⟨#[102, 115, 116]⟩ : ByteArray), (⟨#[115, 110, 100]⟩ : ByteArray), (⟨#[110, 105, 108]⟩ : ByteArray), (⟨#[99, 111, 110, 115]⟩ : ByteArray), (⟨#[109, 97, 116, 99, 104]⟩ : ByteArray), (⟨#[114, 101, 102]⟩ : ByteArray), (⟨#[103, 101, 116]⟩ : ByteArray), (⟨#[115, 101, 116]⟩ : ByteArray), (⟨#[114, 97, 105, 115, 101]⟩ : ByteArray), (⟨#[116, 114, 121]⟩ : ByteArray)] : List ByteArray)
theorem spec_l3Keys.ev   {K : Nat}  {r : List ByteArray} (h : spec_l3Keys.f  K  = some r) : E 164 [] = some ([(.own true 1 (r.map eS))], []) := by
  refine Ev_intro (fn := Tryd.f164) rfl (by kernel_rfl) (c := _) rfl ⟨rfl, by simp⟩ rfl (evP_spec _ ?_)
  unfold spec_l3Keys.f at h
  refine eqM (([(⟨#[102, 117, 110]⟩ : ByteArray), (⟨#[97, 112, 112]⟩ : ByteArray), (⟨#[108, 101, 116]⟩ : ByteArray), (⟨#[114, 101, 99]⟩ : ByteArray), (⟨#[105, 102]⟩ : ByteArray), (⟨#[97, 100, 100]⟩ : ByteArray), (⟨#[115, 117, 98]⟩ : ByteArray), (⟨#[108, 101, 115, 115]⟩ : ByteArray), (⟨#[115, 97, 109, 101]⟩ : ByteArray), (⟨#[112, 97, 105, 114]⟩ : ByteArray), (⟨#[102, 115, 116]⟩ : ByteArray), (⟨#[115, 110, 100]⟩ : ByteArray), (⟨#[110, 105, 108]⟩ : ByteArray), (⟨#[99, 111, 110, 115]⟩ : ByteArray), (⟨#[109, 97, 116, 99, 104]⟩ : ByteArray), (⟨#[114, 101, 102]⟩ : ByteArray), (⟨#[103, 101, 116]⟩ : ByteArray), (⟨#[115, 101, 116]⟩ : ByteArray), (⟨#[114, 97, 105, 115, 101]⟩ : ByteArray), (⟨#[116, 114, 121]⟩ : ByteArray)] : List ByteArray).map eS) rfl ?_
  exact retE (enc := spec_l3Keys.enc) h rfl
def spec_IsKey.enc (r : Bool) : Res := ([(.d (.p (.bool r)))], [])
def spec_IsKey.en (a0 : ByteArray) (r : Bool) (S : St) : Prop := endV tb md 151 Tryd.f151 [(.d (.p (.string a0)))] .ret S = some (spec_IsKey.enc r)
def spec_IsKey.l0 (a0 : ByteArray) (y1 : List ByteArray) (K : Nat) : Nat → Int → Option (Bool ⊕ Unit)
  | 0, _ => none
  | k + 1, v3 => if v3 < (y1.length : Int) then ((at_ y1 v3).bind fun x5 => (if (x5.toList == a0.toList) = true then (some (.inl true)) else (spec_IsKey.l0 a0 y1 K k (w64 (v3 + 1))))) else (some (.inr ()))
def spec_IsKey.f  (K : Nat) (a0 : ByteArray) : Option (Bool) := (spec_l3Keys.f K).bind fun y1 => (jn (fun (_ : Unit) => some false) (fun j => lb (spec_IsKey.l0 a0 y1 K K 0) (fun r => some r) (fun (_ : Unit) => j ())))
theorem spec_IsKey.ev   {K : Nat} {a0 : ByteArray} {r : Bool} (h : spec_IsKey.f  K a0 = some r) : E 151 [(.d (.p (.string a0)))] = some ([(.d (.p (.bool r)))], []) := by
  refine Ev_intro (fn := Tryd.f151) rfl (by kernel_rfl) (c := _) rfl ⟨rfl, by simp⟩ rfl (evP_spec _ ?_)
  unfold spec_IsKey.f at h
  refine bindG h fun y1 hy2 h => ?_
  refine exM ([(.own true 1 (y1.map eS))], []) ?_ ?_
  · exact spec_l3Keys.ev hy2
  refine seqJ h 18 (fun x => []) (fun x => []) (fun J h => ?_) ?_
  · refine loopB (α := Int) (a := 0) 18 (fun x => [(0, (.d (.p (.string a0)))), (3, (.own 3 1 2)), (4, (.d (.p (.int .i64 x))))]) (fun x => [(3, 1, 2, (some (.row true true 1 (y1.map eS))))]) (fun k x => spec_IsKey.l0 a0 y1 K k x) (spec_IsKey.en a0) 0 (fun x => []) (fun x => []) h (fun _ => rfl) ?_ ⟨rfl, ⟨rfl, rfl, rfl, trivial⟩, ⟨rfl, trivial⟩⟩ ?_ ?_
    · rintro k v3 r h e hp
      replace h : spec_IsKey.l0 a0 y1 K (k + 1) v3 = some r := h
      unfold spec_IsKey.l0 at h
      refine goS ?_
      refine eqM ((y1.length : Int) : Int) (mLen rfl) ?_
      refine iteF h (fun c4 h => ?_) (fun c4 h => ?_)
      · refine goS ?_
        refine bindG h fun x5 hx5 h => ?_
        refine anM (at_ix rfl hx5) ?_
        refine exM (eS x5) (at_get rfl hx5) ?_
        refine ifB h (fun c6 h => ?_) (fun c6 h => ?_)
        · exact lqL h rfl
        · exact ⟨(w64 (v3 + 1)), h, ⟨rfl, ⟨rfl, rfl, rfl, trivial⟩, ⟨rfl, trivial⟩⟩⟩
      · refine lqR h ?_
        exact ⟨rfl, trivial, trivial⟩
    · intro r' S' h q
      exact retE (enc := spec_IsKey.enc) h q
    · rintro _ S' h ⟨qn, ⟨_⟩, ⟨_⟩⟩
      exact ⟨(), h, ⟨qn, trivial, trivial⟩⟩
  · rintro _ h e hp
    exact retE (enc := spec_IsKey.enc) h rfl
def spec_l3Name.enc (r : Bool) : Res := ([(.d (.p (.bool r)))], [])
def spec_l3Name.f  (K : Nat) (a0 : ByteArray) : Option (Bool) := (spec_IsWord.f K a0).bind fun y1 => (if y1 = true then ((spec_IsKey.f K a0).bind fun y4 => (some (!y4))) else (some false))
theorem spec_l3Name.ev   {K : Nat} {a0 : ByteArray} {r : Bool} (h : spec_l3Name.f  K a0 = some r) : E 137 [(.d (.p (.string a0)))] = some ([(.d (.p (.bool r)))], []) := by
  refine Ev_intro (fn := Tryd.f137) rfl (by kernel_rfl) (c := _) rfl ⟨rfl, by simp⟩ rfl (evP_spec _ ?_)
  unfold spec_l3Name.f at h
  refine goS ?_
  refine bindG h fun y1 hy2 h => ?_
  refine exM ([(.d (.p (.bool y1)))], []) ?_ ?_
  · exact spec_IsWord.ev hy2
  refine ifB h (fun c3 h => ?_) (fun c3 h => ?_)
  · refine Ask.T rfl ?_
    refine bindG h fun y4 hy5 h => ?_
    refine exM ([(.d (.p (.bool y4)))], []) ?_ ?_
    · exact spec_IsKey.ev hy5
    refine Ask.T rfl ?_
    refine Ask.T rfl ?_
    exact retE (enc := spec_l3Name.enc) h rfl
  · refine Ask.F rfl ?_
    refine Ask.F rfl ?_
    refine Ask.F rfl ?_
    exact retE (enc := spec_l3Name.enc) h rfl
def spec_l3Fields.enc (r : Bool) : Res := ([(.d (.p (.bool r)))], [])
def spec_l3Fields.f  (K : Nat) (a0 : impl_Node) : Option (Bool) := (spec_l1In.f K a0.Kind 1 19).bind fun y1 => (if (!y1) = true then (some false) else ((spec_Arity.f K a0.Kind).bind fun y4 => (jn (fun (v6 : Bool) => if v6 = true then (some false) else ((spec_l3Names.f K a0.Kind).bind fun y18 => (jn (fun (v20 : Bool) => if v20 = true then (some false) else (if a0.Kind = 2 then ((spec_l1In.f K a0.N 0 65535).bind fun y36 => (some y36)) else (if a0.Kind = 8 then ((spec_l1In.f K a0.N 0 3).bind fun y39 => (some y39)) else (some (decide (a0.N = 0)))))) (fun j => (spec_l3Name.f K a0.Name).bind fun y21 => (if ((decide (y18 > 0)) != y21) = true then (j true) else (if y18 = 0 then (if (!(a0.Name.toList == (⟨#[]⟩ : ByteArray).toList)) = true then (j true) else ((spec_l3Name.f K a0.Other).bind fun y26 => (if ((decide (y18 > 1)) != y26) = true then (j true) else (if y18 < 2 then (j (!(a0.Other.toList == (⟨#[]⟩ : ByteArray).toList))) else (j false))))) else ((spec_l3Name.f K a0.Other).bind fun y30 => (if ((decide (y18 > 1)) != y30) = true then (j true) else (if y18 < 2 then (j (!(a0.Other.toList == (⟨#[]⟩ : ByteArray).toList))) else (j false)))))))))) (fun j => if y4 < 1 then (if (!(decide (a0.A = 0))) = true then (j true) else (if y4 < 2 then (if (!(decide (a0.B = 0))) = true then (j true) else (if y4 < 3 then (j (!(decide (a0.C = 0)))) else (j false))) else (if y4 < 3 then (j (!(decide (a0.C = 0)))) else (j false)))) else (if y4 < 2 then (if (!(decide (a0.B = 0))) = true then (j true) else (if y4 < 3 then (j (!(decide (a0.C = 0)))) else (j false))) else (if y4 < 3 then (j (!(decide (a0.C = 0)))) else (j false)))))))
theorem spec_l3Fields.ev   {K : Nat} {a0 : impl_Node} {r : Bool} (h : spec_l3Fields.f  K a0 = some r) : E 120 [(.agg (a0.e.map .d))] = some ([(.d (.p (.bool r)))], []) := by
  refine Ev_intro (fn := Tryd.f120) rfl (by kernel_rfl) (c := _) rfl ⟨rfl, by simp⟩ rfl (evP_spec _ ?_)
  unfold spec_l3Fields.f at h
  refine goS ?_
  refine bindG h fun y1 hy2 h => ?_
  refine exM ([(.d (.p (.bool y1)))], []) ?_ ?_
  · exact spec_l1In.ev hy2
  refine ifB h (fun c3 h => ?_) (fun c3 h => ?_)
  · exact retE (enc := spec_l3Fields.enc) h rfl
  · refine bindG h fun y4 hy5 h => ?_
    refine exM ([(.d (.p (.int .i64 y4)))], []) ?_ ?_
    · exact spec_Arity.ev hy5
    refine goS ?_
    refine seqJ h 87 (fun x => [(1, (.ptr 1 0 2 0)), (36, (.d (.p (.bool x))))]) (fun x => [(1, 0, 2, (some (.box [(.d (.p (.int .i64 a0.Kind))), (.d (.p (.int .i64 a0.A))), (.d (.p (.int .i64 a0.B))), (.d (.p (.int .i64 a0.C))), (.d (.p (.int .i64 a0.N))), (.d (.p (.string a0.Name))), (.d (.p (.string a0.Other)))])))]) (fun J h => ?_) ?_
    · refine iteF h (fun c7 h => ?_) (fun c7 h => ?_)
      · refine Ask.T rfl ?_
        refine Ask.T rfl ?_
        refine Ask.T rfl ?_
        refine ifB h (fun c8 h => ?_) (fun c8 h => ?_)
        · refine Ask.T rfl ?_
          refine Ask.T rfl ?_
          refine Ask.T rfl ?_
          refine Ask.T rfl ?_
          refine Ask.T rfl ?_
          refine Ask.T rfl ?_
          refine Ask.T rfl ?_
          refine Ask.T rfl ?_
          refine Ask.T rfl ?_
          exact ⟨true, h, ⟨rfl, ⟨rfl, rfl, trivial⟩, ⟨rfl, trivial⟩⟩⟩
        · refine Ask.F rfl ?_
          refine Ask.F rfl ?_
          refine iteF h (fun c9 h => ?_) (fun c9 h => ?_)
          · refine Ask.T rfl ?_
            refine Ask.T rfl ?_
            refine Ask.F rfl ?_
            refine Ask.T rfl ?_
            refine Ask.F rfl ?_
            refine ifB h (fun c10 h => ?_) (fun c10 h => ?_)
            · refine Ask.T rfl ?_
              refine Ask.T rfl ?_
              refine Ask.T rfl ?_
              refine Ask.T rfl ?_
              exact ⟨true, h, ⟨rfl, ⟨rfl, rfl, trivial⟩, ⟨rfl, trivial⟩⟩⟩
            · refine Ask.F rfl ?_
              refine Ask.F rfl ?_
              refine iteF h (fun c11 h => ?_) (fun c11 h => ?_)
              · refine Ask.T rfl ?_
                refine Ask.T rfl ?_
                refine Ask.F rfl ?_
                refine Ask.T rfl ?_
                refine Ask.F rfl ?_
                exact ⟨(!(decide (a0.C = 0))), h, ⟨rfl, ⟨rfl, rfl, trivial⟩, ⟨rfl, trivial⟩⟩⟩
              · refine Ask.F rfl ?_
                refine Ask.F rfl ?_
                refine Ask.F rfl ?_
                refine Ask.F rfl ?_
                refine Ask.F rfl ?_
                exact ⟨false, h, ⟨rfl, ⟨rfl, rfl, trivial⟩, ⟨rfl, trivial⟩⟩⟩
          · refine Ask.F rfl ?_
            refine Ask.F rfl ?_
            refine Ask.F rfl ?_
            refine Ask.F rfl ?_
            refine Ask.F rfl ?_
            refine Ask.F rfl ?_
            refine Ask.F rfl ?_
            refine Ask.F rfl ?_
            refine iteF h (fun c12 h => ?_) (fun c12 h => ?_)
            · refine Ask.T rfl ?_
              refine Ask.T rfl ?_
              refine Ask.F rfl ?_
              refine Ask.T rfl ?_
              refine Ask.F rfl ?_
              exact ⟨(!(decide (a0.C = 0))), h, ⟨rfl, ⟨rfl, rfl, trivial⟩, ⟨rfl, trivial⟩⟩⟩
            · refine Ask.F rfl ?_
              refine Ask.F rfl ?_
              refine Ask.F rfl ?_
              refine Ask.F rfl ?_
              refine Ask.F rfl ?_
              exact ⟨false, h, ⟨rfl, ⟨rfl, rfl, trivial⟩, ⟨rfl, trivial⟩⟩⟩
      · refine Ask.F rfl ?_
        refine Ask.F rfl ?_
        refine Ask.F rfl ?_
        refine Ask.F rfl ?_
        refine Ask.F rfl ?_
        refine Ask.F rfl ?_
        refine iteF h (fun c13 h => ?_) (fun c13 h => ?_)
        · refine Ask.T rfl ?_
          refine Ask.T rfl ?_
          refine Ask.F rfl ?_
          refine Ask.T rfl ?_
          refine Ask.F rfl ?_
          refine ifB h (fun c14 h => ?_) (fun c14 h => ?_)
          · refine Ask.T rfl ?_
            refine Ask.T rfl ?_
            refine Ask.T rfl ?_
            refine Ask.T rfl ?_
            exact ⟨true, h, ⟨rfl, ⟨rfl, rfl, trivial⟩, ⟨rfl, trivial⟩⟩⟩
          · refine Ask.F rfl ?_
            refine Ask.F rfl ?_
            refine iteF h (fun c15 h => ?_) (fun c15 h => ?_)
            · refine Ask.T rfl ?_
              refine Ask.T rfl ?_
              refine Ask.F rfl ?_
              refine Ask.T rfl ?_
              refine Ask.F rfl ?_
              exact ⟨(!(decide (a0.C = 0))), h, ⟨rfl, ⟨rfl, rfl, trivial⟩, ⟨rfl, trivial⟩⟩⟩
            · refine Ask.F rfl ?_
              refine Ask.F rfl ?_
              refine Ask.F rfl ?_
              refine Ask.F rfl ?_
              refine Ask.F rfl ?_
              exact ⟨false, h, ⟨rfl, ⟨rfl, rfl, trivial⟩, ⟨rfl, trivial⟩⟩⟩
        · refine Ask.F rfl ?_
          refine Ask.F rfl ?_
          refine Ask.F rfl ?_
          refine Ask.F rfl ?_
          refine Ask.F rfl ?_
          refine Ask.F rfl ?_
          refine Ask.F rfl ?_
          refine Ask.F rfl ?_
          refine iteF h (fun c16 h => ?_) (fun c16 h => ?_)
          · refine Ask.T rfl ?_
            refine Ask.T rfl ?_
            refine Ask.F rfl ?_
            refine Ask.T rfl ?_
            refine Ask.F rfl ?_
            exact ⟨(!(decide (a0.C = 0))), h, ⟨rfl, ⟨rfl, rfl, trivial⟩, ⟨rfl, trivial⟩⟩⟩
          · refine Ask.F rfl ?_
            refine Ask.F rfl ?_
            refine Ask.F rfl ?_
            refine Ask.F rfl ?_
            refine Ask.F rfl ?_
            exact ⟨false, h, ⟨rfl, ⟨rfl, rfl, trivial⟩, ⟨rfl, trivial⟩⟩⟩
    · rintro v6 h e hp
      refine ifB h (fun c17 h => ?_) (fun c17 h => ?_)
      · exact retE (enc := spec_l3Fields.enc) h rfl
      · refine bindG h fun y18 hy19 h => ?_
        refine exM ([(.d (.p (.int .i64 y18)))], []) ?_ ?_
        · exact spec_l3Names.ev hy19
        refine goS ?_
        refine seqJ h 87 (fun x => [(1, (.ptr 1 0 2 0)), (71, (.d (.p (.bool x))))]) (fun x => [(1, 0, 2, (some (.box [(.d (.p (.int .i64 a0.Kind))), (.d (.p (.int .i64 a0.A))), (.d (.p (.int .i64 a0.B))), (.d (.p (.int .i64 a0.C))), (.d (.p (.int .i64 a0.N))), (.d (.p (.string a0.Name))), (.d (.p (.string a0.Other)))])))]) (fun J h => ?_) ?_
        · refine bindG h fun y21 hy22 h => ?_
          refine exM ([(.d (.p (.bool y21)))], []) ?_ ?_
          · exact spec_l3Name.ev hy22
          refine ifB h (fun c23 h => ?_) (fun c23 h => ?_)
          · refine Ask.T rfl ?_
            refine Ask.T rfl ?_
            refine Ask.T rfl ?_
            refine Ask.T rfl ?_
            refine Ask.T rfl ?_
            refine Ask.T rfl ?_
            refine Ask.T rfl ?_
            refine Ask.T rfl ?_
            refine Ask.T rfl ?_
            refine Ask.T rfl ?_
            refine Ask.T rfl ?_
            refine Ask.T rfl ?_
            refine Ask.T rfl ?_
            refine Ask.T rfl ?_
            refine Ask.T rfl ?_
            refine Ask.T rfl ?_
            exact ⟨true, h, ⟨rfl, ⟨rfl, rfl, trivial⟩, ⟨rfl, trivial⟩⟩⟩
          · refine Ask.F rfl ?_
            refine Ask.F rfl ?_
            refine iteF h (fun c24 h => ?_) (fun c24 h => ?_)
            · refine Ask.T rfl ?_
              refine Ask.T rfl ?_
              refine Ask.F rfl ?_
              refine Ask.T rfl ?_
              refine Ask.F rfl ?_
              refine ifB h (fun c25 h => ?_) (fun c25 h => ?_)
              · refine Ask.T rfl ?_
                refine Ask.T rfl ?_
                refine Ask.T rfl ?_
                refine Ask.T rfl ?_
                refine Ask.T rfl ?_
                refine Ask.T rfl ?_
                refine Ask.T rfl ?_
                refine Ask.T rfl ?_
                refine Ask.T rfl ?_
                refine Ask.T rfl ?_
                refine Ask.T rfl ?_
                exact ⟨true, h, ⟨rfl, ⟨rfl, rfl, trivial⟩, ⟨rfl, trivial⟩⟩⟩
              · refine Ask.F rfl ?_
                refine Ask.F rfl ?_
                refine Ask.F rfl ?_
                refine Ask.F rfl ?_
                refine bindG h fun y26 hy27 h => ?_
                refine exM ([(.d (.p (.bool y26)))], []) ?_ ?_
                · exact spec_l3Name.ev hy27
                refine Ask.F rfl ?_
                refine Ask.F rfl ?_
                refine ifB h (fun c28 h => ?_) (fun c28 h => ?_)
                · refine Ask.T rfl ?_
                  refine Ask.T rfl ?_
                  refine Ask.T rfl ?_
                  refine Ask.T rfl ?_
                  exact ⟨true, h, ⟨rfl, ⟨rfl, rfl, trivial⟩, ⟨rfl, trivial⟩⟩⟩
                · refine Ask.F rfl ?_
                  refine Ask.F rfl ?_
                  refine iteF h (fun c29 h => ?_) (fun c29 h => ?_)
                  · refine Ask.T rfl ?_
                    refine Ask.T rfl ?_
                    refine Ask.F rfl ?_
                    refine Ask.T rfl ?_
                    refine Ask.F rfl ?_
                    exact ⟨(!(a0.Other.toList == (⟨#[]⟩ : ByteArray).toList)), h, ⟨rfl, ⟨rfl, rfl, trivial⟩, ⟨rfl, trivial⟩⟩⟩
                  · refine Ask.F rfl ?_
                    refine Ask.F rfl ?_
                    refine Ask.F rfl ?_
                    refine Ask.F rfl ?_
                    refine Ask.F rfl ?_
                    exact ⟨false, h, ⟨rfl, ⟨rfl, rfl, trivial⟩, ⟨rfl, trivial⟩⟩⟩
            · refine Ask.F rfl ?_
              refine Ask.F rfl ?_
              refine Ask.F rfl ?_
              refine Ask.F rfl ?_
              refine Ask.F rfl ?_
              refine Ask.F rfl ?_
              refine Ask.F rfl ?_
              refine Ask.F rfl ?_
              refine Ask.F rfl ?_
              refine Ask.F rfl ?_
              refine bindG h fun y30 hy31 h => ?_
              refine exM ([(.d (.p (.bool y30)))], []) ?_ ?_
              · exact spec_l3Name.ev hy31
              refine Ask.F rfl ?_
              refine Ask.F rfl ?_
              refine ifB h (fun c32 h => ?_) (fun c32 h => ?_)
              · refine Ask.T rfl ?_
                refine Ask.T rfl ?_
                refine Ask.T rfl ?_
                refine Ask.T rfl ?_
                exact ⟨true, h, ⟨rfl, ⟨rfl, rfl, trivial⟩, ⟨rfl, trivial⟩⟩⟩
              · refine Ask.F rfl ?_
                refine Ask.F rfl ?_
                refine iteF h (fun c33 h => ?_) (fun c33 h => ?_)
                · refine Ask.T rfl ?_
                  refine Ask.T rfl ?_
                  refine Ask.F rfl ?_
                  refine Ask.T rfl ?_
                  refine Ask.F rfl ?_
                  exact ⟨(!(a0.Other.toList == (⟨#[]⟩ : ByteArray).toList)), h, ⟨rfl, ⟨rfl, rfl, trivial⟩, ⟨rfl, trivial⟩⟩⟩
                · refine Ask.F rfl ?_
                  refine Ask.F rfl ?_
                  refine Ask.F rfl ?_
                  refine Ask.F rfl ?_
                  refine Ask.F rfl ?_
                  exact ⟨false, h, ⟨rfl, ⟨rfl, rfl, trivial⟩, ⟨rfl, trivial⟩⟩⟩
        · rintro v20 h e hp
          refine ifB h (fun c34 h => ?_) (fun c34 h => ?_)
          · exact retE (enc := spec_l3Fields.enc) h rfl
          · refine goS ?_
            refine iteF h (fun c35 h => ?_) (fun c35 h => ?_)
            · refine bindG h fun y36 hy37 h => ?_
              refine exM ([(.d (.p (.bool y36)))], []) ?_ ?_
              · exact spec_l1In.ev hy37
              exact retE (enc := spec_l3Fields.enc) h rfl
            · refine iteF h (fun c38 h => ?_) (fun c38 h => ?_)
              · refine bindG h fun y39 hy40 h => ?_
                refine exM ([(.d (.p (.bool y39)))], []) ?_ ?_
                · exact spec_l1In.ev hy40
                exact retE (enc := spec_l3Fields.enc) h rfl
              · exact retE (enc := spec_l3Fields.enc) h rfl
def spec_Kids.enc (r : List Int) : Res := ([(.own true 1 (r.map eI))], [])
def spec_Kids.f  (K : Nat) (a0 : impl_Node) : Option (List Int) := (spec_Arity.f K a0.Kind).bind fun y1 => (gd (0 ≤ (0 : Int) ∧ (0 : Int) ≤ y1 ∧ y1 ≤ (([a0.A, a0.B, a0.C] : List Int).length : Int)) (some (([a0.A, a0.B, a0.C] : List Int).take (y1).toNat)))
theorem spec_Kids.ev   {K : Nat} {a0 : impl_Node} {r : List Int} (h : spec_Kids.f  K a0 = some r) : E 100 [(.agg (a0.e.map .d))] = some ([(.own true 1 (r.map eI))], []) := by
  refine Ev_intro (fn := Tryd.f100) rfl (by kernel_rfl) (c := _) rfl ⟨rfl, by simp⟩ rfl (evP_spec _ ?_)
  unfold spec_Kids.f at h
  refine ⟨[[5, 6, 7, 8, 10, 11, 12], [5, 6, 7, 8, 10, 11, 12], [3, 4, 7, 8, 10, 11, 12], [3, 4, 7, 8, 10, 11, 12], [3, 4, 5, 6, 10, 11, 12], [3, 4, 5, 6, 10, 11, 12], [10, 11, 12], [3, 4, 5, 6, 7, 8, 9], [3, 4, 5, 6, 7, 8, 9], [3, 4, 5, 6, 7, 8, 9], [], []], by kernel_rfl, ?_⟩
  refine eqM (([a0.A, a0.B, a0.C] : List Int).map eI) rfl ?_
  refine bindG h fun y1 hy2 h => ?_
  refine exM ([(.d (.p (.int .i64 y1)))], []) ?_ ?_
  · exact spec_Arity.ev hy2
  refine gdG h fun hc h => ?_
  refine anM (slB hc) ?_
  refine eqM ((([a0.A, a0.B, a0.C] : List Int).take (y1).toNat).map eI) (mTake rfl) ?_
  exact retE (enc := spec_Kids.enc) h rfl
def spec_l3Starts.enc (r : List Int × Bool) : Res := ([(.own true 1 (r.1.map eI)), (.d (.p (.bool r.2)))], [])
def spec_l3Starts.en (a0 : List impl_Node) (r : List Int × Bool) (S : St) : Prop := endV tb md 94 Tryd.f94 [(.d (.l true 7 (a0.map impl_Node.e)))] .ret S = some (spec_l3Starts.enc r)
def spec_l3Starts.l1 (v3 : List Int) (y10 : List Int) (K : Nat) : Nat → Int → Int → Option ((List Int × Bool) ⊕ Int)
  | 0, _, _ => none
  | k + 1, v13, v14 => if v14 ≥ 0 then (jn (fun (v17 : Bool) => if v17 = true then (some (.inl (([] : List Int), false))) else ((at_ y10 v14).bind fun x21 => ((at_ v3 x21).bind fun x22 => (spec_l3Starts.l1 v3 y10 K k x22 (w64 (v14 - 1)))))) (fun j => (at_ y10 v14).bind fun x18 => (if (!(decide (x18 = (w64 (v13 - 1))))) = true then (j true) else (j (decide (x18 < 0)))))) else (some (.inr v13))
def spec_l3Starts.l0 (a0 : List impl_Node) (K : Nat) : Nat → Int → (List Int) → Option ((List Int × Bool) ⊕ (List Int))
  | 0, _, _ => none
  | k + 1, v2, v3 => if v2 < (a0.length : Int) then ((at_ a0 v2).bind fun x6 => ((spec_l3Fields.f K x6).bind fun y7 => (if (!y7) = true then (some (.inl (([] : List Int), false))) else ((spec_Kids.f K x6).bind fun y10 => (jn (fun (v12 : Int) => gd ((v3.length + 1) * 8 ≤ 140737488355328) (spec_l3Starts.l0 a0 K k (w64 (v2 + 1)) (v3 ++ ([v12] : List Int)))) (fun j => lb (spec_l3Starts.l1 v3 y10 K K v2 (w64 ((y10.length : Int) - 1))) (fun r => some (.inl r)) (fun (v15 : Int) => j v15))))))) else (some (.inr v3))
def spec_l3Starts.f  (K : Nat) (a0 : List impl_Node) : Option (List Int × Bool) := jn (fun (v1 : List Int) => some (v1, true)) (fun j => lb (spec_l3Starts.l0 a0 K K 0 ([] : List Int)) (fun r => some r) (fun (v4 : List Int) => j v4))
theorem spec_l3Starts.ev   {K : Nat} {a0 : List impl_Node} {r : List Int × Bool} (h : spec_l3Starts.f  K a0 = some r) : E 94 [(.d (.l true 7 (a0.map impl_Node.e)))] = some ([(.own true 1 (r.1.map eI)), (.d (.p (.bool r.2)))], []) := by
  refine Ev_intro (fn := Tryd.f94) rfl (by kernel_rfl) (c := _) rfl ⟨rfl, by simp⟩ rfl (evP_spec _ ?_)
  unfold spec_l3Starts.f at h
  refine eqM (([] : List Int).map eI) rfl ?_
  refine seqJ h 63 (fun x => [(4, (.own 4 1 2))]) (fun x => [(4, 1, 2, (some (.row true true 1 (x.map eI))))]) (fun J h => ?_) ?_
  · refine loopB (α := Int × List Int) (a := (0, ([] : List Int))) 63 (fun x => [(0, (.d (.l true 7 (a0.map impl_Node.e)))), (4, (.own 4 1 2)), (5, (.d (.p (.int .i64 x.1))))]) (fun x => [(4, 1, 2, (some (.row true true 1 (x.2.map eI))))]) (fun k x => spec_l3Starts.l0 a0 K k x.1 x.2) (spec_l3Starts.en a0) 0 (fun x => [(4, (.own 4 1 2))]) (fun x => [(4, 1, 2, (some (.row true true 1 (x.map eI))))]) h (fun _ => rfl) ?_ ⟨rfl, ⟨rfl, rfl, rfl, trivial⟩, ⟨rfl, trivial⟩⟩ ?_ ?_
    · rintro k ⟨v2, v3⟩ r h e hp
      replace h : spec_l3Starts.l0 a0 K (k + 1) v2 v3 = some r := h
      unfold spec_l3Starts.l0 at h
      refine goS ?_
      refine eqM ((a0.length : Int) : Int) (mLen rfl) ?_
      refine iteF h (fun c5 h => ?_) (fun c5 h => ?_)
      · refine goS ?_
        refine goS ?_
        refine bindG h fun x6 hx6 h => ?_
        refine anM (at_ix rfl hx6) ?_
        refine exM (impl_Node.e x6) (at_get rfl hx6) ?_
        refine bindG h fun y7 hy8 h => ?_
        refine exM ([(.d (.p (.bool y7)))], []) ?_ ?_
        · exact spec_l3Fields.ev hy8
        refine ifB h (fun c9 h => ?_) (fun c9 h => ?_)
        · refine eqM (([] : List Int).map eI) rfl ?_
          exact lqL h rfl
        · refine anM (at_ix rfl hx6) ?_
          refine exM (impl_Node.e x6) (at_get rfl hx6) ?_
          refine bindG h fun y10 hy11 h => ?_
          refine exM ([(.own true 1 (y10.map eI))], []) ?_ ?_
          · exact spec_Kids.ev hy11
          refine seqJ h 63 (fun x => [(0, (.d (.l true 7 (a0.map impl_Node.e)))), (4, (.own 4 1 2)), (5, (.d (.p (.int .i64 v2)))), (6, (.d (.p (.int .i64 x))))]) (fun x => [(4, 1, 2, (some (.row true true 1 (v3.map eI))))]) (fun J h => ?_) ?_
          · refine eqM ((y10.length : Int) : Int) (mLen rfl) ?_
            refine loopB (α := Int × Int) (a := (v2, (w64 ((y10.length : Int) - 1)))) 63 (fun x => [(0, (.d (.l true 7 (a0.map impl_Node.e)))), (4, (.own 4 1 2)), (5, (.d (.p (.int .i64 v2)))), (6, (.d (.p (.int .i64 x.1)))), (7, (.own 7 1 2)), (8, (.d (.p (.int .i64 x.2))))]) (fun x => [(4, 1, 2, (some (.row true true 1 (v3.map eI)))), (7, 1, 2, (some (.row true true 1 (y10.map eI))))]) (fun k x => spec_l3Starts.l1 v3 y10 K k x.1 x.2) (spec_l3Starts.en a0) 2 (fun x => [(0, (.d (.l true 7 (a0.map impl_Node.e)))), (4, (.own 4 1 2)), (5, (.d (.p (.int .i64 v2)))), (6, (.d (.p (.int .i64 x))))]) (fun x => [(4, 1, 2, (some (.row true true 1 (v3.map eI))))]) h (fun _ => rfl) ?_ ⟨rfl, ⟨rfl, rfl, rfl, rfl, rfl, rfl, trivial⟩, ⟨rfl, rfl, trivial⟩⟩ ?_ ?_
            · rintro k ⟨v13, v14⟩ r h e hp
              replace h : spec_l3Starts.l1 v3 y10 K (k + 1) v13 v14 = some r := h
              unfold spec_l3Starts.l1 at h
              refine goS ?_
              refine iteF h (fun c16 h => ?_) (fun c16 h => ?_)
              · refine goS ?_
                refine goS ?_
                refine seqJ h 63 (fun x => [(0, (.d (.l true 7 (a0.map impl_Node.e)))), (4, (.own 4 1 2)), (5, (.d (.p (.int .i64 v2)))), (7, (.own 7 1 2)), (8, (.d (.p (.int .i64 v14)))), (49, (.d (.p (.bool x))))]) (fun x => [(4, 1, 2, (some (.row true true 1 (v3.map eI)))), (7, 1, 2, (some (.row true true 1 (y10.map eI))))]) (fun J h => ?_) ?_
                · refine bindG h fun x18 hx18 h => ?_
                  refine anM (at_ix rfl hx18) ?_
                  refine exM (eI x18) (at_get rfl hx18) ?_
                  refine ifB h (fun c19 h => ?_) (fun c19 h => ?_)
                  · refine Ask.T rfl ?_
                    refine Ask.T rfl ?_
                    refine Ask.T rfl ?_
                    refine Ask.T rfl ?_
                    refine Ask.T rfl ?_
                    exact ⟨true, h, ⟨rfl, ⟨rfl, rfl, rfl, rfl, rfl, rfl, trivial⟩, ⟨rfl, rfl, trivial⟩⟩⟩
                  · refine Ask.F rfl ?_
                    refine Ask.F rfl ?_
                    refine anM (at_ix rfl hx18) ?_
                    refine Ask.F rfl ?_
                    refine exM (eI x18) (at_get rfl hx18) ?_
                    refine Ask.F rfl ?_
                    refine Ask.F rfl ?_
                    exact ⟨(decide (x18 < 0)), h, ⟨rfl, ⟨rfl, rfl, rfl, rfl, rfl, rfl, trivial⟩, ⟨rfl, rfl, trivial⟩⟩⟩
                · rintro v17 h e hp
                  refine ifB h (fun c20 h => ?_) (fun c20 h => ?_)
                  · refine eqM (([] : List Int).map eI) rfl ?_
                    exact lqL h rfl
                  · refine bindG h fun x21 hx21 h => ?_
                    refine anM (at_ix rfl hx21) ?_
                    refine exM (eI x21) (at_get rfl hx21) ?_
                    refine bindG h fun x22 hx22 h => ?_
                    refine anM (at_ix rfl hx22) ?_
                    refine exM (eI x22) (at_get rfl hx22) ?_
                    exact ⟨(x22, (w64 (v14 - 1))), h, ⟨rfl, ⟨rfl, rfl, rfl, rfl, rfl, rfl, trivial⟩, ⟨rfl, rfl, trivial⟩⟩⟩
              · refine lqR h ?_
                exact ⟨rfl, ⟨rfl, rfl, rfl, rfl, trivial⟩, ⟨rfl, trivial⟩⟩
            · intro r' S' h q
              exact lqL h q
            · rintro v15 S' h ⟨qn, ⟨qa0, qa1, qa2, qa3, _⟩, ⟨qb0, _⟩⟩
              exact ⟨v15, h, ⟨qn, ⟨qa0, qa1, qa2, qa3, trivial⟩, ⟨qb0, trivial⟩⟩⟩
          · rintro v12 h e hp
            refine eqM (([v12] : List Int).map eI) rfl ?_
            refine gdG h fun hc h => ?_
            refine anM (apB hc) ?_
            refine eqM ((v3 ++ ([v12] : List Int)).map eI) (mApp rfl rfl) ?_
            exact ⟨((w64 (v2 + 1)), (v3 ++ ([v12] : List Int))), h, ⟨rfl, ⟨rfl, rfl, rfl, trivial⟩, ⟨rfl, trivial⟩⟩⟩
      · refine lqR h ?_
        exact ⟨rfl, ⟨rfl, trivial⟩, ⟨rfl, trivial⟩⟩
    · intro r' S' h q
      exact retE (enc := spec_l3Starts.enc) h q
    · rintro v4 S' h ⟨qn, ⟨qa0, _⟩, ⟨qb0, _⟩⟩
      exact ⟨v4, h, ⟨qn, ⟨qa0, trivial⟩, ⟨qb0, trivial⟩⟩⟩
  · rintro v1 h e hp
    exact retE (enc := spec_l3Starts.enc) h rfl
def spec_NodesOk.enc (r : Bool) : Res := ([(.d (.p (.bool r)))], [])
def spec_NodesOk.f  (K : Nat) (a0 : List impl_Node) : Option (Bool) := (spec_l1In.f K (a0.length : Int) 1 150).bind fun y1 => (if (!y1) = true then (some false) else ((spec_l3Starts.f K a0).bind fun (y4, y5) => (if y5 = true then ((at_ y4 (w64 ((a0.length : Int) - 1))).bind fun x8 => (some (decide (x8 = 0)))) else (some false))))
theorem spec_NodesOk.ev   {K : Nat} {a0 : List impl_Node} {r : Bool} (h : spec_NodesOk.f  K a0 = some r) : E 49 [(.d (.l true 7 (a0.map impl_Node.e)))] = some ([(.d (.p (.bool r)))], []) := by
  refine Ev_intro (fn := Tryd.f49) rfl (by kernel_rfl) (c := _) rfl ⟨rfl, by simp⟩ rfl (evP_spec _ ?_)
  unfold spec_NodesOk.f at h
  refine goS ?_
  refine eqM ((a0.length : Int) : Int) (mLen rfl) ?_
  refine bindG h fun y1 hy2 h => ?_
  refine exM ([(.d (.p (.bool y1)))], []) ?_ ?_
  · exact spec_l1In.ev hy2
  refine ifB h (fun c3 h => ?_) (fun c3 h => ?_)
  · exact retE (enc := spec_NodesOk.enc) h rfl
  · refine bindG h ?_
    rintro ⟨y4, y5⟩ hy6 h
    refine exM ([(.own true 1 (y4.map eI)), (.d (.p (.bool y5)))], []) ?_ ?_
    · exact spec_l3Starts.ev hy6
    refine goS ?_
    refine ifB h (fun c7 h => ?_) (fun c7 h => ?_)
    · refine Ask.T rfl ?_
      refine Ask.T rfl ?_
      refine eqM ((a0.length : Int) : Int) (mLen rfl) ?_
      refine Ask.T rfl ?_
      refine Ask.T rfl ?_
      refine bindG h fun x8 hx8 h => ?_
      refine anM (at_ix rfl hx8) ?_
      refine Ask.T rfl ?_
      refine exM (eI x8) (at_get rfl hx8) ?_
      refine Ask.T rfl ?_
      refine Ask.T rfl ?_
      exact retE (enc := spec_NodesOk.enc) h rfl
    · refine Ask.F rfl ?_
      refine Ask.F rfl ?_
      refine Ask.F rfl ?_
      refine Ask.F rfl ?_
      refine Ask.F rfl ?_
      refine Ask.F rfl ?_
      refine Ask.F rfl ?_
      exact retE (enc := spec_NodesOk.enc) h rfl
def spec_l3Shift.enc (r : List impl_Node) : Res := ([(.own true 7 (r.map impl_Node.e))], [])
def spec_l3Shift.l0 (a0 : List impl_Node) (a1 : Int) (K : Nat) : Nat → Int → (List impl_Node) → Option (List impl_Node)
  | 0, _, _ => none
  | k + 1, v2, v3 => if v2 < (a0.length : Int) then ((at_ a0 v2).bind fun x6 => ((spec_Arity.f K x6.Kind).bind fun y7 => (jn (fun (v9 : impl_Node) => jn (fun (v11 : impl_Node) => jn (fun (v13 : impl_Node) => gd ((v3.length + 1) * 72 ≤ 140737488355328) (spec_l3Shift.l0 a0 a1 K k (w64 (v2 + 1)) (v3 ++ ([v13] : List impl_Node)))) (fun j => if y7 > 2 then (j (⟨v11.Kind, v11.A, v11.B, (w64 (v11.C + a1)), v11.N, v11.Name, v11.Other⟩ : impl_Node)) else (j v11))) (fun j => if y7 > 1 then (j (⟨v9.Kind, v9.A, (w64 (v9.B + a1)), v9.C, v9.N, v9.Name, v9.Other⟩ : impl_Node)) else (j v9))) (fun j => if y7 > 0 then (j (⟨x6.Kind, (w64 (x6.A + a1)), x6.B, x6.C, x6.N, x6.Name, x6.Other⟩ : impl_Node)) else (j x6))))) else (some v3)
def spec_l3Shift.f  (K : Nat) (a0 : List impl_Node) (a1 : Int) : Option (List impl_Node) := jn (fun (v1 : List impl_Node) => some v1) (fun j => (spec_l3Shift.l0 a0 a1 K K 0 ([] : List impl_Node)).bind fun (v4 : List impl_Node) => j v4)
theorem spec_l3Shift.ev   {K : Nat} {a0 : List impl_Node} {a1 : Int} {r : List impl_Node} (h : spec_l3Shift.f  K a0 a1 = some r) : E 127 [(.d (.l true 7 (a0.map impl_Node.e))), (.d (.p (.int .i64 a1)))] = some ([(.own true 7 (r.map impl_Node.e))], []) := by
  refine Ev_intro (fn := Tryd.f127) rfl (by kernel_rfl) (c := _) rfl ⟨rfl, by simp⟩ rfl (evP_spec _ ?_)
  unfold spec_l3Shift.f at h
  refine eqM (([] : List impl_Node).map impl_Node.e) rfl ?_
  refine seqJ h 49 (fun x => [(5, (.own 5 1 2))]) (fun x => [(5, 1, 2, (some (.row true true 7 (x.map impl_Node.e))))]) (fun J h => ?_) ?_
  · refine loopX (α := Int × List impl_Node) (a := (0, ([] : List impl_Node))) 49 (fun x => [(0, (.d (.l true 7 (a0.map impl_Node.e)))), (1, (.d (.p (.int .i64 a1)))), (5, (.own 5 1 2)), (6, (.d (.p (.int .i64 x.1))))]) (fun x => [(5, 1, 2, (some (.row true true 7 (x.2.map impl_Node.e))))]) (fun k x => spec_l3Shift.l0 a0 a1 K k x.1 x.2) 0 (fun x => [(5, (.own 5 1 2))]) (fun x => [(5, 1, 2, (some (.row true true 7 (x.map impl_Node.e))))]) h (fun _ => rfl) ?_ ⟨rfl, ⟨rfl, rfl, rfl, rfl, trivial⟩, ⟨rfl, trivial⟩⟩ ?_
    · rintro k ⟨v2, v3⟩ r h e hp
      replace h : spec_l3Shift.l0 a0 a1 K (k + 1) v2 v3 = some r := h
      unfold spec_l3Shift.l0 at h
      refine goS ?_
      refine eqM ((a0.length : Int) : Int) (mLen rfl) ?_
      refine iteF h (fun c5 h => ?_) (fun c5 h => ?_)
      · refine goS ?_
        refine goS ?_
        refine bindG h fun x6 hx6 h => ?_
        refine anM (at_ix rfl hx6) ?_
        refine exM (impl_Node.e x6) (at_get rfl hx6) ?_
        refine bindG h fun y7 hy8 h => ?_
        refine exM ([(.d (.p (.int .i64 y7)))], []) ?_ ?_
        · exact spec_Arity.ev hy8
        refine seqJ h 49 (fun x => [(0, (.d (.l true 7 (a0.map impl_Node.e)))), (1, (.d (.p (.int .i64 a1)))), (5, (.own 5 1 2)), (6, (.d (.p (.int .i64 v2)))), (7, (.ptr 7 0 2 0)), (8, (.d (.p (.int .i64 y7))))]) (fun x => [(5, 1, 2, (some (.row true true 7 (v3.map impl_Node.e)))), (7, 0, 2, (some (.box [(.d (.p (.int .i64 x.Kind))), (.d (.p (.int .i64 x.A))), (.d (.p (.int .i64 x.B))), (.d (.p (.int .i64 x.C))), (.d (.p (.int .i64 x.N))), (.d (.p (.string x.Name))), (.d (.p (.string x.Other)))])))]) (fun J h => ?_) ?_
        · refine iteF h (fun c10 h => ?_) (fun c10 h => ?_)
          · exact ⟨(⟨x6.Kind, (w64 (x6.A + a1)), x6.B, x6.C, x6.N, x6.Name, x6.Other⟩ : impl_Node), h, ⟨rfl, ⟨rfl, rfl, rfl, rfl, rfl, rfl, trivial⟩, ⟨rfl, rfl, trivial⟩⟩⟩
          · exact ⟨x6, h, ⟨rfl, ⟨rfl, rfl, rfl, rfl, rfl, rfl, trivial⟩, ⟨rfl, rfl, trivial⟩⟩⟩
        · rintro v9 h e hp
          refine seqJ h 49 (fun x => [(0, (.d (.l true 7 (a0.map impl_Node.e)))), (1, (.d (.p (.int .i64 a1)))), (5, (.own 5 1 2)), (6, (.d (.p (.int .i64 v2)))), (7, (.ptr 7 0 2 0)), (8, (.d (.p (.int .i64 y7))))]) (fun x => [(5, 1, 2, (some (.row true true 7 (v3.map impl_Node.e)))), (7, 0, 2, (some (.box [(.d (.p (.int .i64 x.Kind))), (.d (.p (.int .i64 x.A))), (.d (.p (.int .i64 x.B))), (.d (.p (.int .i64 x.C))), (.d (.p (.int .i64 x.N))), (.d (.p (.string x.Name))), (.d (.p (.string x.Other)))])))]) (fun J h => ?_) ?_
          · refine iteF h (fun c12 h => ?_) (fun c12 h => ?_)
            · exact ⟨(⟨v9.Kind, v9.A, (w64 (v9.B + a1)), v9.C, v9.N, v9.Name, v9.Other⟩ : impl_Node), h, ⟨rfl, ⟨rfl, rfl, rfl, rfl, rfl, rfl, trivial⟩, ⟨rfl, rfl, trivial⟩⟩⟩
            · exact ⟨v9, h, ⟨rfl, ⟨rfl, rfl, rfl, rfl, rfl, rfl, trivial⟩, ⟨rfl, rfl, trivial⟩⟩⟩
          · rintro v11 h e hp
            refine seqJ h 49 (fun x => [(0, (.d (.l true 7 (a0.map impl_Node.e)))), (1, (.d (.p (.int .i64 a1)))), (5, (.own 5 1 2)), (6, (.d (.p (.int .i64 v2)))), (7, (.ptr 7 0 2 0))]) (fun x => [(5, 1, 2, (some (.row true true 7 (v3.map impl_Node.e)))), (7, 0, 2, (some (.box [(.d (.p (.int .i64 x.Kind))), (.d (.p (.int .i64 x.A))), (.d (.p (.int .i64 x.B))), (.d (.p (.int .i64 x.C))), (.d (.p (.int .i64 x.N))), (.d (.p (.string x.Name))), (.d (.p (.string x.Other)))])))]) (fun J h => ?_) ?_
            · refine iteF h (fun c14 h => ?_) (fun c14 h => ?_)
              · exact ⟨(⟨v11.Kind, v11.A, v11.B, (w64 (v11.C + a1)), v11.N, v11.Name, v11.Other⟩ : impl_Node), h, ⟨rfl, ⟨rfl, rfl, rfl, rfl, rfl, trivial⟩, ⟨rfl, rfl, trivial⟩⟩⟩
              · exact ⟨v11, h, ⟨rfl, ⟨rfl, rfl, rfl, rfl, rfl, trivial⟩, ⟨rfl, rfl, trivial⟩⟩⟩
            · rintro v13 h e hp
              refine eqM (([v13] : List impl_Node).map impl_Node.e) rfl ?_
              refine gdG h fun hc h => ?_
              refine anM (apB hc) ?_
              refine eqM ((v3 ++ ([v13] : List impl_Node)).map impl_Node.e) (mApp rfl rfl) ?_
              exact ⟨((w64 (v2 + 1)), (v3 ++ ([v13] : List impl_Node))), h, ⟨rfl, ⟨rfl, rfl, rfl, rfl, trivial⟩, ⟨rfl, trivial⟩⟩⟩
      · refine exQ h ?_
        exact ⟨rfl, ⟨rfl, trivial⟩, ⟨rfl, trivial⟩⟩
    · rintro v4 S' h ⟨qn, ⟨qa0, _⟩, ⟨qb0, _⟩⟩
      exact ⟨v4, h, ⟨qn, ⟨qa0, trivial⟩, ⟨qb0, trivial⟩⟩⟩
  · rintro v1 h e hp
    exact retE (enc := spec_l3Shift.enc) h rfl
def spec_l3Make.enc (r : List impl_Node) : Res := ([(.own true 7 (r.map impl_Node.e))], [])
def spec_l3Make.l0 (a1 : List (List impl_Node)) (K : Nat) : Nat → Int → impl_Node → (List impl_Node) → Option (impl_Node × List impl_Node)
  | 0, _, _, _ => none
  | k + 1, v3, v4, v5 => if v3 < (a1.length : Int) then (jn (fun (v9, v10) => spec_l3Make.l0 a1 K k (w64 (v3 + 1)) v9 v10) (fun j => (at_ a1 v3).bind fun x11 => ((spec_l3Shift.f K x11 (v5.length : Int)).bind fun y12 => (gd ((v5.length + y12.length) * 72 ≤ 140737488355328) (if v3 = 0 then (j ((⟨v4.Kind, (w64 (((v5 ++ y12).length : Int) - 1)), v4.B, v4.C, v4.N, v4.Name, v4.Other⟩ : impl_Node), (v5 ++ y12))) else (if v3 = 1 then (j ((⟨v4.Kind, v4.A, (w64 (((v5 ++ y12).length : Int) - 1)), v4.C, v4.N, v4.Name, v4.Other⟩ : impl_Node), (v5 ++ y12))) else (j ((⟨v4.Kind, v4.A, v4.B, (w64 (((v5 ++ y12).length : Int) - 1)), v4.N, v4.Name, v4.Other⟩ : impl_Node), (v5 ++ y12))))))))) else (some (v4, v5))
def spec_l3Make.f  (K : Nat) (a0 : impl_Node) (a1 : List (List impl_Node)) : Option (List impl_Node) := jn (fun (v1, v2) => gd ((v2.length + 1) * 72 ≤ 140737488355328) (some (v2 ++ ([v1] : List impl_Node)))) (fun j => (spec_l3Make.l0 a1 K K 0 a0 ([] : List impl_Node)).bind fun (v6, v7) => j (v6, v7))
theorem spec_l3Make.ev   {K : Nat} {a0 : impl_Node} {a1 : List (List impl_Node)} {r : List impl_Node} (h : spec_l3Make.f  K a0 a1 = some r) : E 103 [(.agg (a0.e.map .d)), (.d (.l false 1 (a1.map (eL true 7 impl_Node.e))))] = some ([(.own true 7 (r.map impl_Node.e))], []) := by
  refine Ev_intro (fn := Tryd.f103) rfl (by kernel_rfl) (c := _) rfl ⟨rfl, by simp⟩ rfl (evP_spec _ ?_)
  unfold spec_l3Make.f at h
  refine eqM (([] : List impl_Node).map impl_Node.e) rfl ?_
  refine seqJ h 44 (fun x => [(2, (.ptr 2 0 2 0)), (5, (.own 5 1 2))]) (fun x => [(2, 0, 2, (some (.box [(.d (.p (.int .i64 x.1.Kind))), (.d (.p (.int .i64 x.1.A))), (.d (.p (.int .i64 x.1.B))), (.d (.p (.int .i64 x.1.C))), (.d (.p (.int .i64 x.1.N))), (.d (.p (.string x.1.Name))), (.d (.p (.string x.1.Other)))]))), (5, 1, 2, (some (.row true true 7 (x.2.map impl_Node.e))))]) (fun J h => ?_) ?_
  · refine loopX (α := Int × impl_Node × List impl_Node) (a := (0, a0, ([] : List impl_Node))) 44 (fun x => [(1, (.d (.l false 1 (a1.map (eL true 7 impl_Node.e))))), (2, (.ptr 2 0 2 0)), (5, (.own 5 1 2)), (6, (.d (.p (.int .i64 x.1))))]) (fun x => [(2, 0, 2, (some (.box [(.d (.p (.int .i64 x.2.1.Kind))), (.d (.p (.int .i64 x.2.1.A))), (.d (.p (.int .i64 x.2.1.B))), (.d (.p (.int .i64 x.2.1.C))), (.d (.p (.int .i64 x.2.1.N))), (.d (.p (.string x.2.1.Name))), (.d (.p (.string x.2.1.Other)))]))), (5, 1, 2, (some (.row true true 7 (x.2.2.map impl_Node.e))))]) (fun k x => spec_l3Make.l0 a1 K k x.1 x.2.1 x.2.2) 0 (fun x => [(2, (.ptr 2 0 2 0)), (5, (.own 5 1 2))]) (fun x => [(2, 0, 2, (some (.box [(.d (.p (.int .i64 x.1.Kind))), (.d (.p (.int .i64 x.1.A))), (.d (.p (.int .i64 x.1.B))), (.d (.p (.int .i64 x.1.C))), (.d (.p (.int .i64 x.1.N))), (.d (.p (.string x.1.Name))), (.d (.p (.string x.1.Other)))]))), (5, 1, 2, (some (.row true true 7 (x.2.map impl_Node.e))))]) h (fun _ => rfl) ?_ ⟨rfl, ⟨rfl, rfl, rfl, rfl, trivial⟩, ⟨rfl, rfl, trivial⟩⟩ ?_
    · rintro k ⟨v3, v4, v5⟩ r h e hp
      replace h : spec_l3Make.l0 a1 K (k + 1) v3 v4 v5 = some r := h
      unfold spec_l3Make.l0 at h
      refine goS ?_
      refine eqM ((a1.length : Int) : Int) (mLen rfl) ?_
      refine iteF h (fun c8 h => ?_) (fun c8 h => ?_)
      · refine seqJ h 44 (fun x => [(1, (.d (.l false 1 (a1.map (eL true 7 impl_Node.e))))), (2, (.ptr 2 0 2 0)), (5, (.own 5 1 2)), (6, (.d (.p (.int .i64 v3))))]) (fun x => [(2, 0, 2, (some (.box [(.d (.p (.int .i64 x.1.Kind))), (.d (.p (.int .i64 x.1.A))), (.d (.p (.int .i64 x.1.B))), (.d (.p (.int .i64 x.1.C))), (.d (.p (.int .i64 x.1.N))), (.d (.p (.string x.1.Name))), (.d (.p (.string x.1.Other)))]))), (5, 1, 2, (some (.row true true 7 (x.2.map impl_Node.e))))]) (fun J h => ?_) ?_
        · refine bindG h fun x11 hx11 h => ?_
          refine anM (at_ix rfl hx11) ?_
          refine exM ((eL true 7 impl_Node.e) x11) (at_get rfl hx11) ?_
          refine eqM ((v5.length : Int) : Int) (mLen rfl) ?_
          refine bindG h fun y12 hy13 h => ?_
          refine exM ([(.own true 7 (y12.map impl_Node.e))], []) ?_ ?_
          · exact spec_l3Shift.ev hy13
          refine gdG h fun hc h => ?_
          refine anM (apB hc) ?_
          refine eqM ((v5 ++ y12).map impl_Node.e) (mApp rfl rfl) ?_
          refine iteF h (fun c14 h => ?_) (fun c14 h => ?_)
          · refine eqM (((v5 ++ y12).length : Int) : Int) (mLen rfl) ?_
            exact ⟨((⟨v4.Kind, (w64 (((v5 ++ y12).length : Int) - 1)), v4.B, v4.C, v4.N, v4.Name, v4.Other⟩ : impl_Node), (v5 ++ y12)), h, ⟨rfl, ⟨rfl, rfl, rfl, rfl, trivial⟩, ⟨rfl, rfl, trivial⟩⟩⟩
          · refine iteF h (fun c15 h => ?_) (fun c15 h => ?_)
            · refine eqM (((v5 ++ y12).length : Int) : Int) (mLen rfl) ?_
              exact ⟨((⟨v4.Kind, v4.A, (w64 (((v5 ++ y12).length : Int) - 1)), v4.C, v4.N, v4.Name, v4.Other⟩ : impl_Node), (v5 ++ y12)), h, ⟨rfl, ⟨rfl, rfl, rfl, rfl, trivial⟩, ⟨rfl, rfl, trivial⟩⟩⟩
            · refine eqM (((v5 ++ y12).length : Int) : Int) (mLen rfl) ?_
              exact ⟨((⟨v4.Kind, v4.A, v4.B, (w64 (((v5 ++ y12).length : Int) - 1)), v4.N, v4.Name, v4.Other⟩ : impl_Node), (v5 ++ y12)), h, ⟨rfl, ⟨rfl, rfl, rfl, rfl, trivial⟩, ⟨rfl, rfl, trivial⟩⟩⟩
        · rintro ⟨v9, v10⟩ h e hp
          exact ⟨((w64 (v3 + 1)), v9, v10), h, ⟨rfl, ⟨rfl, rfl, rfl, rfl, trivial⟩, ⟨rfl, rfl, trivial⟩⟩⟩
      · refine exQ h ?_
        exact ⟨rfl, ⟨rfl, rfl, trivial⟩, ⟨rfl, rfl, trivial⟩⟩
    · rintro ⟨v6, v7⟩ S' h ⟨qn, ⟨qa0, qa1, _⟩, ⟨qb0, qb1, _⟩⟩
      exact ⟨(v6, v7), h, ⟨qn, ⟨qa0, qa1, trivial⟩, ⟨qb0, qb1, trivial⟩⟩⟩
  · rintro ⟨v1, v2⟩ h e hp
    refine eqM (([v1] : List impl_Node).map impl_Node.e) rfl ?_
    refine gdG h fun hc h => ?_
    refine anM (apB hc) ?_
    refine eqM ((v2 ++ ([v1] : List impl_Node)).map impl_Node.e) (mApp rfl rfl) ?_
    exact retE (enc := spec_l3Make.enc) h rfl
def spec_l11Prim.enc (r : Int) : Res := ([(.d (.p (.int .i64 r)))], [])
def spec_l11Prim.f  (K : Nat) (a0 : Int) (a1 : Int) (a2 : Int) : Option (Int) := if a0 = 0 then (some (Int.tmod (w64 (a1 + a2)) 65536)) else (if a0 = 1 then (some (Int.tmod (w64 ((w64 (a1 - a2)) + 65536)) 65536)) else (if a0 = 2 then (if a1 < a2 then (some 1) else (some 0)) else (if a1 = a2 then (some 1) else (some 0))))
theorem spec_l11Prim.ev   {K : Nat} {a0 : Int} {a1 : Int} {a2 : Int} {r : Int} (h : spec_l11Prim.f  K a0 a1 a2 = some r) : E 105 [(.d (.p (.int .i64 a0))), (.d (.p (.int .i64 a1))), (.d (.p (.int .i64 a2)))] = some ([(.d (.p (.int .i64 r)))], []) := by
  refine Ev_intro (fn := Tryd.f105) rfl (by kernel_rfl) (c := _) rfl ⟨rfl, by simp⟩ rfl (evP_spec _ ?_)
  unfold spec_l11Prim.f at h
  refine goS ?_
  refine iteF h (fun c1 h => ?_) (fun c1 h => ?_)
  · refine anM (by decide) ?_
    exact retE (enc := spec_l11Prim.enc) h rfl
  · refine iteF h (fun c2 h => ?_) (fun c2 h => ?_)
    · refine anM (by decide) ?_
      exact retE (enc := spec_l11Prim.enc) h rfl
    · refine iteF h (fun c3 h => ?_) (fun c3 h => ?_)
      · refine goS ?_
        refine iteF h (fun c4 h => ?_) (fun c4 h => ?_)
        · exact retE (enc := spec_l11Prim.enc) h rfl
        · exact retE (enc := spec_l11Prim.enc) h rfl
      · refine goS ?_
        refine iteF h (fun c5 h => ?_) (fun c5 h => ?_)
        · exact retE (enc := spec_l11Prim.enc) h rfl
        · exact retE (enc := spec_l11Prim.enc) h rfl
def spec_l3Int.enc (r : List impl_Node) : Res := ([(.own true 7 (r.map impl_Node.e))], [])
def spec_l3Int.f  (K : Nat) (a0 : Int) : Option (List impl_Node) := some ([(⟨2, 0, 0, 0, a0, (⟨#[]⟩ : ByteArray), (⟨#[]⟩ : ByteArray)⟩ : impl_Node)] : List impl_Node)
theorem spec_l3Int.ev   {K : Nat} {a0 : Int} {r : List impl_Node} (h : spec_l3Int.f  K a0 = some r) : E 104 [(.d (.p (.int .i64 a0)))] = some ([(.own true 7 (r.map impl_Node.e))], []) := by
  refine Ev_intro (fn := Tryd.f104) rfl (by kernel_rfl) (c := _) rfl ⟨rfl, by simp⟩ rfl (evP_spec _ ?_)
  unfold spec_l3Int.f at h
  refine eqM (([(⟨2, 0, 0, 0, a0, (⟨#[]⟩ : ByteArray), (⟨#[]⟩ : ByteArray)⟩ : impl_Node)] : List impl_Node).map impl_Node.e) rfl ?_
  exact retE (enc := spec_l3Int.enc) h rfl
def spec_l14Part.enc (r : List impl_Node × Int) : Res := ([(.d (.l true 7 (r.1.map impl_Node.e))), (.d (.p (.int .i64 r.2)))], [])
def spec_l14Part.l0 (r_spec_l14Part : (List impl_Node) → Int → Option (List impl_Node × Int)) (a0 : List impl_Node) (y2 : List Int) (K : Nat) : Nat → Int → Int → (List (List impl_Node)) → Option (Int × List (List impl_Node))
  | 0, _, _, _ => none
  | k + 1, v6, v7, v8 => if v7 < (y2.length : Int) then ((at_ y2 v7).bind fun x12 => ((r_spec_l14Part a0 x12).bind fun (y13, y14) => (gd ((v8.length + 1) * 24 ≤ 140737488355328) (spec_l14Part.l0 r_spec_l14Part a0 y2 K k (w64 (v6 + y14)) (w64 (v7 + 1)) (v8 ++ ([y13] : List (List impl_Node))))))) else (some (v6, v8))
def spec_l14Part.b (r_spec_l14Part : (List impl_Node) → Int → Option (List impl_Node × Int)) (K : Nat) (a0 : List impl_Node) (a1 : Int) : Option (List impl_Node × Int) := (at_ a0 a1).bind fun x1 => ((spec_Kids.f K x1).bind fun y2 => (jn (fun (v4, v5) => if (v5.length : Int) = 0 then (some (([(⟨x1.Kind, 0, 0, 0, x1.N, x1.Name, x1.Other⟩ : impl_Node)] : List impl_Node), 0)) else (if (v5.length : Int) = 1 then ((at_ v5 0).bind fun x18 => ((spec_l3Make.f K (⟨x1.Kind, 0, 0, 0, x1.N, x1.Name, x1.Other⟩ : impl_Node) ([x18] : List (List impl_Node))).bind fun y19 => (some (y19, v4)))) else (if (v5.length : Int) = 2 then ((at_ v5 0).bind fun x22 => ((at_ x22 0).bind fun x23 => ((at_ v5 1).bind fun x24 => ((at_ x24 0).bind fun x25 => (jn (fun (v26 : Bool) => if v26 = true then ((spec_l11Prim.f K x1.N x23.N x25.N).bind fun y31 => ((spec_l3Int.f K y31).bind fun y33 => (some (y33, (w64 (v4 + 1)))))) else ((spec_l3Make.f K (⟨x1.Kind, 0, 0, 0, x1.N, x1.Name, x1.Other⟩ : impl_Node) ([x22, x24] : List (List impl_Node))).bind fun y35 => (some (y35, v4)))) (fun j => if x1.Kind = 8 then (if x23.Kind = 2 then (if x25.Kind = 2 then (j (decide ((w64 ((x22.length : Int) + (x24.length : Int))) = 2))) else (j false)) else (j false)) else (j false))))))) else ((at_ v5 0).bind fun x37 => (jn (fun (v38 : Bool) => if v38 = true then ((at_ x37 0).bind fun x43 => (if (!(decide (x43.N = 0))) = true then ((at_ v5 1).bind fun x45 => (some (x45, (w64 (v4 + 1))))) else ((at_ v5 2).bind fun x46 => (some (x46, (w64 (v4 + 1))))))) else (jn (fun (v47 : Bool) => if v47 = true then ((at_ v5 1).bind fun x52 => (some (x52, (w64 (v4 + 1))))) else ((at_ v5 1).bind fun x53 => ((at_ v5 2).bind fun x54 => ((spec_l3Make.f K (⟨x1.Kind, 0, 0, 0, x1.N, x1.Name, x1.Other⟩ : impl_Node) ([x37, x53, x54] : List (List impl_Node))).bind fun y55 => (some (y55, v4)))))) (fun j => if x1.Kind = 14 then (if (x37.length : Int) = 1 then ((at_ x37 0).bind fun x50 => (j (decide (x50.Kind = 12)))) else (j false)) else (j false)))) (fun j => if x1.Kind = 7 then (if (x37.length : Int) = 1 then ((at_ x37 0).bind fun x41 => (j (decide (x41.Kind = 2)))) else (j false)) else (j false))))))) (fun j => (spec_l14Part.l0 r_spec_l14Part a0 y2 K K 0 0 ([] : List (List impl_Node))).bind fun (v9, v10) => j (v9, v10))))
theorem spec_l14Part.b_ev {r_spec_l14Part : (List impl_Node) → Int → Option (List impl_Node × Int)} (hr_spec_l14Part : ∀ {a0 : List impl_Node} {a1 : Int} {r : List impl_Node × Int}, r_spec_l14Part a0 a1 = some r → E 79 [(.d (.l true 7 (a0.map impl_Node.e))), (.d (.p (.int .i64 a1)))] = some ([(.d (.l true 7 (r.1.map impl_Node.e))), (.d (.p (.int .i64 r.2)))], [])) {K : Nat} {a0 : List impl_Node} {a1 : Int} {r : List impl_Node × Int} (h : spec_l14Part.b r_spec_l14Part K a0 a1 = some r) : E 79 [(.d (.l true 7 (a0.map impl_Node.e))), (.d (.p (.int .i64 a1)))] = some ([(.d (.l true 7 (r.1.map impl_Node.e))), (.d (.p (.int .i64 r.2)))], []) := by
  refine Ev_intro (fn := Tryd.f79) rfl (by kernel_rfl) (c := _) rfl ⟨rfl, by simp⟩ rfl (evP_spec _ ?_)
  unfold spec_l14Part.b at h
  refine goS ?_
  refine bindG h fun x1 hx1 h => ?_
  refine anM (at_ix rfl hx1) ?_
  refine exM (impl_Node.e x1) (at_get rfl hx1) ?_
  refine bindG h fun y2 hy3 h => ?_
  refine exM ([(.own true 1 (y2.map eI))], []) ?_ ?_
  · exact spec_Kids.ev hy3
  refine eqM (([] : List (List impl_Node)).map (eL true 7 impl_Node.e)) rfl ?_
  refine seqJ h 190 (fun x => [(6, (.ptr 6 0 2 0)), (8, (.own 8 1 2)), (9, (.d (.p (.int .i64 x.1))))]) (fun x => [(6, 0, 2, (some (.box [(.d (.p (.int .i64 x1.Kind))), (.d (.p (.int .i64 x1.A))), (.d (.p (.int .i64 x1.B))), (.d (.p (.int .i64 x1.C))), (.d (.p (.int .i64 x1.N))), (.d (.p (.string x1.Name))), (.d (.p (.string x1.Other)))]))), (8, 1, 2, (some (.row true false 1 (x.2.map (eL true 7 impl_Node.e)))))]) (fun J h => ?_) ?_
  · refine loopX (α := Int × Int × List (List impl_Node)) (a := (0, 0, ([] : List (List impl_Node)))) 190 (fun x => [(0, (.d (.l true 7 (a0.map impl_Node.e)))), (6, (.ptr 6 0 2 0)), (7, (.own 7 1 2)), (8, (.own 8 1 2)), (9, (.d (.p (.int .i64 x.1)))), (10, (.d (.p (.int .i64 x.2.1))))]) (fun x => [(6, 0, 2, (some (.box [(.d (.p (.int .i64 x1.Kind))), (.d (.p (.int .i64 x1.A))), (.d (.p (.int .i64 x1.B))), (.d (.p (.int .i64 x1.C))), (.d (.p (.int .i64 x1.N))), (.d (.p (.string x1.Name))), (.d (.p (.string x1.Other)))]))), (7, 1, 2, (some (.row true true 1 (y2.map eI)))), (8, 1, 2, (some (.row true false 1 (x.2.2.map (eL true 7 impl_Node.e)))))]) (fun k x => spec_l14Part.l0 r_spec_l14Part a0 y2 K k x.1 x.2.1 x.2.2) 0 (fun x => [(6, (.ptr 6 0 2 0)), (8, (.own 8 1 2)), (9, (.d (.p (.int .i64 x.1))))]) (fun x => [(6, 0, 2, (some (.box [(.d (.p (.int .i64 x1.Kind))), (.d (.p (.int .i64 x1.A))), (.d (.p (.int .i64 x1.B))), (.d (.p (.int .i64 x1.C))), (.d (.p (.int .i64 x1.N))), (.d (.p (.string x1.Name))), (.d (.p (.string x1.Other)))]))), (8, 1, 2, (some (.row true false 1 (x.2.map (eL true 7 impl_Node.e)))))]) h (fun _ => rfl) ?_ ⟨rfl, ⟨rfl, rfl, rfl, rfl, rfl, rfl, trivial⟩, ⟨rfl, rfl, rfl, trivial⟩⟩ ?_
    · rintro k ⟨v6, v7, v8⟩ r h e hp
      replace h : spec_l14Part.l0 r_spec_l14Part a0 y2 K (k + 1) v6 v7 v8 = some r := h
      unfold spec_l14Part.l0 at h
      refine goS ?_
      refine eqM ((y2.length : Int) : Int) (mLen rfl) ?_
      refine iteF h (fun c11 h => ?_) (fun c11 h => ?_)
      · refine goS ?_
        refine bindG h fun x12 hx12 h => ?_
        refine anM (at_ix rfl hx12) ?_
        refine exM (eI x12) (at_get rfl hx12) ?_
        refine bindG h ?_
        rintro ⟨y13, y14⟩ hy15 h
        refine exM ([(.d (.l true 7 (y13.map impl_Node.e))), (.d (.p (.int .i64 y14)))], []) ?_ ?_
        · exact hr_spec_l14Part hy15
        refine eqM (([y13] : List (List impl_Node)).map (eL true 7 impl_Node.e)) rfl ?_
        refine gdG h fun hc h => ?_
        refine anM (apB hc) ?_
        refine eqM ((v8 ++ ([y13] : List (List impl_Node))).map (eL true 7 impl_Node.e)) (mApp rfl rfl) ?_
        exact ⟨((w64 (v6 + y14)), (w64 (v7 + 1)), (v8 ++ ([y13] : List (List impl_Node)))), h, ⟨rfl, ⟨rfl, rfl, rfl, rfl, rfl, rfl, trivial⟩, ⟨rfl, rfl, rfl, trivial⟩⟩⟩
      · refine exQ h ?_
        exact ⟨rfl, ⟨rfl, rfl, rfl, trivial⟩, ⟨rfl, rfl, trivial⟩⟩
    · rintro ⟨v9, v10⟩ S' h ⟨qn, ⟨qa0, qa1, qa2, _⟩, ⟨qb0, qb1, _⟩⟩
      exact ⟨(v9, v10), h, ⟨qn, ⟨qa0, qa1, qa2, trivial⟩, ⟨qb0, qb1, trivial⟩⟩⟩
  · rintro ⟨v4, v5⟩ h e hp
    refine goS ?_
    refine goS ?_
    refine goR ?_
    refine Re.mk 190 [(6, (.ptr 6 0 2 0)), (8, (.own 8 1 2)), (9, (.d (.p (.int .i64 v4))))] [(6, 0, 2, (some (.box [(.d (.p (.int .i64 x1.Kind))), (.d (.p (.int .i64 0))), (.d (.p (.int .i64 0))), (.d (.p (.int .i64 0))), (.d (.p (.int .i64 x1.N))), (.d (.p (.string x1.Name))), (.d (.p (.string x1.Other)))]))), (8, 1, 2, (some (.row true false 1 (v5.map (eL true 7 impl_Node.e)))))] (by exact ⟨rfl, ⟨rfl, rfl, rfl, trivial⟩, ⟨rfl, rfl, trivial⟩⟩) ?_
    intro e hp
    refine goS ?_
    refine eqM ((v5.length : Int) : Int) (mLen rfl) ?_
    refine iteF h (fun c16 h => ?_) (fun c16 h => ?_)
    · refine eqM (([(⟨x1.Kind, 0, 0, 0, x1.N, x1.Name, x1.Other⟩ : impl_Node)] : List impl_Node).map impl_Node.e) rfl ?_
      exact retE (enc := spec_l14Part.enc) h rfl
    · refine iteF h (fun c17 h => ?_) (fun c17 h => ?_)
      · refine ⟨[[57, 58, 59, 60], [56], [56], [56], [56], [], [], [], []], by kernel_rfl, ?_⟩
        refine bindG h fun x18 hx18 h => ?_
        refine anM (at_ix rfl hx18) ?_
        refine exM ((eL true 7 impl_Node.e) x18) (at_get rfl hx18) ?_
        refine eqM (([x18] : List (List impl_Node)).map (eL true 7 impl_Node.e)) rfl ?_
        refine bindG h fun y19 hy20 h => ?_
        refine exM ([(.own true 7 (y19.map impl_Node.e))], []) ?_ ?_
        · exact spec_l3Make.ev hy20
        exact retE (enc := spec_l14Part.enc) h rfl
      · refine iteF h (fun c21 h => ?_) (fun c21 h => ?_)
        · refine goS ?_
          refine bindG h fun x22 hx22 h => ?_
          refine anM (at_ix rfl hx22) ?_
          refine exM ((eL true 7 impl_Node.e) x22) (at_get rfl hx22) ?_
          refine bindG h fun x23 hx23 h => ?_
          refine anM (at_ix rfl hx23) ?_
          refine exM (impl_Node.e x23) (at_get rfl hx23) ?_
          refine goS ?_
          refine bindG h fun x24 hx24 h => ?_
          refine anM (at_ix rfl hx24) ?_
          refine exM ((eL true 7 impl_Node.e) x24) (at_get rfl hx24) ?_
          refine bindG h fun x25 hx25 h => ?_
          refine anM (at_ix rfl hx25) ?_
          refine exM (impl_Node.e x25) (at_get rfl hx25) ?_
          refine goS ?_
          refine seqJ h 190 (fun x => [(6, (.ptr 6 0 2 0)), (8, (.own 8 1 2)), (9, (.d (.p (.int .i64 v4)))), (13, (.ptr 13 0 2 0)), (14, (.ptr 14 0 2 0)), (99, (.d (.p (.bool x))))]) (fun x => [(6, 0, 2, (some (.box [(.d (.p (.int .i64 x1.Kind))), (.d (.p (.int .i64 0))), (.d (.p (.int .i64 0))), (.d (.p (.int .i64 0))), (.d (.p (.int .i64 x1.N))), (.d (.p (.string x1.Name))), (.d (.p (.string x1.Other)))]))), (8, 1, 2, (some (.row true false 1 (v5.map (eL true 7 impl_Node.e))))), (13, 0, 2, (some (.box [(.d (.p (.int .i64 x23.Kind))), (.d (.p (.int .i64 x23.A))), (.d (.p (.int .i64 x23.B))), (.d (.p (.int .i64 x23.C))), (.d (.p (.int .i64 x23.N))), (.d (.p (.string x23.Name))), (.d (.p (.string x23.Other)))]))), (14, 0, 2, (some (.box [(.d (.p (.int .i64 x25.Kind))), (.d (.p (.int .i64 x25.A))), (.d (.p (.int .i64 x25.B))), (.d (.p (.int .i64 x25.C))), (.d (.p (.int .i64 x25.N))), (.d (.p (.string x25.Name))), (.d (.p (.string x25.Other)))])))]) (fun J h => ?_) ?_
          · refine ⟨[[], [], [], [], [], [], [], [], [], [], [], [], [], [], [93, 94, 95, 96], [93, 94, 95, 96], [93, 94, 95, 96], [93, 94, 95, 96], [89, 90, 91, 92], [89, 90, 91, 92], [89, 90, 91, 92], [89, 90, 91, 92], [], [], []], by kernel_rfl, ?_⟩
            refine iteF h (fun c27 h => ?_) (fun c27 h => ?_)
            · refine Ask.T rfl ?_
              refine Ask.T rfl ?_
              refine Ask.T rfl ?_
              refine iteF h (fun c28 h => ?_) (fun c28 h => ?_)
              · refine Ask.T rfl ?_
                refine Ask.T rfl ?_
                refine Ask.T rfl ?_
                refine iteF h (fun c29 h => ?_) (fun c29 h => ?_)
                · refine Ask.T rfl ?_
                  refine anM (at_ix rfl hx22) ?_
                  refine Ask.T rfl ?_
                  refine exM ((eL true 7 impl_Node.e) x22) (at_get rfl hx22) ?_
                  refine Ask.T rfl ?_
                  refine eqM ((x22.length : Int) : Int) (mLen rfl) ?_
                  refine Ask.T rfl ?_
                  refine Ask.T rfl ?_
                  refine anM (at_ix rfl hx24) ?_
                  refine Ask.T rfl ?_
                  refine exM ((eL true 7 impl_Node.e) x24) (at_get rfl hx24) ?_
                  refine Ask.T rfl ?_
                  refine eqM ((x24.length : Int) : Int) (mLen rfl) ?_
                  refine Ask.T rfl ?_
                  refine Ask.T rfl ?_
                  refine Ask.T rfl ?_
                  exact ⟨(decide ((w64 ((x22.length : Int) + (x24.length : Int))) = 2)), h, ⟨rfl, ⟨rfl, rfl, rfl, rfl, rfl, rfl, trivial⟩, ⟨rfl, rfl, rfl, rfl, trivial⟩⟩⟩
                · refine Ask.F rfl ?_
                  refine Ask.F rfl ?_
                  refine Ask.F rfl ?_
                  refine Ask.F rfl ?_
                  refine Ask.F rfl ?_
                  refine Ask.F rfl ?_
                  refine Ask.F rfl ?_
                  refine Ask.F rfl ?_
                  refine Ask.F rfl ?_
                  refine Ask.F rfl ?_
                  exact ⟨false, h, ⟨rfl, ⟨rfl, rfl, rfl, rfl, rfl, rfl, trivial⟩, ⟨rfl, rfl, rfl, rfl, trivial⟩⟩⟩
              · refine Ask.F rfl ?_
                refine Ask.F rfl ?_
                refine Ask.F rfl ?_
                refine Ask.F rfl ?_
                refine Ask.F rfl ?_
                refine Ask.F rfl ?_
                refine Ask.F rfl ?_
                refine Ask.F rfl ?_
                refine Ask.F rfl ?_
                refine Ask.F rfl ?_
                refine Ask.F rfl ?_
                refine Ask.F rfl ?_
                refine Ask.F rfl ?_
                refine Ask.F rfl ?_
                exact ⟨false, h, ⟨rfl, ⟨rfl, rfl, rfl, rfl, rfl, rfl, trivial⟩, ⟨rfl, rfl, rfl, rfl, trivial⟩⟩⟩
            · refine Ask.F rfl ?_
              refine Ask.F rfl ?_
              refine Ask.F rfl ?_
              refine Ask.F rfl ?_
              refine Ask.F rfl ?_
              refine Ask.F rfl ?_
              refine Ask.F rfl ?_
              refine Ask.F rfl ?_
              refine Ask.F rfl ?_
              refine Ask.F rfl ?_
              refine Ask.F rfl ?_
              refine Ask.F rfl ?_
              refine Ask.F rfl ?_
              refine Ask.F rfl ?_
              refine Ask.F rfl ?_
              refine Ask.F rfl ?_
              refine Ask.F rfl ?_
              refine Ask.F rfl ?_
              exact ⟨false, h, ⟨rfl, ⟨rfl, rfl, rfl, rfl, rfl, rfl, trivial⟩, ⟨rfl, rfl, rfl, rfl, trivial⟩⟩⟩
          · rintro v26 h e hp
            refine ifB h (fun c30 h => ?_) (fun c30 h => ?_)
            · refine bindG h fun y31 hy32 h => ?_
              refine exM ([(.d (.p (.int .i64 y31)))], []) ?_ ?_
              · exact spec_l11Prim.ev hy32
              refine bindG h fun y33 hy34 h => ?_
              refine exM ([(.own true 7 (y33.map impl_Node.e))], []) ?_ ?_
              · exact spec_l3Int.ev hy34
              exact retE (enc := spec_l14Part.enc) h rfl
            · refine ⟨[[111, 112, 113, 114, 115, 116, 117], [110, 114, 115, 116], [110, 114, 115, 116], [110, 114, 115, 116], [110, 111, 112, 113], [110, 111, 112, 113], [110, 111, 112, 113], [110], [], [], [], []], by kernel_rfl, ?_⟩
              refine anM (at_ix rfl hx22) ?_
              refine exM ((eL true 7 impl_Node.e) x22) (at_get rfl hx22) ?_
              refine anM (at_ix rfl hx24) ?_
              refine exM ((eL true 7 impl_Node.e) x24) (at_get rfl hx24) ?_
              refine eqM (([x22, x24] : List (List impl_Node)).map (eL true 7 impl_Node.e)) rfl ?_
              refine bindG h fun y35 hy36 h => ?_
              refine exM ([(.own true 7 (y35.map impl_Node.e))], []) ?_ ?_
              · exact spec_l3Make.ev hy36
              exact retE (enc := spec_l14Part.enc) h rfl
        · refine bindG h fun x37 hx37 h => ?_
          refine anM (at_ix rfl hx37) ?_
          refine exM ((eL true 7 impl_Node.e) x37) (at_get rfl hx37) ?_
          refine eqM ((x37.length : Int) : Int) (mLen rfl) ?_
          refine goS ?_
          refine seqJ h 190 (fun x => [(6, (.ptr 6 0 2 0)), (8, (.own 8 1 2)), (9, (.d (.p (.int .i64 v4)))), (15, (.d (.p (.bool (decide ((x37.length : Int) = 1)))))), (139, (.d (.p (.bool x))))]) (fun x => [(6, 0, 2, (some (.box [(.d (.p (.int .i64 x1.Kind))), (.d (.p (.int .i64 0))), (.d (.p (.int .i64 0))), (.d (.p (.int .i64 0))), (.d (.p (.int .i64 x1.N))), (.d (.p (.string x1.Name))), (.d (.p (.string x1.Other)))]))), (8, 1, 2, (some (.row true false 1 (v5.map (eL true 7 impl_Node.e)))))]) (fun J h => ?_) ?_
          · refine iteF h (fun c39 h => ?_) (fun c39 h => ?_)
            · refine Ask.T rfl ?_
              refine iteF h (fun c40 h => ?_) (fun c40 h => ?_)
              · refine Ask.T rfl ?_
                refine anM (at_ix rfl hx37) ?_
                refine Ask.T rfl ?_
                refine exM ((eL true 7 impl_Node.e) x37) (at_get rfl hx37) ?_
                refine Ask.T rfl ?_
                refine bindG h fun x41 hx41 h => ?_
                refine anM (at_ix rfl hx41) ?_
                refine Ask.T rfl ?_
                refine Ask.T rfl ?_
                refine exM (impl_Node.e x41) (at_get rfl hx41) ?_
                refine Ask.T rfl ?_
                refine Ask.T rfl ?_
                exact ⟨(decide (x41.Kind = 2)), h, ⟨rfl, ⟨rfl, rfl, rfl, rfl, rfl, trivial⟩, ⟨rfl, rfl, trivial⟩⟩⟩
              · refine Ask.F rfl ?_
                refine Ask.F rfl ?_
                refine Ask.F rfl ?_
                refine Ask.F rfl ?_
                refine Ask.F rfl ?_
                refine Ask.F rfl ?_
                refine Ask.F rfl ?_
                exact ⟨false, h, ⟨rfl, ⟨rfl, rfl, rfl, rfl, rfl, trivial⟩, ⟨rfl, rfl, trivial⟩⟩⟩
            · refine Ask.F rfl ?_
              refine Ask.F rfl ?_
              refine Ask.F rfl ?_
              refine Ask.F rfl ?_
              refine Ask.F rfl ?_
              refine Ask.F rfl ?_
              refine Ask.F rfl ?_
              refine Ask.F rfl ?_
              refine Ask.F rfl ?_
              exact ⟨false, h, ⟨rfl, ⟨rfl, rfl, rfl, rfl, rfl, trivial⟩, ⟨rfl, rfl, trivial⟩⟩⟩
          · rintro v38 h e hp
            refine ifB h (fun c42 h => ?_) (fun c42 h => ?_)
            · refine goS ?_
              refine anM (at_ix rfl hx37) ?_
              refine exM ((eL true 7 impl_Node.e) x37) (at_get rfl hx37) ?_
              refine bindG h fun x43 hx43 h => ?_
              refine anM (at_ix rfl hx43) ?_
              refine exM (impl_Node.e x43) (at_get rfl hx43) ?_
              refine ifB h (fun c44 h => ?_) (fun c44 h => ?_)
              · refine bindG h fun x45 hx45 h => ?_
                refine anM (at_ix rfl hx45) ?_
                refine exM ((eL true 7 impl_Node.e) x45) (at_get rfl hx45) ?_
                exact retE (enc := spec_l14Part.enc) h rfl
              · refine bindG h fun x46 hx46 h => ?_
                refine anM (at_ix rfl hx46) ?_
                refine exM ((eL true 7 impl_Node.e) x46) (at_get rfl hx46) ?_
                exact retE (enc := spec_l14Part.enc) h rfl
            · refine goS ?_
              refine seqJ h 190 (fun x => [(6, (.ptr 6 0 2 0)), (8, (.own 8 1 2)), (9, (.d (.p (.int .i64 v4)))), (171, (.d (.p (.bool x))))]) (fun x => [(6, 0, 2, (some (.box [(.d (.p (.int .i64 x1.Kind))), (.d (.p (.int .i64 0))), (.d (.p (.int .i64 0))), (.d (.p (.int .i64 0))), (.d (.p (.int .i64 x1.N))), (.d (.p (.string x1.Name))), (.d (.p (.string x1.Other)))]))), (8, 1, 2, (some (.row true false 1 (v5.map (eL true 7 impl_Node.e)))))]) (fun J h => ?_) ?_
              · refine iteF h (fun c48 h => ?_) (fun c48 h => ?_)
                · refine Ask.T rfl ?_
                  refine iteF h (fun c49 h => ?_) (fun c49 h => ?_)
                  · refine Ask.T rfl ?_
                    refine anM (at_ix rfl hx37) ?_
                    refine Ask.T rfl ?_
                    refine exM ((eL true 7 impl_Node.e) x37) (at_get rfl hx37) ?_
                    refine Ask.T rfl ?_
                    refine bindG h fun x50 hx50 h => ?_
                    refine anM (at_ix rfl hx50) ?_
                    refine Ask.T rfl ?_
                    refine Ask.T rfl ?_
                    refine exM (impl_Node.e x50) (at_get rfl hx50) ?_
                    refine Ask.T rfl ?_
                    refine Ask.T rfl ?_
                    exact ⟨(decide (x50.Kind = 12)), h, ⟨rfl, ⟨rfl, rfl, rfl, rfl, trivial⟩, ⟨rfl, rfl, trivial⟩⟩⟩
                  · refine Ask.F rfl ?_
                    refine Ask.F rfl ?_
                    refine Ask.F rfl ?_
                    refine Ask.F rfl ?_
                    refine Ask.F rfl ?_
                    refine Ask.F rfl ?_
                    refine Ask.F rfl ?_
                    exact ⟨false, h, ⟨rfl, ⟨rfl, rfl, rfl, rfl, trivial⟩, ⟨rfl, rfl, trivial⟩⟩⟩
                · refine Ask.F rfl ?_
                  refine Ask.F rfl ?_
                  refine Ask.F rfl ?_
                  refine Ask.F rfl ?_
                  refine Ask.F rfl ?_
                  refine Ask.F rfl ?_
                  refine Ask.F rfl ?_
                  refine Ask.F rfl ?_
                  refine Ask.F rfl ?_
                  exact ⟨false, h, ⟨rfl, ⟨rfl, rfl, rfl, rfl, trivial⟩, ⟨rfl, rfl, trivial⟩⟩⟩
              · rintro v47 h e hp
                refine ifB h (fun c51 h => ?_) (fun c51 h => ?_)
                · refine bindG h fun x52 hx52 h => ?_
                  refine anM (at_ix rfl hx52) ?_
                  refine exM ((eL true 7 impl_Node.e) x52) (at_get rfl hx52) ?_
                  exact retE (enc := spec_l14Part.enc) h rfl
                · refine ⟨[[178, 179, 180, 181, 182, 183, 184, 185, 186, 187], [177, 181, 182, 183, 184, 185, 186], [177, 181, 182, 183, 184, 185, 186], [177, 181, 182, 183, 184, 185, 186], [177, 178, 179, 180, 184, 185, 186], [177, 178, 179, 180, 184, 185, 186], [177, 178, 179, 180, 184, 185, 186], [177, 178, 179, 180, 181, 182, 183], [177, 178, 179, 180, 181, 182, 183], [177, 178, 179, 180, 181, 182, 183], [177], [], [], [], []], by kernel_rfl, ?_⟩
                  refine anM (at_ix rfl hx37) ?_
                  refine exM ((eL true 7 impl_Node.e) x37) (at_get rfl hx37) ?_
                  refine bindG h fun x53 hx53 h => ?_
                  refine anM (at_ix rfl hx53) ?_
                  refine exM ((eL true 7 impl_Node.e) x53) (at_get rfl hx53) ?_
                  refine bindG h fun x54 hx54 h => ?_
                  refine anM (at_ix rfl hx54) ?_
                  refine exM ((eL true 7 impl_Node.e) x54) (at_get rfl hx54) ?_
                  refine eqM (([x37, x53, x54] : List (List impl_Node)).map (eL true 7 impl_Node.e)) rfl ?_
                  refine bindG h fun y55 hy56 h => ?_
                  refine exM ([(.own true 7 (y55.map impl_Node.e))], []) ?_ ?_
                  · exact spec_l3Make.ev hy56
                  exact retE (enc := spec_l14Part.enc) h rfl
def spec_l14Part.r (K : Nat) : Nat → (List impl_Node) → Int → Option (List impl_Node × Int)
  | 0, _, _ => none
  | d + 1, a0, a1 => spec_l14Part.b (spec_l14Part.r K d) K a0 a1
theorem spec_l14Part.r_ev {K : Nat} : ∀ (d : Nat) {a0 : List impl_Node} {a1 : Int} {r : List impl_Node × Int}, spec_l14Part.r K d a0 a1 = some r → E 79 [(.d (.l true 7 (a0.map impl_Node.e))), (.d (.p (.int .i64 a1)))] = some ([(.d (.l true 7 (r.1.map impl_Node.e))), (.d (.p (.int .i64 r.2)))], []) := by
  intro d
  induction d with
  | zero => intro a0 a1 r h; cases h
  | succ d ih => intro a0 a1 r h; exact spec_l14Part.b_ev ih h
def spec_l14Part.f (K : Nat) (a0 : List impl_Node) (a1 : Int) : Option (List impl_Node × Int) := spec_l14Part.r K K a0 a1
theorem spec_l14Part.ev {K : Nat} {a0 : List impl_Node} {a1 : Int} {r : List impl_Node × Int} (h : spec_l14Part.f K a0 a1 = some r) : E 79 [(.d (.l true 7 (a0.map impl_Node.e))), (.d (.p (.int .i64 a1)))] = some ([(.d (.l true 7 (r.1.map impl_Node.e))), (.d (.p (.int .i64 r.2)))], []) := spec_l14Part.r_ev K h
def spec_FoldsOf.enc (r : Int) : Res := ([(.d (.p (.int .i64 r)))], [])
def spec_FoldsOf.f  (K : Nat) (a0 : List impl_Node) : Option (Int) := (spec_NodesOk.f K a0).bind fun y1 => (if (!y1) = true then (some 0) else ((spec_l14Part.f K a0 (w64 ((a0.length : Int) - 1))).bind fun (y4, y5) => (some y5)))
theorem spec_FoldsOf.ev   {K : Nat} {a0 : List impl_Node} {r : Int} (h : spec_FoldsOf.f  K a0 = some r) : E 34 [(.d (.l true 7 (a0.map impl_Node.e)))] = some ([(.d (.p (.int .i64 r)))], []) := by
  refine Ev_intro (fn := Tryd.f34) rfl (by kernel_rfl) (c := _) rfl ⟨rfl, by simp⟩ rfl (evP_spec _ ?_)
  unfold spec_FoldsOf.f at h
  refine goS ?_
  refine bindG h fun y1 hy2 h => ?_
  refine exM ([(.d (.p (.bool y1)))], []) ?_ ?_
  · exact spec_NodesOk.ev hy2
  refine ifB h (fun c3 h => ?_) (fun c3 h => ?_)
  · exact retE (enc := spec_FoldsOf.enc) h rfl
  · refine eqM ((a0.length : Int) : Int) (mLen rfl) ?_
    refine bindG h ?_
    rintro ⟨y4, y5⟩ hy6 h
    refine exM ([(.d (.l true 7 (y4.map impl_Node.e))), (.d (.p (.int .i64 y5)))], []) ?_ ?_
    · exact spec_l14Part.ev hy6
    exact retE (enc := spec_FoldsOf.enc) h rfl
def impl_in.enc (r : Bool) : Res := ([(.d (.p (.bool r)))], [])
def impl_in.f  (K : Nat) (a0 : Int) (a1 : Int) (a2 : Int) : Option (Bool) := if a0 ≥ a1 then (some (decide (a0 ≤ a2))) else (some false)
theorem impl_in.ev   {K : Nat} {a0 : Int} {a1 : Int} {a2 : Int} {r : Bool} (h : impl_in.f  K a0 a1 a2 = some r) : E 71 [(.d (.p (.int .i64 a0))), (.d (.p (.int .i64 a1))), (.d (.p (.int .i64 a2)))] = some ([(.d (.p (.bool r)))], []) := by
  refine Ev_intro (fn := Tryd.f71) rfl (by kernel_rfl) (c := _) rfl ⟨rfl, by simp⟩ rfl (evP_spec _ ?_)
  unfold impl_in.f at h
  refine goS ?_
  refine iteF h (fun c1 h => ?_) (fun c1 h => ?_)
  · refine Ask.T rfl ?_
    refine Ask.T rfl ?_
    refine Ask.T rfl ?_
    exact retE (enc := impl_in.enc) h rfl
  · refine Ask.F rfl ?_
    refine Ask.F rfl ?_
    refine Ask.F rfl ?_
    exact retE (enc := impl_in.enc) h rfl
def impl_namesOf.enc (r : Int) : Res := ([(.d (.p (.int .i64 r)))], [])
def impl_namesOf.f  (K : Nat) (a0 : Int) : Option (Int) := jn (fun (v1 : Bool) => if v1 = true then (some 1) else (jn (fun (v6 : Bool) => if v6 = true then (some 2) else (some 0)) (fun j => if a0 = 6 then (j true) else (j (decide (a0 = 14)))))) (fun j => if a0 = 1 then (j true) else (if a0 = 3 then (j true) else (if a0 = 5 then (j true) else (j (decide (a0 = 19))))))
theorem impl_namesOf.ev   {K : Nat} {a0 : Int} {r : Int} (h : impl_namesOf.f  K a0 = some r) : E 119 [(.d (.p (.int .i64 a0)))] = some ([(.d (.p (.int .i64 r)))], []) := by
  refine Ev_intro (fn := Tryd.f119) rfl (by kernel_rfl) (c := _) rfl ⟨rfl, by simp⟩ rfl (evP_spec _ ?_)
  unfold impl_namesOf.f at h
  refine goS ?_
  refine seqJ h 12 (fun x => [(3, (.d (.p (.int .i64 a0)))), (4, (.d (.p (.bool x))))]) (fun x => []) (fun J h => ?_) ?_
  · refine iteF h (fun c2 h => ?_) (fun c2 h => ?_)
    · exact ⟨true, h, ⟨rfl, ⟨rfl, rfl, trivial⟩, trivial⟩⟩
    · refine iteF h (fun c3 h => ?_) (fun c3 h => ?_)
      · exact ⟨true, h, ⟨rfl, ⟨rfl, rfl, trivial⟩, trivial⟩⟩
      · refine iteF h (fun c4 h => ?_) (fun c4 h => ?_)
        · exact ⟨true, h, ⟨rfl, ⟨rfl, rfl, trivial⟩, trivial⟩⟩
        · exact ⟨(decide (a0 = 19)), h, ⟨rfl, ⟨rfl, rfl, trivial⟩, trivial⟩⟩
  · rintro v1 h e hp
    refine ifB h (fun c5 h => ?_) (fun c5 h => ?_)
    · exact retE (enc := impl_namesOf.enc) h rfl
    · refine seqJ h 12 (fun x => [(9, (.d (.p (.bool x))))]) (fun x => []) (fun J h => ?_) ?_
      · refine iteF h (fun c7 h => ?_) (fun c7 h => ?_)
        · exact ⟨true, h, ⟨rfl, ⟨rfl, trivial⟩, trivial⟩⟩
        · exact ⟨(decide (a0 = 14)), h, ⟨rfl, ⟨rfl, trivial⟩, trivial⟩⟩
      · rintro v6 h e hp
        refine ifB h (fun c8 h => ?_) (fun c8 h => ?_)
        · exact retE (enc := impl_namesOf.enc) h rfl
        · exact retE (enc := impl_namesOf.enc) h rfl
def impl_IsWord.enc (r : Bool) : Res := ([(.d (.p (.bool r)))], [])
def impl_IsWord.en (a0 : ByteArray) (r : Bool) (S : St) : Prop := endV tb md 148 Tryd.f148 [(.d (.p (.string a0)))] .ret S = some (impl_IsWord.enc r)
def impl_IsWord.l0 (a0 : ByteArray) (K : Nat) : Nat → Int → Option (Bool ⊕ Unit)
  | 0, _ => none
  | k + 1, v1 => if v1 < (a0.size : Int) then (jn (fun (v3 : Bool) => if v3 = true then (some (.inl false)) else (impl_IsWord.l0 a0 K k (w64 (v1 + 1)))) (fun j => (atS a0 v1).bind fun x4 => (if (x4.toNat : Int) < 97 then (j true) else ((atS a0 v1).bind fun x6 => (j (decide ((x6.toNat : Int) > 122))))))) else (some (.inr ()))
def impl_IsWord.f  (K : Nat) (a0 : ByteArray) : Option (Bool) := jn (fun (_ : Unit) => (impl_in.f K (a0.size : Int) 1 8).bind fun y8 => (some y8)) (fun j => lb (impl_IsWord.l0 a0 K K 0) (fun r => some r) (fun (_ : Unit) => j ()))
theorem impl_IsWord.ev   {K : Nat} {a0 : ByteArray} {r : Bool} (h : impl_IsWord.f  K a0 = some r) : E 148 [(.d (.p (.string a0)))] = some ([(.d (.p (.bool r)))], []) := by
  refine Ev_intro (fn := Tryd.f148) rfl (by kernel_rfl) (c := _) rfl ⟨rfl, by simp⟩ rfl (evP_spec _ ?_)
  unfold impl_IsWord.f at h
  refine seqJ h 23 (fun x => [(0, (.d (.p (.string a0))))]) (fun x => []) (fun J h => ?_) ?_
  · refine loopB (α := Int) (a := 0) 23 (fun x => [(0, (.d (.p (.string a0)))), (3, (.d (.p (.int .i64 x))))]) (fun x => []) (fun k x => impl_IsWord.l0 a0 K k x) (impl_IsWord.en a0) 0 (fun x => [(0, (.d (.p (.string a0))))]) (fun x => []) h (fun _ => rfl) ?_ ⟨rfl, ⟨rfl, rfl, trivial⟩, trivial⟩ ?_ ?_
    · rintro k v1 r h e hp
      replace h : impl_IsWord.l0 a0 K (k + 1) v1 = some r := h
      unfold impl_IsWord.l0 at h
      refine goS ?_
      refine iteF h (fun c2 h => ?_) (fun c2 h => ?_)
      · refine goS ?_
        refine seqJ h 23 (fun x => [(0, (.d (.p (.string a0)))), (3, (.d (.p (.int .i64 v1)))), (19, (.d (.p (.bool x))))]) (fun x => []) (fun J h => ?_) ?_
        · refine bindG h fun x4 hx4 h => ?_
          refine exM x4 hx4 ?_
          refine iteF h (fun c5 h => ?_) (fun c5 h => ?_)
          · refine Ask.T rfl ?_
            refine Ask.T rfl ?_
            refine Ask.T rfl ?_
            refine Ask.T rfl ?_
            exact ⟨true, h, ⟨rfl, ⟨rfl, rfl, rfl, trivial⟩, trivial⟩⟩
          · refine Ask.F rfl ?_
            refine Ask.F rfl ?_
            refine bindG h fun x6 hx6 h => ?_
            refine exM x6 hx6 ?_
            refine Ask.F rfl ?_
            refine Ask.F rfl ?_
            exact ⟨(decide ((x6.toNat : Int) > 122)), h, ⟨rfl, ⟨rfl, rfl, rfl, trivial⟩, trivial⟩⟩
        · rintro v3 h e hp
          refine ifB h (fun c7 h => ?_) (fun c7 h => ?_)
          · exact lqL h rfl
          · exact ⟨(w64 (v1 + 1)), h, ⟨rfl, ⟨rfl, rfl, trivial⟩, trivial⟩⟩
      · refine lqR h ?_
        exact ⟨rfl, ⟨rfl, trivial⟩, trivial⟩
    · intro r' S' h q
      exact retE (enc := impl_IsWord.enc) h q
    · rintro _ S' h ⟨qn, ⟨qa0, _⟩, ⟨_⟩⟩
      exact ⟨(), h, ⟨qn, ⟨qa0, trivial⟩, trivial⟩⟩
  · rintro _ h e hp
    refine bindG h fun y8 hy9 h => ?_
    refine exM ([(.d (.p (.bool y8)))], []) ?_ ?_
    · exact impl_in.ev hy9
    exact retE (enc := impl_IsWord.enc) h rfl
def impl_IsKey.enc (r : Bool) : Res := ([(.d (.p (.bool r)))], [])
def impl_IsKey.en (a0 : ByteArray) (r : Bool) (S : St) : Prop := endV tb md 149 Tryd.f149 [(.d (.p (.string a0)))] .ret S = some (impl_IsKey.enc r)
def impl_IsKey.l0 (a0 : ByteArray) (y1 : List ByteArray) (K : Nat) : Nat → Int → Option (Bool ⊕ Unit)
  | 0, _ => none
  | k + 1, v3 => if v3 < (y1.length : Int) then ((at_ y1 v3).bind fun x5 => (if (x5.toList == a0.toList) = true then (some (.inl true)) else (impl_IsKey.l0 a0 y1 K k (w64 (v3 + 1))))) else (some (.inr ()))
def impl_IsKey.f  (K : Nat) (a0 : ByteArray) : Option (Bool) := jn (fun (_ : Unit) => some false) (fun j => (strings_Split.f (⟨#[102, 117, 110, 32, 97, 112, 112, 32, 108, 101, 116, 32, 114, 101, 99, 32, 105, 102, 32, 97, 100, 100, 32, 115, 117, 98, 32, 108, 101, 115, 115, 32, 115, 97, 109, 101, 32, 112, 97, 105, 114, 32, 102, 115, 116, 32, 115, 110, 100, 32, 110, 105, 108, 32, 99, 111, 110, 115, 32, 109, 97, 116, 99, 104, 32, 114, 101, 102, 32, 103, 101, 116, 32, 115, 101, 116, 32, 114, 97, 105, 115, 101, 32, 116, 114, 121]⟩ : ByteArray) (⟨#[32]⟩ : ByteArray)).bind fun y1 => (lb (impl_IsKey.l0 a0 y1 K K 0) (fun r => some r) (fun (_ : Unit) => j ())))
theorem impl_IsKey.ev   {K : Nat} {a0 : ByteArray} {r : Bool} (h : impl_IsKey.f  K a0 = some r) : E 149 [(.d (.p (.string a0)))] = some ([(.d (.p (.bool r)))], []) := by
  refine Ev_intro (fn := Tryd.f149) rfl (by kernel_rfl) (c := _) rfl ⟨rfl, by simp⟩ rfl (evP_spec _ ?_)
  unfold impl_IsKey.f at h
  refine seqJ h 15 (fun x => []) (fun x => []) (fun J h => ?_) ?_
  · refine bindG h fun y1 hy2 h => ?_
    refine exM ([(.own true 1 (y1.map eS))], []) ?_ ?_
    · exact strings_Split.ev hy2
    refine eqM ((y1.length : Int) : Int) (mLen rfl) ?_
    refine loopB (α := Int) (a := 0) 15 (fun x => [(0, (.d (.p (.string a0)))), (5, (.own 5 0 2)), (6, (.d (.p (.int .i64 (y1.length : Int))))), (7, (.d (.p (.int .i64 x))))]) (fun x => [(5, 0, 2, (some (.row true true 1 (y1.map eS))))]) (fun k x => impl_IsKey.l0 a0 y1 K k x) (impl_IsKey.en a0) 0 (fun x => []) (fun x => []) h (fun _ => rfl) ?_ ⟨rfl, ⟨rfl, rfl, rfl, rfl, trivial⟩, ⟨rfl, trivial⟩⟩ ?_ ?_
    · rintro k v3 r h e hp
      replace h : impl_IsKey.l0 a0 y1 K (k + 1) v3 = some r := h
      unfold impl_IsKey.l0 at h
      refine goS ?_
      refine iteF h (fun c4 h => ?_) (fun c4 h => ?_)
      · refine goS ?_
        refine bindG h fun x5 hx5 h => ?_
        refine anM (at_ix rfl hx5) ?_
        refine exM (eS x5) (at_get rfl hx5) ?_
        refine ifB h (fun c6 h => ?_) (fun c6 h => ?_)
        · exact lqL h rfl
        · exact ⟨(w64 (v3 + 1)), h, ⟨rfl, ⟨rfl, rfl, rfl, rfl, trivial⟩, ⟨rfl, trivial⟩⟩⟩
      · refine lqR h ?_
        exact ⟨rfl, trivial, trivial⟩
    · intro r' S' h q
      exact retE (enc := impl_IsKey.enc) h q
    · rintro _ S' h ⟨qn, ⟨_⟩, ⟨_⟩⟩
      exact ⟨(), h, ⟨qn, trivial, trivial⟩⟩
  · rintro _ h e hp
    exact retE (enc := impl_IsKey.enc) h rfl
def impl_isName.enc (r : Bool) : Res := ([(.d (.p (.bool r)))], [])
def impl_isName.f  (K : Nat) (a0 : ByteArray) : Option (Bool) := (impl_IsWord.f K a0).bind fun y1 => (if y1 = true then ((impl_IsKey.f K a0).bind fun y4 => (some (!y4))) else (some false))
theorem impl_isName.ev   {K : Nat} {a0 : ByteArray} {r : Bool} (h : impl_isName.f  K a0 = some r) : E 135 [(.d (.p (.string a0)))] = some ([(.d (.p (.bool r)))], []) := by
  refine Ev_intro (fn := Tryd.f135) rfl (by kernel_rfl) (c := _) rfl ⟨rfl, by simp⟩ rfl (evP_spec _ ?_)
  unfold impl_isName.f at h
  refine goS ?_
  refine bindG h fun y1 hy2 h => ?_
  refine exM ([(.d (.p (.bool y1)))], []) ?_ ?_
  · exact impl_IsWord.ev hy2
  refine ifB h (fun c3 h => ?_) (fun c3 h => ?_)
  · refine Ask.T rfl ?_
    refine bindG h fun y4 hy5 h => ?_
    refine exM ([(.d (.p (.bool y4)))], []) ?_ ?_
    · exact impl_IsKey.ev hy5
    refine Ask.T rfl ?_
    refine Ask.T rfl ?_
    exact retE (enc := impl_isName.enc) h rfl
  · refine Ask.F rfl ?_
    refine Ask.F rfl ?_
    refine Ask.F rfl ?_
    exact retE (enc := impl_isName.enc) h rfl
def impl_nameFits.enc (r : Bool) : Res := ([(.d (.p (.bool r)))], [])
def impl_nameFits.f  (K : Nat) (a0 : ByteArray) (a1 : Bool) : Option (Bool) := if a1 = true then ((impl_isName.f K a0).bind fun y2 => (some y2)) else (some (a0.toList == (⟨#[]⟩ : ByteArray).toList))
theorem impl_nameFits.ev   {K : Nat} {a0 : ByteArray} {a1 : Bool} {r : Bool} (h : impl_nameFits.f  K a0 a1 = some r) : E 118 [(.d (.p (.string a0))), (.d (.p (.bool a1)))] = some ([(.d (.p (.bool r)))], []) := by
  refine Ev_intro (fn := Tryd.f118) rfl (by kernel_rfl) (c := _) rfl ⟨rfl, by simp⟩ rfl (evP_spec _ ?_)
  unfold impl_nameFits.f at h
  refine goS ?_
  refine ifB h (fun c1 h => ?_) (fun c1 h => ?_)
  · refine bindG h fun y2 hy3 h => ?_
    refine exM ([(.d (.p (.bool y2)))], []) ?_ ?_
    · exact impl_isName.ev hy3
    exact retE (enc := impl_nameFits.enc) h rfl
  · exact retE (enc := impl_nameFits.enc) h rfl
def impl_Arity.enc (r : Int) : Res := ([(.d (.p (.int .i64 r)))], [])
def impl_Arity.f  (K : Nat) (a0 : Int) : Option (Int) := jn (fun (v1 : Bool) => if v1 = true then (some 1) else (jn (fun (v8 : Bool) => if v8 = true then (some 2) else (jn (fun (v17 : Bool) => if v17 = true then (some 3) else (some 0)) (fun j => if a0 = 7 then (j true) else (j (decide (a0 = 14)))))) (fun j => if a0 = 4 then (j true) else (if a0 = 5 then (j true) else (if a0 = 6 then (j true) else (if a0 = 8 then (j true) else (if a0 = 9 then (j true) else (if a0 = 13 then (j true) else (if a0 = 17 then (j true) else (j (decide (a0 = 19)))))))))))) (fun j => if a0 = 3 then (j true) else (if a0 = 10 then (j true) else (if a0 = 11 then (j true) else (if a0 = 15 then (j true) else (if a0 = 16 then (j true) else (j (decide (a0 = 18))))))))
theorem impl_Arity.ev   {K : Nat} {a0 : Int} {r : Int} (h : impl_Arity.f  K a0 = some r) : E 98 [(.d (.p (.int .i64 a0)))] = some ([(.d (.p (.int .i64 r)))], []) := by
  refine Ev_intro (fn := Tryd.f98) rfl (by kernel_rfl) (c := _) rfl ⟨rfl, by simp⟩ rfl (evP_spec _ ?_)
  unfold impl_Arity.f at h
  refine goS ?_
  refine seqJ h 23 (fun x => [(3, (.d (.p (.int .i64 a0)))), (4, (.d (.p (.bool x))))]) (fun x => []) (fun J h => ?_) ?_
  · refine iteF h (fun c2 h => ?_) (fun c2 h => ?_)
    · exact ⟨true, h, ⟨rfl, ⟨rfl, rfl, trivial⟩, trivial⟩⟩
    · refine iteF h (fun c3 h => ?_) (fun c3 h => ?_)
      · exact ⟨true, h, ⟨rfl, ⟨rfl, rfl, trivial⟩, trivial⟩⟩
      · refine iteF h (fun c4 h => ?_) (fun c4 h => ?_)
        · exact ⟨true, h, ⟨rfl, ⟨rfl, rfl, trivial⟩, trivial⟩⟩
        · refine iteF h (fun c5 h => ?_) (fun c5 h => ?_)
          · exact ⟨true, h, ⟨rfl, ⟨rfl, rfl, trivial⟩, trivial⟩⟩
          · refine iteF h (fun c6 h => ?_) (fun c6 h => ?_)
            · exact ⟨true, h, ⟨rfl, ⟨rfl, rfl, trivial⟩, trivial⟩⟩
            · exact ⟨(decide (a0 = 18)), h, ⟨rfl, ⟨rfl, rfl, trivial⟩, trivial⟩⟩
  · rintro v1 h e hp
    refine ifB h (fun c7 h => ?_) (fun c7 h => ?_)
    · exact retE (enc := impl_Arity.enc) h rfl
    · refine seqJ h 23 (fun x => [(3, (.d (.p (.int .i64 a0)))), (11, (.d (.p (.bool x))))]) (fun x => []) (fun J h => ?_) ?_
      · refine iteF h (fun c9 h => ?_) (fun c9 h => ?_)
        · exact ⟨true, h, ⟨rfl, ⟨rfl, rfl, trivial⟩, trivial⟩⟩
        · refine iteF h (fun c10 h => ?_) (fun c10 h => ?_)
          · exact ⟨true, h, ⟨rfl, ⟨rfl, rfl, trivial⟩, trivial⟩⟩
          · refine iteF h (fun c11 h => ?_) (fun c11 h => ?_)
            · exact ⟨true, h, ⟨rfl, ⟨rfl, rfl, trivial⟩, trivial⟩⟩
            · refine iteF h (fun c12 h => ?_) (fun c12 h => ?_)
              · exact ⟨true, h, ⟨rfl, ⟨rfl, rfl, trivial⟩, trivial⟩⟩
              · refine iteF h (fun c13 h => ?_) (fun c13 h => ?_)
                · exact ⟨true, h, ⟨rfl, ⟨rfl, rfl, trivial⟩, trivial⟩⟩
                · refine iteF h (fun c14 h => ?_) (fun c14 h => ?_)
                  · exact ⟨true, h, ⟨rfl, ⟨rfl, rfl, trivial⟩, trivial⟩⟩
                  · refine iteF h (fun c15 h => ?_) (fun c15 h => ?_)
                    · exact ⟨true, h, ⟨rfl, ⟨rfl, rfl, trivial⟩, trivial⟩⟩
                    · exact ⟨(decide (a0 = 19)), h, ⟨rfl, ⟨rfl, rfl, trivial⟩, trivial⟩⟩
      · rintro v8 h e hp
        refine ifB h (fun c16 h => ?_) (fun c16 h => ?_)
        · exact retE (enc := impl_Arity.enc) h rfl
        · refine seqJ h 23 (fun x => [(20, (.d (.p (.bool x))))]) (fun x => []) (fun J h => ?_) ?_
          · refine iteF h (fun c18 h => ?_) (fun c18 h => ?_)
            · exact ⟨true, h, ⟨rfl, ⟨rfl, trivial⟩, trivial⟩⟩
            · exact ⟨(decide (a0 = 14)), h, ⟨rfl, ⟨rfl, trivial⟩, trivial⟩⟩
          · rintro v17 h e hp
            refine ifB h (fun c19 h => ?_) (fun c19 h => ?_)
            · exact retE (enc := impl_Arity.enc) h rfl
            · exact retE (enc := impl_Arity.enc) h rfl
def impl_fieldsOk.enc (r : Bool) : Res := ([(.d (.p (.bool r)))], [])
def impl_fieldsOk.en (a0 : impl_Node) (r : Bool) (S : St) : Prop := endV tb md 93 Tryd.f93 [(.agg (a0.e.map .d))] .ret S = some (impl_fieldsOk.enc r)
def impl_fieldsOk.l0 (a0 : impl_Node) (K : Nat) : Nat → Int → Option (Bool ⊕ Unit)
  | 0, _ => none
  | k + 1, v15 => if v15 < 3 then ((at_ ([a0.A, a0.B, a0.C] : List Int) v15).bind fun x17 => (jn (fun (v18 : Bool) => if v18 = true then (some (.inl false)) else (impl_fieldsOk.l0 a0 K k (w64 (v15 + 1)))) (fun j => (impl_Arity.f K a0.Kind).bind fun y19 => (if v15 ≥ y19 then (j (!(decide (x17 = 0)))) else (j false))))) else (some (.inr ()))
def impl_fieldsOk.f  (K : Nat) (a0 : impl_Node) : Option (Bool) := jn (fun (v1 : Bool) => if v1 = true then (some false) else (jn (fun (_ : Unit) => if a0.Kind = 2 then ((impl_in.f K a0.N 0 65535).bind fun y24 => (some y24)) else (if a0.Kind = 8 then ((impl_in.f K a0.N 0 3).bind fun y27 => (some y27)) else (some (decide (a0.N = 0))))) (fun j => lb (impl_fieldsOk.l0 a0 K K 0) (fun r => some r) (fun (_ : Unit) => j ())))) (fun j => (impl_in.f K a0.Kind 1 19).bind fun y2 => (if (!y2) = true then (j true) else ((impl_namesOf.f K a0.Kind).bind fun y5 => ((impl_nameFits.f K a0.Name (decide (y5 > 0))).bind fun y7 => (if (!y7) = true then (j true) else ((impl_namesOf.f K a0.Kind).bind fun y10 => ((impl_nameFits.f K a0.Other (decide (y10 > 1))).bind fun y12 => (j (!y12)))))))))
theorem impl_fieldsOk.ev   {K : Nat} {a0 : impl_Node} {r : Bool} (h : impl_fieldsOk.f  K a0 = some r) : E 93 [(.agg (a0.e.map .d))] = some ([(.d (.p (.bool r)))], []) := by
  refine Ev_intro (fn := Tryd.f93) rfl (by kernel_rfl) (c := _) rfl ⟨rfl, by simp⟩ rfl (evP_spec _ ?_)
  unfold impl_fieldsOk.f at h
  refine goS ?_
  refine seqJ h 67 (fun x => [(1, (.ptr 1 0 2 0)), (28, (.d (.p (.bool x))))]) (fun x => [(1, 0, 2, (some (.box [(.d (.p (.int .i64 a0.Kind))), (.d (.p (.int .i64 a0.A))), (.d (.p (.int .i64 a0.B))), (.d (.p (.int .i64 a0.C))), (.d (.p (.int .i64 a0.N))), (.d (.p (.string a0.Name))), (.d (.p (.string a0.Other)))])))]) (fun J h => ?_) ?_
  · refine ⟨[[], [], [], [], [], [12, 13, 14], [12, 13, 14], [10, 11], [10, 11], [10, 11], [], [], [], [], [], [22, 23, 24], [22, 23, 24], [20, 21], [20, 21], [20, 21], [], [], [], []], by kernel_rfl, ?_⟩
    refine bindG h fun y2 hy3 h => ?_
    refine exM ([(.d (.p (.bool y2)))], []) ?_ ?_
    · exact impl_in.ev hy3
    refine ifB h (fun c4 h => ?_) (fun c4 h => ?_)
    · refine Ask.T rfl ?_
      refine Ask.T rfl ?_
      refine Ask.T rfl ?_
      refine Ask.T rfl ?_
      refine Ask.T rfl ?_
      refine Ask.T rfl ?_
      refine Ask.T rfl ?_
      refine Ask.T rfl ?_
      refine Ask.T rfl ?_
      refine Ask.T rfl ?_
      refine Ask.T rfl ?_
      refine Ask.T rfl ?_
      refine Ask.T rfl ?_
      refine Ask.T rfl ?_
      refine Ask.T rfl ?_
      refine Ask.T rfl ?_
      refine Ask.T rfl ?_
      exact ⟨true, h, ⟨rfl, ⟨rfl, rfl, trivial⟩, ⟨rfl, trivial⟩⟩⟩
    · refine Ask.F rfl ?_
      refine Ask.F rfl ?_
      refine Ask.F rfl ?_
      refine Ask.F rfl ?_
      refine bindG h fun y5 hy6 h => ?_
      refine exM ([(.d (.p (.int .i64 y5)))], []) ?_ ?_
      · exact impl_namesOf.ev hy6
      refine Ask.F rfl ?_
      refine Ask.F rfl ?_
      refine bindG h fun y7 hy8 h => ?_
      refine exM ([(.d (.p (.bool y7)))], []) ?_ ?_
      · exact impl_nameFits.ev hy8
      refine Ask.F rfl ?_
      refine Ask.F rfl ?_
      refine ifB h (fun c9 h => ?_) (fun c9 h => ?_)
      · refine Ask.T rfl ?_
        refine Ask.T rfl ?_
        refine Ask.T rfl ?_
        refine Ask.T rfl ?_
        refine Ask.T rfl ?_
        refine Ask.T rfl ?_
        refine Ask.T rfl ?_
        refine Ask.T rfl ?_
        exact ⟨true, h, ⟨rfl, ⟨rfl, rfl, trivial⟩, ⟨rfl, trivial⟩⟩⟩
      · refine Ask.F rfl ?_
        refine Ask.F rfl ?_
        refine Ask.F rfl ?_
        refine Ask.F rfl ?_
        refine bindG h fun y10 hy11 h => ?_
        refine exM ([(.d (.p (.int .i64 y10)))], []) ?_ ?_
        · exact impl_namesOf.ev hy11
        refine Ask.F rfl ?_
        refine Ask.F rfl ?_
        refine bindG h fun y12 hy13 h => ?_
        refine exM ([(.d (.p (.bool y12)))], []) ?_ ?_
        · exact impl_nameFits.ev hy13
        refine Ask.F rfl ?_
        refine Ask.F rfl ?_
        exact ⟨(!y12), h, ⟨rfl, ⟨rfl, rfl, trivial⟩, ⟨rfl, trivial⟩⟩⟩
  · rintro v1 h e hp
    refine ifB h (fun c14 h => ?_) (fun c14 h => ?_)
    · exact retE (enc := impl_fieldsOk.enc) h rfl
    · refine seqJ h 67 (fun x => [(1, (.ptr 1 0 2 0))]) (fun x => [(1, 0, 2, (some (.box [(.d (.p (.int .i64 a0.Kind))), (.d (.p (.int .i64 a0.A))), (.d (.p (.int .i64 a0.B))), (.d (.p (.int .i64 a0.C))), (.d (.p (.int .i64 a0.N))), (.d (.p (.string a0.Name))), (.d (.p (.string a0.Other)))])))]) (fun J h => ?_) ?_
      · refine eqM (([a0.A, a0.B, a0.C] : List Int).map eI) rfl ?_
        refine eqM (3 : Int) rfl ?_
        refine loopB (α := Int) (a := 0) 67 (fun x => [(1, (.ptr 1 0 2 0)), (35, (.own 35 0 2)), (36, (.d (.p (.int .i64 3)))), (37, (.d (.p (.int .i64 x))))]) (fun x => [(1, 0, 2, (some (.box [(.d (.p (.int .i64 a0.Kind))), (.d (.p (.int .i64 a0.A))), (.d (.p (.int .i64 a0.B))), (.d (.p (.int .i64 a0.C))), (.d (.p (.int .i64 a0.N))), (.d (.p (.string a0.Name))), (.d (.p (.string a0.Other)))]))), (35, 0, 2, (some (.row true true 1 (([a0.A, a0.B, a0.C] : List Int).map eI))))]) (fun k x => impl_fieldsOk.l0 a0 K k x) (impl_fieldsOk.en a0) 0 (fun x => [(1, (.ptr 1 0 2 0))]) (fun x => [(1, 0, 2, (some (.box [(.d (.p (.int .i64 a0.Kind))), (.d (.p (.int .i64 a0.A))), (.d (.p (.int .i64 a0.B))), (.d (.p (.int .i64 a0.C))), (.d (.p (.int .i64 a0.N))), (.d (.p (.string a0.Name))), (.d (.p (.string a0.Other)))])))]) h (fun _ => rfl) ?_ ⟨rfl, ⟨rfl, rfl, rfl, rfl, trivial⟩, ⟨rfl, rfl, trivial⟩⟩ ?_ ?_
        · rintro k v15 r h e hp
          replace h : impl_fieldsOk.l0 a0 K (k + 1) v15 = some r := h
          unfold impl_fieldsOk.l0 at h
          refine goS ?_
          refine iteF h (fun c16 h => ?_) (fun c16 h => ?_)
          · refine goS ?_
            refine bindG h fun x17 hx17 h => ?_
            refine anM (at_ix rfl hx17) ?_
            refine exM (eI x17) (at_get rfl hx17) ?_
            refine seqJ h 67 (fun x => [(1, (.ptr 1 0 2 0)), (35, (.own 35 0 2)), (36, (.d (.p (.int .i64 3)))), (37, (.d (.p (.int .i64 v15)))), (50, (.d (.p (.bool x))))]) (fun x => [(1, 0, 2, (some (.box [(.d (.p (.int .i64 a0.Kind))), (.d (.p (.int .i64 a0.A))), (.d (.p (.int .i64 a0.B))), (.d (.p (.int .i64 a0.C))), (.d (.p (.int .i64 a0.N))), (.d (.p (.string a0.Name))), (.d (.p (.string a0.Other)))]))), (35, 0, 2, (some (.row true true 1 (([a0.A, a0.B, a0.C] : List Int).map eI))))]) (fun J h => ?_) ?_
            · refine bindG h fun y19 hy20 h => ?_
              refine exM ([(.d (.p (.int .i64 y19)))], []) ?_ ?_
              · exact impl_Arity.ev hy20
              refine iteF h (fun c21 h => ?_) (fun c21 h => ?_)
              · refine Ask.T rfl ?_
                refine Ask.T rfl ?_
                exact ⟨(!(decide (x17 = 0))), h, ⟨rfl, ⟨rfl, rfl, rfl, rfl, rfl, trivial⟩, ⟨rfl, rfl, trivial⟩⟩⟩
              · refine Ask.F rfl ?_
                refine Ask.F rfl ?_
                exact ⟨false, h, ⟨rfl, ⟨rfl, rfl, rfl, rfl, rfl, trivial⟩, ⟨rfl, rfl, trivial⟩⟩⟩
            · rintro v18 h e hp
              refine ifB h (fun c22 h => ?_) (fun c22 h => ?_)
              · exact lqL h rfl
              · exact ⟨(w64 (v15 + 1)), h, ⟨rfl, ⟨rfl, rfl, rfl, rfl, trivial⟩, ⟨rfl, rfl, trivial⟩⟩⟩
          · refine lqR h ?_
            exact ⟨rfl, ⟨rfl, trivial⟩, ⟨rfl, trivial⟩⟩
        · intro r' S' h q
          exact retE (enc := impl_fieldsOk.enc) h q
        · rintro _ S' h ⟨qn, ⟨qa0, _⟩, ⟨qb0, _⟩⟩
          exact ⟨(), h, ⟨qn, ⟨qa0, trivial⟩, ⟨qb0, trivial⟩⟩⟩
      · rintro _ h e hp
        refine goS ?_
        refine iteF h (fun c23 h => ?_) (fun c23 h => ?_)
        · refine bindG h fun y24 hy25 h => ?_
          refine exM ([(.d (.p (.bool y24)))], []) ?_ ?_
          · exact impl_in.ev hy25
          exact retE (enc := impl_fieldsOk.enc) h rfl
        · refine iteF h (fun c26 h => ?_) (fun c26 h => ?_)
          · refine bindG h fun y27 hy28 h => ?_
            refine exM ([(.d (.p (.bool y27)))], []) ?_ ?_
            · exact impl_in.ev hy28
            exact retE (enc := impl_fieldsOk.enc) h rfl
          · exact retE (enc := impl_fieldsOk.enc) h rfl
def impl_Kids.enc (r : List Int) : Res := ([(.d (.l true 1 (r.map eI)))], [])
def impl_Kids.f  (K : Nat) (a0 : impl_Node) : Option (List Int) := (impl_Arity.f K a0.Kind).bind fun y1 => ((impl_Arity.f K a0.Kind).bind fun y3 => (gd (0 ≤ y1 ∧ y1 ≤ y3 ∧ y3 ≤ (([a0.A, a0.B, a0.C] : List Int).length : Int)) (some (([a0.A, a0.B, a0.C] : List Int).take (y1).toNat))))
theorem impl_Kids.ev   {K : Nat} {a0 : impl_Node} {r : List Int} (h : impl_Kids.f  K a0 = some r) : E 56 [(.agg (a0.e.map .d))] = some ([(.d (.l true 1 (r.map eI)))], []) := by
  refine Ev_intro (fn := Tryd.f56) rfl (by kernel_rfl) (c := _) rfl ⟨rfl, by simp⟩ rfl (evP_spec _ ?_)
  unfold impl_Kids.f at h
  refine ⟨[[5, 6, 7, 8, 10, 11, 12, 13, 14, 15], [5, 6, 7, 8, 10, 11, 12, 13, 14, 15], [3, 4, 7, 8, 10, 11, 12, 13, 14, 15], [3, 4, 7, 8, 10, 11, 12, 13, 14, 15], [3, 4, 5, 6, 10, 11, 12, 13, 14, 15], [3, 4, 5, 6, 10, 11, 12, 13, 14, 15], [10, 11, 12, 13, 14, 15], [3, 4, 5, 6, 7, 8, 9, 13, 14], [3, 4, 5, 6, 7, 8, 9, 13, 14], [3, 4, 5, 6, 7, 8, 9, 13, 14], [3, 4, 5, 6, 7, 8, 9, 10, 11, 12], [3, 4, 5, 6, 7, 8, 9, 10, 11, 12], [3, 4, 5, 6, 7, 8, 9], [], []], by kernel_rfl, ?_⟩
  refine eqM (([a0.A, a0.B, a0.C] : List Int).map eI) rfl ?_
  refine bindG h fun y1 hy2 h => ?_
  refine exM ([(.d (.p (.int .i64 y1)))], []) ?_ ?_
  · exact impl_Arity.ev hy2
  refine bindG h fun y3 hy4 h => ?_
  refine exM ([(.d (.p (.int .i64 y3)))], []) ?_ ?_
  · exact impl_Arity.ev hy4
  refine gdG h fun hc h => ?_
  refine anM (slB hc) ?_
  refine eqM ((([a0.A, a0.B, a0.C] : List Int).take (y1).toNat).map eI) (mTake rfl) ?_
  exact retE (enc := impl_Kids.enc) h rfl
def impl_NodesOk.enc (r : Bool) : Res := ([(.d (.p (.bool r)))], [])
def impl_NodesOk.en (a0 : List impl_Node) (r : Bool) (S : St) : Prop := endV tb md 48 Tryd.f48 [(.d (.l true 7 (a0.map impl_Node.e)))] .ret S = some (impl_NodesOk.enc r)
def impl_NodesOk.l1 (v6 : List Int) (y13 : List Int) (K : Nat) : Nat → Int → Int → Option (Bool ⊕ Int)
  | 0, _, _ => none
  | k + 1, v16, v17 => if v17 ≥ 0 then (jn (fun (v20 : Bool) => if v20 = true then (some (.inl false)) else ((at_ v6 (w64 (v16 - 1))).bind fun x24 => (impl_NodesOk.l1 v6 y13 K k x24 (w64 (v17 - 1))))) (fun j => if v16 = 0 then (j true) else ((at_ y13 v17).bind fun x22 => (j (!(decide (x22 = (w64 (v16 - 1))))))))) else (some (.inr v16))
def impl_NodesOk.l0 (a0 : List impl_Node) (K : Nat) : Nat → Int → (List Int) → Option (Bool ⊕ (List Int))
  | 0, _, _ => none
  | k + 1, v5, v6 => if v5 < (a0.length : Int) then ((at_ a0 v5).bind fun x9 => ((impl_fieldsOk.f K x9).bind fun y10 => (if (!y10) = true then (some (.inl false)) else ((impl_Kids.f K x9).bind fun y13 => (jn (fun (v15 : Int) => (at_ v6 v5).bind fun x25 => (impl_NodesOk.l0 a0 K k (w64 (v5 + 1)) (v6.set (v5).toNat v15))) (fun j => lb (impl_NodesOk.l1 v6 y13 K K v5 (w64 ((y13.length : Int) - 1))) (fun r => some (.inl r)) (fun (v18 : Int) => j v18))))))) else (some (.inr v6))
def impl_NodesOk.f  (K : Nat) (a0 : List impl_Node) : Option (Bool) := (impl_in.f K (a0.length : Int) 1 150).bind fun y1 => (if (!y1) = true then (some false) else (gd (0 ≤ (a0.length : Int) ∧ 8 * (a0.length : Int) ≤ 140737488355328 ∧ (a0.length : Int) ≤ 140737488355328) (jn (fun (v4 : List Int) => (at_ v4 (w64 ((a0.length : Int) - 1))).bind fun x26 => (some (decide (x26 = 0)))) (fun j => lb (impl_NodesOk.l0 a0 K K 0 (List.replicate ((a0.length : Int)).toNat 0)) (fun r => some r) (fun (v7 : List Int) => j v7)))))
theorem impl_NodesOk.ev   {K : Nat} {a0 : List impl_Node} {r : Bool} (h : impl_NodesOk.f  K a0 = some r) : E 48 [(.d (.l true 7 (a0.map impl_Node.e)))] = some ([(.d (.p (.bool r)))], []) := by
  refine Ev_intro (fn := Tryd.f48) rfl (by kernel_rfl) (c := _) rfl ⟨rfl, by simp⟩ rfl (evP_spec _ ?_)
  unfold impl_NodesOk.f at h
  refine goS ?_
  refine eqM ((a0.length : Int) : Int) (mLen rfl) ?_
  refine bindG h fun y1 hy2 h => ?_
  refine exM ([(.d (.p (.bool y1)))], []) ?_ ?_
  · exact impl_in.ev hy2
  refine ifB h (fun c3 h => ?_) (fun c3 h => ?_)
  · exact retE (enc := impl_NodesOk.enc) h rfl
  · refine eqM ((a0.length : Int) : Int) (mLen rfl) ?_
    refine gdG h fun hc h => ?_
    refine anM ⟨rfl, hc⟩ ?_
    refine eqM ((List.replicate ((a0.length : Int)).toNat 0).map eI) (mRep rfl) ?_
    refine seqJ h 64 (fun x => [(0, (.d (.l true 7 (a0.map impl_Node.e)))), (3, (.own 3 1 2))]) (fun x => [(3, 1, 2, (some (.row true true 1 (x.map eI))))]) (fun J h => ?_) ?_
    · refine eqM ((a0.length : Int) : Int) (mLen rfl) ?_
      refine loopB (α := Int × List Int) (a := (0, (List.replicate ((a0.length : Int)).toNat 0))) 64 (fun x => [(0, (.d (.l true 7 (a0.map impl_Node.e)))), (3, (.own 3 1 2)), (16, (.d (.l true 7 (a0.map impl_Node.e)))), (17, (.d (.p (.int .i64 (a0.length : Int))))), (18, (.d (.p (.int .i64 x.1))))]) (fun x => [(3, 1, 2, (some (.row true true 1 (x.2.map eI))))]) (fun k x => impl_NodesOk.l0 a0 K k x.1 x.2) (impl_NodesOk.en a0) 0 (fun x => [(0, (.d (.l true 7 (a0.map impl_Node.e)))), (3, (.own 3 1 2))]) (fun x => [(3, 1, 2, (some (.row true true 1 (x.map eI))))]) h (fun _ => rfl) ?_ ⟨rfl, ⟨rfl, rfl, rfl, rfl, rfl, trivial⟩, ⟨rfl, trivial⟩⟩ ?_ ?_
      · rintro k ⟨v5, v6⟩ r h e hp
        replace h : impl_NodesOk.l0 a0 K (k + 1) v5 v6 = some r := h
        unfold impl_NodesOk.l0 at h
        refine goS ?_
        refine iteF h (fun c8 h => ?_) (fun c8 h => ?_)
        · refine goS ?_
          refine goS ?_
          refine bindG h fun x9 hx9 h => ?_
          refine anM (at_ix rfl hx9) ?_
          refine exM (impl_Node.e x9) (at_get rfl hx9) ?_
          refine goS ?_
          refine bindG h fun y10 hy11 h => ?_
          refine exM ([(.d (.p (.bool y10)))], []) ?_ ?_
          · exact impl_fieldsOk.ev hy11
          refine ifB h (fun c12 h => ?_) (fun c12 h => ?_)
          · exact lqL h rfl
          · refine bindG h fun y13 hy14 h => ?_
            refine exM ([(.d (.l true 1 (y13.map eI)))], []) ?_ ?_
            · exact impl_Kids.ev hy14
            refine seqJ h 64 (fun x => [(0, (.d (.l true 7 (a0.map impl_Node.e)))), (3, (.own 3 1 2)), (4, (.d (.p (.int .i64 v5)))), (7, (.d (.p (.int .i64 x)))), (16, (.d (.l true 7 (a0.map impl_Node.e)))), (17, (.d (.p (.int .i64 (a0.length : Int))))), (18, (.d (.p (.int .i64 v5))))]) (fun x => [(3, 1, 2, (some (.row true true 1 (v6.map eI))))]) (fun J h => ?_) ?_
            · refine eqM ((y13.length : Int) : Int) (mLen rfl) ?_
              refine loopB (α := Int × Int) (a := (v5, (w64 ((y13.length : Int) - 1)))) 64 (fun x => [(0, (.d (.l true 7 (a0.map impl_Node.e)))), (3, (.own 3 1 2)), (4, (.d (.p (.int .i64 v5)))), (6, (.d (.l true 1 (y13.map eI)))), (7, (.d (.p (.int .i64 x.1)))), (8, (.d (.p (.int .i64 x.2)))), (16, (.d (.l true 7 (a0.map impl_Node.e)))), (17, (.d (.p (.int .i64 (a0.length : Int))))), (18, (.d (.p (.int .i64 v5))))]) (fun x => [(3, 1, 2, (some (.row true true 1 (v6.map eI))))]) (fun k x => impl_NodesOk.l1 v6 y13 K k x.1 x.2) (impl_NodesOk.en a0) 2 (fun x => [(0, (.d (.l true 7 (a0.map impl_Node.e)))), (3, (.own 3 1 2)), (4, (.d (.p (.int .i64 v5)))), (7, (.d (.p (.int .i64 x)))), (16, (.d (.l true 7 (a0.map impl_Node.e)))), (17, (.d (.p (.int .i64 (a0.length : Int))))), (18, (.d (.p (.int .i64 v5))))]) (fun x => [(3, 1, 2, (some (.row true true 1 (v6.map eI))))]) h (fun _ => rfl) ?_ ⟨rfl, ⟨rfl, rfl, rfl, rfl, rfl, rfl, rfl, rfl, rfl, trivial⟩, ⟨rfl, trivial⟩⟩ ?_ ?_
              · rintro k ⟨v16, v17⟩ r h e hp
                replace h : impl_NodesOk.l1 v6 y13 K (k + 1) v16 v17 = some r := h
                unfold impl_NodesOk.l1 at h
                refine goS ?_
                refine iteF h (fun c19 h => ?_) (fun c19 h => ?_)
                · refine goS ?_
                  refine goS ?_
                  refine seqJ h 64 (fun x => [(0, (.d (.l true 7 (a0.map impl_Node.e)))), (3, (.own 3 1 2)), (4, (.d (.p (.int .i64 v5)))), (6, (.d (.l true 1 (y13.map eI)))), (7, (.d (.p (.int .i64 v16)))), (8, (.d (.p (.int .i64 v17)))), (16, (.d (.l true 7 (a0.map impl_Node.e)))), (17, (.d (.p (.int .i64 (a0.length : Int))))), (18, (.d (.p (.int .i64 v5)))), (46, (.d (.p (.bool x))))]) (fun x => [(3, 1, 2, (some (.row true true 1 (v6.map eI))))]) (fun J h => ?_) ?_
                  · refine iteF h (fun c21 h => ?_) (fun c21 h => ?_)
                    · refine Ask.T rfl ?_
                      refine Ask.T rfl ?_
                      refine Ask.T rfl ?_
                      refine Ask.T rfl ?_
                      refine Ask.T rfl ?_
                      refine Ask.T rfl ?_
                      refine Ask.T rfl ?_
                      exact ⟨true, h, ⟨rfl, ⟨rfl, rfl, rfl, rfl, rfl, rfl, rfl, rfl, rfl, rfl, trivial⟩, ⟨rfl, trivial⟩⟩⟩
                    · refine Ask.F rfl ?_
                      refine Ask.F rfl ?_
                      refine bindG h fun x22 hx22 h => ?_
                      refine anM (at_ix rfl hx22) ?_
                      refine Ask.F rfl ?_
                      refine exM (eI x22) (at_get rfl hx22) ?_
                      refine Ask.F rfl ?_
                      refine Ask.F rfl ?_
                      refine Ask.F rfl ?_
                      refine Ask.F rfl ?_
                      exact ⟨(!(decide (x22 = (w64 (v16 - 1))))), h, ⟨rfl, ⟨rfl, rfl, rfl, rfl, rfl, rfl, rfl, rfl, rfl, rfl, trivial⟩, ⟨rfl, trivial⟩⟩⟩
                  · rintro v20 h e hp
                    refine ifB h (fun c23 h => ?_) (fun c23 h => ?_)
                    · exact lqL h rfl
                    · refine bindG h fun x24 hx24 h => ?_
                      refine anM (at_ix rfl hx24) ?_
                      refine exM (eI x24) (at_get rfl hx24) ?_
                      exact ⟨(x24, (w64 (v17 - 1))), h, ⟨rfl, ⟨rfl, rfl, rfl, rfl, rfl, rfl, rfl, rfl, rfl, trivial⟩, ⟨rfl, trivial⟩⟩⟩
                · refine lqR h ?_
                  exact ⟨rfl, ⟨rfl, rfl, rfl, rfl, rfl, rfl, rfl, trivial⟩, ⟨rfl, trivial⟩⟩
              · intro r' S' h q
                exact lqL h q
              · rintro v18 S' h ⟨qn, ⟨qa0, qa1, qa2, qa3, qa4, qa5, qa6, _⟩, ⟨qb0, _⟩⟩
                exact ⟨v18, h, ⟨qn, ⟨qa0, qa1, qa2, qa3, qa4, qa5, qa6, trivial⟩, ⟨qb0, trivial⟩⟩⟩
            · rintro v15 h e hp
              refine bindG h fun x25 hx25 h => ?_
              refine anM (at_ix rfl hx25) ?_
              refine exM (eI x25) (at_get rfl hx25) ?_
              refine eqM ((v6.set (v5).toNat v15).map eI) (mSet rfl rfl) ?_
              exact ⟨((w64 (v5 + 1)), (v6.set (v5).toNat v15)), h, ⟨rfl, ⟨rfl, rfl, rfl, rfl, rfl, trivial⟩, ⟨rfl, trivial⟩⟩⟩
        · refine lqR h ?_
          exact ⟨rfl, ⟨rfl, rfl, trivial⟩, ⟨rfl, trivial⟩⟩
      · intro r' S' h q
        exact retE (enc := impl_NodesOk.enc) h q
      · rintro v7 S' h ⟨qn, ⟨qa0, qa1, _⟩, ⟨qb0, _⟩⟩
        exact ⟨v7, h, ⟨qn, ⟨qa0, qa1, trivial⟩, ⟨qb0, trivial⟩⟩⟩
    · rintro v4 h e hp
      refine eqM ((a0.length : Int) : Int) (mLen rfl) ?_
      refine bindG h fun x26 hx26 h => ?_
      refine anM (at_ix rfl hx26) ?_
      refine exM (eI x26) (at_get rfl hx26) ?_
      exact retE (enc := impl_NodesOk.enc) h rfl
def impl_treeOf.enc (r : impl_tree) : Res := ([(.agg (r.c.map .d))], [])
def impl_treeOf.l0 (r_impl_treeOf : (List impl_Node) → Int → Option (impl_tree)) (a0 : List impl_Node) (y3 : List Int) (K : Nat) : Nat → Int → impl_tree → Option (impl_tree)
  | 0, _, _ => none
  | k + 1, v5, v6 => if v5 < (y3.length : Int) then ((at_ y3 v5).bind fun x9 => ((r_impl_treeOf a0 x9).bind fun y10 => (gd ((v6.kids.length + 1) * 96 ≤ 140737488355328) (impl_treeOf.l0 r_impl_treeOf a0 y3 K k (w64 (v5 + 1)) (⟨v6.n, (v6.kids ++ ([y10] : List impl_tree))⟩ : impl_tree))))) else (some v6)
def impl_treeOf.b (r_impl_treeOf : (List impl_Node) → Int → Option (impl_tree)) (K : Nat) (a0 : List impl_Node) (a1 : Int) : Option (impl_tree) := (at_ a0 a1).bind fun x1 => (jn (fun (v2 : impl_tree) => some (⟨(⟨v2.n.Kind, 0, 0, 0, v2.n.N, v2.n.Name, v2.n.Other⟩ : impl_Node), v2.kids⟩ : impl_tree)) (fun j => (impl_Kids.f K x1).bind fun y3 => ((impl_treeOf.l0 r_impl_treeOf a0 y3 K K 0 (⟨x1, ([] : List impl_tree)⟩ : impl_tree)).bind fun (v7 : impl_tree) => j v7)))
theorem impl_treeOf.b_ev {r_impl_treeOf : (List impl_Node) → Int → Option (impl_tree)} (hr_impl_treeOf : ∀ {a0 : List impl_Node} {a1 : Int} {r : impl_tree}, r_impl_treeOf a0 a1 = some r → E 107 [(.d (.l true 7 (a0.map impl_Node.e))), (.d (.p (.int .i64 a1)))] = some ([(.agg (r.c.map .d))], [])) {K : Nat} {a0 : List impl_Node} {a1 : Int} {r : impl_tree} (h : impl_treeOf.b r_impl_treeOf K a0 a1 = some r) : E 107 [(.d (.l true 7 (a0.map impl_Node.e))), (.d (.p (.int .i64 a1)))] = some ([(.agg (r.c.map .d))], []) := by
  refine Ev_intro (fn := Tryd.f107) rfl (by kernel_rfl) (c := _) rfl ⟨rfl, by simp⟩ rfl (evP_spec _ ?_)
  unfold impl_treeOf.b at h
  refine goS ?_
  refine bindG h fun x1 hx1 h => ?_
  refine anM (at_ix rfl hx1) ?_
  refine exM (impl_Node.e x1) (at_get rfl hx1) ?_
  refine seqJ h 39 (fun x => [(4, (.ptr 4 0 2 0)), (5, (.ptr 5 0 2 0))]) (fun x => [(4, 0, 2, (some (.box [(.d (.p (.int .i64 0))), (.d (.p (.int .i64 0))), (.d (.p (.int .i64 0))), (.d (.p (.int .i64 0))), (.d (.p (.int .i64 0))), (.d (.p (.string (⟨#[]⟩ : ByteArray)))), (.d (.p (.string (⟨#[]⟩ : ByteArray)))), (.own 4 1007 2)]))), (4, 1007, 2, (some (.row true false 8 (([] : List impl_tree).map impl_tree.e)))), (5, 0, 2, (some (.box [(.d (.p (.int .i64 x.n.Kind))), (.d (.p (.int .i64 x.n.A))), (.d (.p (.int .i64 x.n.B))), (.d (.p (.int .i64 x.n.C))), (.d (.p (.int .i64 x.n.N))), (.d (.p (.string x.n.Name))), (.d (.p (.string x.n.Other))), (.own 5 1007 2)]))), (5, 1007, 2, (some (.row true false 8 (x.kids.map impl_tree.e))))]) (fun J h => ?_) ?_
  · refine anM (at_ix rfl hx1) ?_
    refine exM (impl_Node.e x1) (at_get rfl hx1) ?_
    refine bindG h fun y3 hy4 h => ?_
    refine exM ([(.d (.l true 1 (y3.map eI)))], []) ?_ ?_
    · exact impl_Kids.ev hy4
    refine eqM ((y3.length : Int) : Int) (mLen rfl) ?_
    refine loopX (α := Int × impl_tree) (a := (0, (⟨x1, ([] : List impl_tree)⟩ : impl_tree))) 39 (fun x => [(0, (.d (.l true 7 (a0.map impl_Node.e)))), (4, (.ptr 4 0 2 0)), (5, (.ptr 5 0 2 0)), (17, (.d (.l true 1 (y3.map eI)))), (18, (.d (.p (.int .i64 (y3.length : Int))))), (19, (.d (.p (.int .i64 x.1))))]) (fun x => [(4, 0, 2, (some (.box [(.d (.p (.int .i64 0))), (.d (.p (.int .i64 0))), (.d (.p (.int .i64 0))), (.d (.p (.int .i64 0))), (.d (.p (.int .i64 0))), (.d (.p (.string (⟨#[]⟩ : ByteArray)))), (.d (.p (.string (⟨#[]⟩ : ByteArray)))), (.own 4 1007 2)]))), (4, 1007, 2, (some (.row true false 8 (([] : List impl_tree).map impl_tree.e)))), (5, 0, 2, (some (.box [(.d (.p (.int .i64 x.2.n.Kind))), (.d (.p (.int .i64 x.2.n.A))), (.d (.p (.int .i64 x.2.n.B))), (.d (.p (.int .i64 x.2.n.C))), (.d (.p (.int .i64 x.2.n.N))), (.d (.p (.string x.2.n.Name))), (.d (.p (.string x.2.n.Other))), (.own 5 1007 2)]))), (5, 1007, 2, (some (.row true false 8 (x.2.kids.map impl_tree.e))))]) (fun k x => impl_treeOf.l0 r_impl_treeOf a0 y3 K k x.1 x.2) 0 (fun x => [(4, (.ptr 4 0 2 0)), (5, (.ptr 5 0 2 0))]) (fun x => [(4, 0, 2, (some (.box [(.d (.p (.int .i64 0))), (.d (.p (.int .i64 0))), (.d (.p (.int .i64 0))), (.d (.p (.int .i64 0))), (.d (.p (.int .i64 0))), (.d (.p (.string (⟨#[]⟩ : ByteArray)))), (.d (.p (.string (⟨#[]⟩ : ByteArray)))), (.own 4 1007 2)]))), (4, 1007, 2, (some (.row true false 8 (([] : List impl_tree).map impl_tree.e)))), (5, 0, 2, (some (.box [(.d (.p (.int .i64 x.n.Kind))), (.d (.p (.int .i64 x.n.A))), (.d (.p (.int .i64 x.n.B))), (.d (.p (.int .i64 x.n.C))), (.d (.p (.int .i64 x.n.N))), (.d (.p (.string x.n.Name))), (.d (.p (.string x.n.Other))), (.own 5 1007 2)]))), (5, 1007, 2, (some (.row true false 8 (x.kids.map impl_tree.e))))]) h (fun _ => rfl) ?_ ⟨rfl, ⟨rfl, rfl, rfl, rfl, rfl, rfl, trivial⟩, ⟨rfl, rfl, rfl, rfl, trivial⟩⟩ ?_
    · rintro k ⟨v5, v6⟩ r h e hp
      replace h : impl_treeOf.l0 r_impl_treeOf a0 y3 K (k + 1) v5 v6 = some r := h
      unfold impl_treeOf.l0 at h
      refine goS ?_
      refine iteF h (fun c8 h => ?_) (fun c8 h => ?_)
      · refine goS ?_
        refine bindG h fun x9 hx9 h => ?_
        refine anM (at_ix rfl hx9) ?_
        refine exM (eI x9) (at_get rfl hx9) ?_
        refine ⟨[[25, 27, 28], [25, 27, 28], [23, 24], [], [23, 24], [23, 24], [], [], []], by kernel_rfl, ?_⟩
        refine bindG h fun y10 hy11 h => ?_
        refine exM ([(.agg (y10.c.map .d))], []) ?_ ?_
        · exact hr_impl_treeOf hy11
        refine eqM (([y10] : List impl_tree).map impl_tree.e) (by simp only [List.map, impl_tree.e_eq]; rfl) ?_
        refine gdG h fun hc h => ?_
        refine anM (apB hc) ?_
        refine eqM ((v6.kids ++ ([y10] : List impl_tree)).map impl_tree.e) (mApp rfl rfl) ?_
        exact ⟨((w64 (v5 + 1)), (⟨v6.n, (v6.kids ++ ([y10] : List impl_tree))⟩ : impl_tree)), h, ⟨rfl, ⟨rfl, rfl, rfl, rfl, rfl, rfl, trivial⟩, ⟨rfl, rfl, rfl, rfl, trivial⟩⟩⟩
      · refine exQ h ?_
        exact ⟨rfl, ⟨rfl, rfl, trivial⟩, ⟨rfl, rfl, rfl, rfl, trivial⟩⟩
    · rintro v7 S' h ⟨qn, ⟨qa0, qa1, _⟩, ⟨qb0, qb1, qb2, qb3, _⟩⟩
      exact ⟨v7, h, ⟨qn, ⟨qa0, qa1, trivial⟩, ⟨qb0, qb1, qb2, qb3, trivial⟩⟩⟩
  · rintro v2 h e hp
    refine goR ?_
    refine Re.mk 39 [(4, (.ptr 4 0 2 0)), (5, (.ptr 5 0 2 0))] [(4, 0, 2, (some (.box [(.d (.p (.int .i64 0))), (.d (.p (.int .i64 0))), (.d (.p (.int .i64 0))), (.d (.p (.int .i64 0))), (.d (.p (.int .i64 0))), (.d (.p (.string (⟨#[]⟩ : ByteArray)))), (.d (.p (.string (⟨#[]⟩ : ByteArray)))), (.own 4 1007 2)]))), (4, 1007, 2, (some (.row true false 8 (([] : List impl_tree).map impl_tree.e)))), (5, 0, 2, (some (.box [(.d (.p (.int .i64 v2.n.Kind))), (.d (.p (.int .i64 0))), (.d (.p (.int .i64 0))), (.d (.p (.int .i64 0))), (.d (.p (.int .i64 v2.n.N))), (.d (.p (.string v2.n.Name))), (.d (.p (.string v2.n.Other))), (.own 5 1007 2)]))), (5, 1007, 2, (some (.row true false 8 (v2.kids.map impl_tree.e))))] (by exact ⟨rfl, ⟨rfl, rfl, trivial⟩, ⟨rfl, rfl, rfl, rfl, trivial⟩⟩) ?_
    intro e hp
    refine goS ?_
    exact retE (enc := impl_treeOf.enc) h rfl
def impl_treeOf.r (K : Nat) : Nat → (List impl_Node) → Int → Option (impl_tree)
  | 0, _, _ => none
  | d + 1, a0, a1 => impl_treeOf.b (impl_treeOf.r K d) K a0 a1
theorem impl_treeOf.r_ev {K : Nat} : ∀ (d : Nat) {a0 : List impl_Node} {a1 : Int} {r : impl_tree}, impl_treeOf.r K d a0 a1 = some r → E 107 [(.d (.l true 7 (a0.map impl_Node.e))), (.d (.p (.int .i64 a1)))] = some ([(.agg (r.c.map .d))], []) := by
  intro d
  induction d with
  | zero => intro a0 a1 r h; cases h
  | succ d ih => intro a0 a1 r h; exact impl_treeOf.b_ev ih h
def impl_treeOf.f (K : Nat) (a0 : List impl_Node) (a1 : Int) : Option (impl_tree) := impl_treeOf.r K K a0 a1
theorem impl_treeOf.ev {K : Nat} {a0 : List impl_Node} {a1 : Int} {r : impl_tree} (h : impl_treeOf.f K a0 a1 = some r) : E 107 [(.d (.l true 7 (a0.map impl_Node.e))), (.d (.p (.int .i64 a1)))] = some ([(.agg (r.c.map .d))], []) := impl_treeOf.r_ev K h
def impl_wholeTree.enc (r : impl_tree) : Res := ([(.agg (r.c.map .d))], [])
def impl_wholeTree.f  (K : Nat) (a0 : List impl_Node) : Option (impl_tree) := (impl_treeOf.f K a0 (w64 ((a0.length : Int) - 1))).bind fun y1 => (some y1)
theorem impl_wholeTree.ev   {K : Nat} {a0 : List impl_Node} {r : impl_tree} (h : impl_wholeTree.f  K a0 = some r) : E 81 [(.d (.l true 7 (a0.map impl_Node.e)))] = some ([(.agg (r.c.map .d))], []) := by
  refine Ev_intro (fn := Tryd.f81) rfl (by kernel_rfl) (c := _) rfl ⟨rfl, by simp⟩ rfl (evP_spec _ ?_)
  unfold impl_wholeTree.f at h
  refine goS ?_
  refine eqM ((a0.length : Int) : Int) (mLen rfl) ?_
  refine bindG h fun y1 hy2 h => ?_
  refine exM ([(.agg (y1.c.map .d))], []) ?_ ?_
  · exact impl_treeOf.ev hy2
  exact retE (enc := impl_wholeTree.enc) h rfl
def impl_prim.enc (r : Int) : Res := ([(.d (.p (.int .i64 r)))], [])
def impl_prim.f  (K : Nat) (a0 : Int) (a1 : Int) (a2 : Int) : Option (Int) := jn (fun (v1 : Bool) => if v1 = true then (some 1) else (some 0)) (fun j => if a0 = 0 then (some (Int.tmod (w64 (a1 + a2)) 65536)) else (if a0 = 1 then (some (Int.tmod (w64 ((w64 (a1 - a2)) + 65536)) 65536)) else (if a0 = 2 then (j (decide (a1 < a2))) else (j (decide (a1 = a2))))))
theorem impl_prim.ev   {K : Nat} {a0 : Int} {a1 : Int} {a2 : Int} {r : Int} (h : impl_prim.f  K a0 a1 a2 = some r) : E 106 [(.d (.p (.int .i64 a0))), (.d (.p (.int .i64 a1))), (.d (.p (.int .i64 a2)))] = some ([(.d (.p (.int .i64 r)))], []) := by
  refine Ev_intro (fn := Tryd.f106) rfl (by kernel_rfl) (c := _) rfl ⟨rfl, by simp⟩ rfl (evP_spec _ ?_)
  unfold impl_prim.f at h
  refine seqJ h 31 (fun x => [(7, (.d (.p (.bool x))))]) (fun x => []) (fun J h => ?_) ?_
  · refine iteF h (fun c2 h => ?_) (fun c2 h => ?_)
    · refine anM (by decide) ?_
      exact retE (enc := impl_prim.enc) h rfl
    · refine iteF h (fun c3 h => ?_) (fun c3 h => ?_)
      · refine anM (by decide) ?_
        exact retE (enc := impl_prim.enc) h rfl
      · refine iteF h (fun c4 h => ?_) (fun c4 h => ?_)
        · exact ⟨(decide (a1 < a2)), h, ⟨rfl, ⟨rfl, trivial⟩, trivial⟩⟩
        · exact ⟨(decide (a1 = a2)), h, ⟨rfl, ⟨rfl, trivial⟩, trivial⟩⟩
  · rintro v1 h e hp
    refine goS ?_
    refine ifB h (fun c5 h => ?_) (fun c5 h => ?_)
    · exact retE (enc := impl_prim.enc) h rfl
    · exact retE (enc := impl_prim.enc) h rfl
def impl_folder_fold.enc (r : impl_tree × impl_folder) : Res := ([(.agg (r.1.c.map .d))], [(.ptr [(.d (.p (.int .i64 r.2.n)))])])
def impl_folder_fold.l0 (r_impl_folder_fold : impl_folder → impl_tree → Option (impl_tree × impl_folder)) (a1 : impl_tree) (K : Nat) : Nat → Int → impl_folder → impl_tree → Option (impl_folder × impl_tree)
  | 0, _, _, _ => none
  | k + 1, v3, v4, v5 => if v3 < (a1.kids.length : Int) then ((at_ a1.kids v3).bind fun x9 => ((r_impl_folder_fold v4 x9).bind fun (y10, y11) => (gd ((v5.kids.length + 1) * 96 ≤ 140737488355328) (impl_folder_fold.l0 r_impl_folder_fold a1 K k (w64 (v3 + 1)) y11 (⟨v5.n, (v5.kids ++ ([y10] : List impl_tree))⟩ : impl_tree))))) else (some (v4, v5))
def impl_folder_fold.b (r_impl_folder_fold : impl_folder → impl_tree → Option (impl_tree × impl_folder)) (K : Nat) (a0 : impl_folder) (a1 : impl_tree) : Option (impl_tree × impl_folder) := jn (fun (v1, v2) => jn (fun (v13 : Bool) => if v13 = true then ((at_ v2.kids 0).bind fun x19 => ((at_ v2.kids 1).bind fun x20 => ((impl_prim.f K a1.n.N x19.n.N x20.n.N).bind fun y21 => (some ((⟨(⟨2, 0, 0, 0, y21, (⟨#[]⟩ : ByteArray), (⟨#[]⟩ : ByteArray)⟩ : impl_Node), ([] : List impl_tree)⟩ : impl_tree), (⟨(w64 (v1.n + 1))⟩ : impl_folder)))))) else (jn (fun (v23 : Bool) => if v23 = true then ((at_ v2.kids 0).bind fun x27 => (if (!(decide (x27.n.N = 0))) = true then ((at_ v2.kids 1).bind fun x29 => (some (x29, (⟨(w64 (v1.n + 1))⟩ : impl_folder)))) else ((at_ v2.kids 2).bind fun x30 => (some (x30, (⟨(w64 (v1.n + 1))⟩ : impl_folder)))))) else (jn (fun (v31 : Bool) => if v31 = true then ((at_ v2.kids 1).bind fun x35 => (some (x35, (⟨(w64 (v1.n + 1))⟩ : impl_folder)))) else (some (v2, v1))) (fun j => if a1.n.Kind = 14 then ((at_ v2.kids 0).bind fun x33 => (j (decide (x33.n.Kind = 12)))) else (j false)))) (fun j => if a1.n.Kind = 7 then ((at_ v2.kids 0).bind fun x25 => (j (decide (x25.n.Kind = 2)))) else (j false)))) (fun j => if a1.n.Kind = 8 then ((at_ v2.kids 0).bind fun x15 => (if x15.n.Kind = 2 then ((at_ v2.kids 1).bind fun x17 => (j (decide (x17.n.Kind = 2)))) else (j false))) else (j false))) (fun j => (impl_folder_fold.l0 r_impl_folder_fold a1 K K 0 a0 (⟨a1.n, ([] : List impl_tree)⟩ : impl_tree)).bind fun (v6, v7) => j (v6, v7))
theorem impl_folder_fold.b_ev {r_impl_folder_fold : impl_folder → impl_tree → Option (impl_tree × impl_folder)} (hr_impl_folder_fold : ∀ {a0 : impl_folder} {a1 : impl_tree} {r : impl_tree × impl_folder}, r_impl_folder_fold a0 a1 = some r → E 80 [(.ptr [(.d (.p (.int .i64 a0.n)))]), (.agg (a1.c.map .d))] = some ([(.agg (r.1.c.map .d))], [(.ptr [(.d (.p (.int .i64 r.2.n)))])])) {K : Nat} {a0 : impl_folder} {a1 : impl_tree} {r : impl_tree × impl_folder} (h : impl_folder_fold.b r_impl_folder_fold K a0 a1 = some r) : E 80 [(.ptr [(.d (.p (.int .i64 a0.n)))]), (.agg (a1.c.map .d))] = some ([(.agg (r.1.c.map .d))], [(.ptr [(.d (.p (.int .i64 r.2.n)))])]) := by
  refine Ev_intro (fn := Tryd.f80) rfl (by kernel_rfl) (c := _) rfl ⟨rfl, by simp⟩ rfl (evP_spec _ ?_)
  unfold impl_folder_fold.b at h
  refine goS ?_
  refine seqJ h 132 (fun x => [(0, (.ptr 132 0 1 0)), (3, (.ptr 3 0 2 0)), (4, (.ptr 4 0 2 0)), (5, (.ptr 5 0 2 0))]) (fun x => [(3, 0, 2, (some (.box [(.d (.p (.int .i64 a1.n.Kind))), (.d (.p (.int .i64 a1.n.A))), (.d (.p (.int .i64 a1.n.B))), (.d (.p (.int .i64 a1.n.C))), (.d (.p (.int .i64 a1.n.N))), (.d (.p (.string a1.n.Name))), (.d (.p (.string a1.n.Other))), (.d (.l false 8 (a1.kids.map impl_tree.e)))]))), (4, 0, 2, (some (.box [(.d (.p (.int .i64 0))), (.d (.p (.int .i64 0))), (.d (.p (.int .i64 0))), (.d (.p (.int .i64 0))), (.d (.p (.int .i64 0))), (.d (.p (.string (⟨#[]⟩ : ByteArray)))), (.d (.p (.string (⟨#[]⟩ : ByteArray)))), (.own 4 1007 2)]))), (4, 1007, 2, (some (.row true false 8 (([] : List impl_tree).map impl_tree.e)))), (5, 0, 2, (some (.box [(.d (.p (.int .i64 x.2.n.Kind))), (.d (.p (.int .i64 x.2.n.A))), (.d (.p (.int .i64 x.2.n.B))), (.d (.p (.int .i64 x.2.n.C))), (.d (.p (.int .i64 x.2.n.N))), (.d (.p (.string x.2.n.Name))), (.d (.p (.string x.2.n.Other))), (.own 5 1007 2)]))), (5, 1007, 2, (some (.row true false 8 (x.2.kids.map impl_tree.e)))), (132, 0, 1, (some (.box [(.d (.p (.int .i64 x.1.n)))])))]) (fun J h => ?_) ?_
  · refine eqM ((a1.kids.length : Int) : Int) (mLen rfl) ?_
    refine loopX (α := Int × impl_folder × impl_tree) (a := (0, a0, (⟨a1.n, ([] : List impl_tree)⟩ : impl_tree))) 132 (fun x => [(0, (.ptr 132 0 1 0)), (3, (.ptr 3 0 2 0)), (4, (.ptr 4 0 2 0)), (5, (.ptr 5 0 2 0)), (14, (.d (.l false 8 (a1.kids.map impl_tree.e)))), (15, (.d (.p (.int .i64 (a1.kids.length : Int))))), (16, (.d (.p (.int .i64 x.1))))]) (fun x => [(3, 0, 2, (some (.box [(.d (.p (.int .i64 a1.n.Kind))), (.d (.p (.int .i64 a1.n.A))), (.d (.p (.int .i64 a1.n.B))), (.d (.p (.int .i64 a1.n.C))), (.d (.p (.int .i64 a1.n.N))), (.d (.p (.string a1.n.Name))), (.d (.p (.string a1.n.Other))), (.d (.l false 8 (a1.kids.map impl_tree.e)))]))), (4, 0, 2, (some (.box [(.d (.p (.int .i64 0))), (.d (.p (.int .i64 0))), (.d (.p (.int .i64 0))), (.d (.p (.int .i64 0))), (.d (.p (.int .i64 0))), (.d (.p (.string (⟨#[]⟩ : ByteArray)))), (.d (.p (.string (⟨#[]⟩ : ByteArray)))), (.own 4 1007 2)]))), (4, 1007, 2, (some (.row true false 8 (([] : List impl_tree).map impl_tree.e)))), (5, 0, 2, (some (.box [(.d (.p (.int .i64 x.2.2.n.Kind))), (.d (.p (.int .i64 x.2.2.n.A))), (.d (.p (.int .i64 x.2.2.n.B))), (.d (.p (.int .i64 x.2.2.n.C))), (.d (.p (.int .i64 x.2.2.n.N))), (.d (.p (.string x.2.2.n.Name))), (.d (.p (.string x.2.2.n.Other))), (.own 5 1007 2)]))), (5, 1007, 2, (some (.row true false 8 (x.2.2.kids.map impl_tree.e)))), (132, 0, 1, (some (.box [(.d (.p (.int .i64 x.2.1.n)))])))]) (fun k x => impl_folder_fold.l0 r_impl_folder_fold a1 K k x.1 x.2.1 x.2.2) 0 (fun x => [(0, (.ptr 132 0 1 0)), (3, (.ptr 3 0 2 0)), (4, (.ptr 4 0 2 0)), (5, (.ptr 5 0 2 0))]) (fun x => [(3, 0, 2, (some (.box [(.d (.p (.int .i64 a1.n.Kind))), (.d (.p (.int .i64 a1.n.A))), (.d (.p (.int .i64 a1.n.B))), (.d (.p (.int .i64 a1.n.C))), (.d (.p (.int .i64 a1.n.N))), (.d (.p (.string a1.n.Name))), (.d (.p (.string a1.n.Other))), (.d (.l false 8 (a1.kids.map impl_tree.e)))]))), (4, 0, 2, (some (.box [(.d (.p (.int .i64 0))), (.d (.p (.int .i64 0))), (.d (.p (.int .i64 0))), (.d (.p (.int .i64 0))), (.d (.p (.int .i64 0))), (.d (.p (.string (⟨#[]⟩ : ByteArray)))), (.d (.p (.string (⟨#[]⟩ : ByteArray)))), (.own 4 1007 2)]))), (4, 1007, 2, (some (.row true false 8 (([] : List impl_tree).map impl_tree.e)))), (5, 0, 2, (some (.box [(.d (.p (.int .i64 x.2.n.Kind))), (.d (.p (.int .i64 x.2.n.A))), (.d (.p (.int .i64 x.2.n.B))), (.d (.p (.int .i64 x.2.n.C))), (.d (.p (.int .i64 x.2.n.N))), (.d (.p (.string x.2.n.Name))), (.d (.p (.string x.2.n.Other))), (.own 5 1007 2)]))), (5, 1007, 2, (some (.row true false 8 (x.2.kids.map impl_tree.e)))), (132, 0, 1, (some (.box [(.d (.p (.int .i64 x.1.n)))])))]) h (fun _ => rfl) ?_ ⟨rfl, ⟨rfl, rfl, rfl, rfl, rfl, rfl, rfl, trivial⟩, ⟨rfl, rfl, rfl, rfl, rfl, rfl, trivial⟩⟩ ?_
    · rintro k ⟨v3, v4, v5⟩ r h e hp
      replace h : impl_folder_fold.l0 r_impl_folder_fold a1 K (k + 1) v3 v4 v5 = some r := h
      unfold impl_folder_fold.l0 at h
      refine goS ?_
      refine iteF h (fun c8 h => ?_) (fun c8 h => ?_)
      · refine goS ?_
        refine goS ?_
        refine bindG h fun x9 hx9 h => ?_
        refine anM (at_ix rfl hx9) ?_
        refine exM (impl_tree.c x9) ((at_get rfl hx9).trans (congrArg some (impl_tree.e_eq x9))) ?_
        refine goS ?_
        refine bindG h ?_
        rintro ⟨y10, y11⟩ hy12 h
        refine exM ([(.agg (y10.c.map .d))], [(.ptr [(.d (.p (.int .i64 y11.n)))])]) ?_ ?_
        · exact hr_impl_folder_fold hy12
        refine eqM (([y10] : List impl_tree).map impl_tree.e) (by simp only [List.map, impl_tree.e_eq]; rfl) ?_
        refine gdG h fun hc h => ?_
        refine anM (apB hc) ?_
        refine eqM ((v5.kids ++ ([y10] : List impl_tree)).map impl_tree.e) (mApp rfl rfl) ?_
        exact ⟨((w64 (v3 + 1)), y11, (⟨v5.n, (v5.kids ++ ([y10] : List impl_tree))⟩ : impl_tree)), h, ⟨rfl, ⟨rfl, rfl, rfl, rfl, rfl, rfl, rfl, trivial⟩, ⟨rfl, rfl, rfl, rfl, rfl, rfl, trivial⟩⟩⟩
      · refine exQ h ?_
        exact ⟨rfl, ⟨rfl, rfl, rfl, rfl, trivial⟩, ⟨rfl, rfl, rfl, rfl, rfl, rfl, trivial⟩⟩
    · rintro ⟨v6, v7⟩ S' h ⟨qn, ⟨qa0, qa1, qa2, qa3, _⟩, ⟨qb0, qb1, qb2, qb3, qb4, qb5, _⟩⟩
      exact ⟨(v6, v7), h, ⟨qn, ⟨qa0, qa1, qa2, qa3, trivial⟩, ⟨qb0, qb1, qb2, qb3, qb4, qb5, trivial⟩⟩⟩
  · rintro ⟨v1, v2⟩ h e hp
    refine goS ?_
    refine seqJ h 132 (fun x => [(0, (.ptr 132 0 1 0)), (3, (.ptr 3 0 2 0)), (4, (.ptr 4 0 2 0)), (5, (.ptr 5 0 2 0)), (9, (.own 5 1007 2)), (32, (.d (.p (.bool x))))]) (fun x => [(3, 0, 2, (some (.box [(.d (.p (.int .i64 a1.n.Kind))), (.d (.p (.int .i64 a1.n.A))), (.d (.p (.int .i64 a1.n.B))), (.d (.p (.int .i64 a1.n.C))), (.d (.p (.int .i64 a1.n.N))), (.d (.p (.string a1.n.Name))), (.d (.p (.string a1.n.Other))), (.d (.l false 8 (a1.kids.map impl_tree.e)))]))), (4, 0, 2, (some (.box [(.d (.p (.int .i64 0))), (.d (.p (.int .i64 0))), (.d (.p (.int .i64 0))), (.d (.p (.int .i64 0))), (.d (.p (.int .i64 0))), (.d (.p (.string (⟨#[]⟩ : ByteArray)))), (.d (.p (.string (⟨#[]⟩ : ByteArray)))), (.own 4 1007 2)]))), (4, 1007, 2, (some (.row true false 8 (([] : List impl_tree).map impl_tree.e)))), (5, 0, 2, (some (.box [(.d (.p (.int .i64 v2.n.Kind))), (.d (.p (.int .i64 v2.n.A))), (.d (.p (.int .i64 v2.n.B))), (.d (.p (.int .i64 v2.n.C))), (.d (.p (.int .i64 v2.n.N))), (.d (.p (.string v2.n.Name))), (.d (.p (.string v2.n.Other))), (.own 5 1007 2)]))), (5, 1007, 2, (some (.row true false 8 (v2.kids.map impl_tree.e)))), (132, 0, 1, (some (.box [(.d (.p (.int .i64 v1.n)))])))]) (fun J h => ?_) ?_
    · refine iteF h (fun c14 h => ?_) (fun c14 h => ?_)
      · refine Ask.T rfl ?_
        refine bindG h fun x15 hx15 h => ?_
        refine anM (at_ix rfl hx15) ?_
        refine Ask.T rfl ?_
        refine anM (at_lt rfl hx15) ?_
        refine Ask.T rfl ?_
        refine anM (at_lt rfl hx15) ?_
        refine Ask.T rfl ?_
        refine exM (impl_tree.c x15) ((at_get rfl hx15).trans (congrArg some (impl_tree.e_eq x15))) ?_
        refine Ask.T rfl ?_
        refine Ask.T rfl ?_
        refine iteF h (fun c16 h => ?_) (fun c16 h => ?_)
        · refine Ask.T rfl ?_
          refine bindG h fun x17 hx17 h => ?_
          refine anM (at_ix rfl hx17) ?_
          refine Ask.T rfl ?_
          refine anM (at_lt rfl hx17) ?_
          refine Ask.T rfl ?_
          refine anM (at_lt rfl hx17) ?_
          refine Ask.T rfl ?_
          refine exM (impl_tree.c x17) ((at_get rfl hx17).trans (congrArg some (impl_tree.e_eq x17))) ?_
          refine Ask.T rfl ?_
          refine Ask.T rfl ?_
          exact ⟨(decide (x17.n.Kind = 2)), h, ⟨rfl, ⟨rfl, rfl, rfl, rfl, rfl, rfl, trivial⟩, ⟨rfl, rfl, rfl, rfl, rfl, rfl, trivial⟩⟩⟩
        · refine Ask.F rfl ?_
          refine Ask.F rfl ?_
          refine Ask.F rfl ?_
          refine Ask.F rfl ?_
          refine Ask.F rfl ?_
          refine Ask.F rfl ?_
          exact ⟨false, h, ⟨rfl, ⟨rfl, rfl, rfl, rfl, rfl, rfl, trivial⟩, ⟨rfl, rfl, rfl, rfl, rfl, rfl, trivial⟩⟩⟩
      · refine Ask.F rfl ?_
        refine Ask.F rfl ?_
        refine Ask.F rfl ?_
        refine Ask.F rfl ?_
        refine Ask.F rfl ?_
        refine Ask.F rfl ?_
        refine Ask.F rfl ?_
        refine Ask.F rfl ?_
        refine Ask.F rfl ?_
        refine Ask.F rfl ?_
        refine Ask.F rfl ?_
        refine Ask.F rfl ?_
        refine Ask.F rfl ?_
        exact ⟨false, h, ⟨rfl, ⟨rfl, rfl, rfl, rfl, rfl, rfl, trivial⟩, ⟨rfl, rfl, rfl, rfl, rfl, rfl, trivial⟩⟩⟩
    · rintro v13 h e hp
      refine ifB h (fun c18 h => ?_) (fun c18 h => ?_)
      · refine goS ?_
        refine goS ?_
        refine ⟨[[63, 64, 65, 66, 67, 68, 69, 70, 71, 72], [63, 64, 65, 66, 67, 68, 69, 70, 71, 72], [63, 64, 65, 66, 67, 68, 69, 70, 71, 72], [60, 61, 62, 68, 69, 70, 71, 72], [60, 61, 62, 68, 69, 70, 71, 72], [60, 61, 62, 68, 69, 70, 71, 72], [60, 61, 62, 68, 69, 70, 71, 72], [60, 61, 62, 68, 69, 70, 71, 72], [60, 61, 62, 63, 64, 65, 66, 67], [60, 61, 62, 63, 64, 65, 66, 67], [60, 61, 62, 63, 64, 65, 66, 67], [60, 61, 62, 63, 64, 65, 66, 67], [60, 61, 62, 63, 64, 65, 66, 67], [], [], [], []], by kernel_rfl, ?_⟩
        refine bindG h fun x19 hx19 h => ?_
        refine anM (at_ix rfl hx19) ?_
        refine anM (at_lt rfl hx19) ?_
        refine anM (at_lt rfl hx19) ?_
        refine exM (impl_tree.c x19) ((at_get rfl hx19).trans (congrArg some (impl_tree.e_eq x19))) ?_
        refine bindG h fun x20 hx20 h => ?_
        refine anM (at_ix rfl hx20) ?_
        refine anM (at_lt rfl hx20) ?_
        refine anM (at_lt rfl hx20) ?_
        refine exM (impl_tree.c x20) ((at_get rfl hx20).trans (congrArg some (impl_tree.e_eq x20))) ?_
        refine bindG h fun y21 hy22 h => ?_
        refine exM ([(.d (.p (.int .i64 y21)))], []) ?_ ?_
        · exact impl_prim.ev hy22
        exact retE (enc := impl_folder_fold.enc) h rfl
      · refine seqJ h 132 (fun x => [(0, (.ptr 132 0 1 0)), (3, (.ptr 3 0 2 0)), (4, (.ptr 4 0 2 0)), (5, (.ptr 5 0 2 0)), (9, (.own 5 1007 2)), (76, (.d (.p (.bool x))))]) (fun x => [(3, 0, 2, (some (.box [(.d (.p (.int .i64 a1.n.Kind))), (.d (.p (.int .i64 a1.n.A))), (.d (.p (.int .i64 a1.n.B))), (.d (.p (.int .i64 a1.n.C))), (.d (.p (.int .i64 a1.n.N))), (.d (.p (.string a1.n.Name))), (.d (.p (.string a1.n.Other))), (.d (.l false 8 (a1.kids.map impl_tree.e)))]))), (4, 0, 2, (some (.box [(.d (.p (.int .i64 0))), (.d (.p (.int .i64 0))), (.d (.p (.int .i64 0))), (.d (.p (.int .i64 0))), (.d (.p (.int .i64 0))), (.d (.p (.string (⟨#[]⟩ : ByteArray)))), (.d (.p (.string (⟨#[]⟩ : ByteArray)))), (.own 4 1007 2)]))), (4, 1007, 2, (some (.row true false 8 (([] : List impl_tree).map impl_tree.e)))), (5, 0, 2, (some (.box [(.d (.p (.int .i64 v2.n.Kind))), (.d (.p (.int .i64 v2.n.A))), (.d (.p (.int .i64 v2.n.B))), (.d (.p (.int .i64 v2.n.C))), (.d (.p (.int .i64 v2.n.N))), (.d (.p (.string v2.n.Name))), (.d (.p (.string v2.n.Other))), (.own 5 1007 2)]))), (5, 1007, 2, (some (.row true false 8 (v2.kids.map impl_tree.e)))), (132, 0, 1, (some (.box [(.d (.p (.int .i64 v1.n)))])))]) (fun J h => ?_) ?_
        · refine iteF h (fun c24 h => ?_) (fun c24 h => ?_)
          · refine Ask.T rfl ?_
            refine bindG h fun x25 hx25 h => ?_
            refine anM (at_ix rfl hx25) ?_
            refine Ask.T rfl ?_
            refine anM (at_lt rfl hx25) ?_
            refine Ask.T rfl ?_
            refine anM (at_lt rfl hx25) ?_
            refine Ask.T rfl ?_
            refine exM (impl_tree.c x25) ((at_get rfl hx25).trans (congrArg some (impl_tree.e_eq x25))) ?_
            refine Ask.T rfl ?_
            refine Ask.T rfl ?_
            exact ⟨(decide (x25.n.Kind = 2)), h, ⟨rfl, ⟨rfl, rfl, rfl, rfl, rfl, rfl, trivial⟩, ⟨rfl, rfl, rfl, rfl, rfl, rfl, trivial⟩⟩⟩
          · refine Ask.F rfl ?_
            refine Ask.F rfl ?_
            refine Ask.F rfl ?_
            refine Ask.F rfl ?_
            refine Ask.F rfl ?_
            refine Ask.F rfl ?_
            exact ⟨false, h, ⟨rfl, ⟨rfl, rfl, rfl, rfl, rfl, rfl, trivial⟩, ⟨rfl, rfl, rfl, rfl, rfl, rfl, trivial⟩⟩⟩
        · rintro v23 h e hp
          refine ifB h (fun c26 h => ?_) (fun c26 h => ?_)
          · refine goS ?_
            refine goS ?_
            refine bindG h fun x27 hx27 h => ?_
            refine anM (at_ix rfl hx27) ?_
            refine anM (at_lt rfl hx27) ?_
            refine anM (at_lt rfl hx27) ?_
            refine exM (impl_tree.c x27) ((at_get rfl hx27).trans (congrArg some (impl_tree.e_eq x27))) ?_
            refine ifB h (fun c28 h => ?_) (fun c28 h => ?_)
            · refine goS ?_
              refine bindG h fun x29 hx29 h => ?_
              refine anM (at_ix rfl hx29) ?_
              refine exM (impl_tree.c x29) ((at_get rfl hx29).trans (congrArg some (impl_tree.e_eq x29))) ?_
              exact retE (enc := impl_folder_fold.enc) h rfl
            · refine goS ?_
              refine bindG h fun x30 hx30 h => ?_
              refine anM (at_ix rfl hx30) ?_
              refine exM (impl_tree.c x30) ((at_get rfl hx30).trans (congrArg some (impl_tree.e_eq x30))) ?_
              exact retE (enc := impl_folder_fold.enc) h rfl
          · refine seqJ h 132 (fun x => [(0, (.ptr 132 0 1 0)), (4, (.ptr 4 0 2 0)), (5, (.ptr 5 0 2 0)), (9, (.own 5 1007 2)), (108, (.d (.p (.bool x))))]) (fun x => [(4, 0, 2, (some (.box [(.d (.p (.int .i64 0))), (.d (.p (.int .i64 0))), (.d (.p (.int .i64 0))), (.d (.p (.int .i64 0))), (.d (.p (.int .i64 0))), (.d (.p (.string (⟨#[]⟩ : ByteArray)))), (.d (.p (.string (⟨#[]⟩ : ByteArray)))), (.own 4 1007 2)]))), (4, 1007, 2, (some (.row true false 8 (([] : List impl_tree).map impl_tree.e)))), (5, 0, 2, (some (.box [(.d (.p (.int .i64 v2.n.Kind))), (.d (.p (.int .i64 v2.n.A))), (.d (.p (.int .i64 v2.n.B))), (.d (.p (.int .i64 v2.n.C))), (.d (.p (.int .i64 v2.n.N))), (.d (.p (.string v2.n.Name))), (.d (.p (.string v2.n.Other))), (.own 5 1007 2)]))), (5, 1007, 2, (some (.row true false 8 (v2.kids.map impl_tree.e)))), (132, 0, 1, (some (.box [(.d (.p (.int .i64 v1.n)))])))]) (fun J h => ?_) ?_
            · refine iteF h (fun c32 h => ?_) (fun c32 h => ?_)
              · refine Ask.T rfl ?_
                refine bindG h fun x33 hx33 h => ?_
                refine anM (at_ix rfl hx33) ?_
                refine Ask.T rfl ?_
                refine anM (at_lt rfl hx33) ?_
                refine Ask.T rfl ?_
                refine anM (at_lt rfl hx33) ?_
                refine Ask.T rfl ?_
                refine exM (impl_tree.c x33) ((at_get rfl hx33).trans (congrArg some (impl_tree.e_eq x33))) ?_
                refine Ask.T rfl ?_
                refine Ask.T rfl ?_
                exact ⟨(decide (x33.n.Kind = 12)), h, ⟨rfl, ⟨rfl, rfl, rfl, rfl, rfl, trivial⟩, ⟨rfl, rfl, rfl, rfl, rfl, trivial⟩⟩⟩
              · refine Ask.F rfl ?_
                refine Ask.F rfl ?_
                refine Ask.F rfl ?_
                refine Ask.F rfl ?_
                refine Ask.F rfl ?_
                refine Ask.F rfl ?_
                exact ⟨false, h, ⟨rfl, ⟨rfl, rfl, rfl, rfl, rfl, trivial⟩, ⟨rfl, rfl, rfl, rfl, rfl, trivial⟩⟩⟩
            · rintro v31 h e hp
              refine ifB h (fun c34 h => ?_) (fun c34 h => ?_)
              · refine goS ?_
                refine goS ?_
                refine bindG h fun x35 hx35 h => ?_
                refine anM (at_ix rfl hx35) ?_
                refine exM (impl_tree.c x35) ((at_get rfl hx35).trans (congrArg some (impl_tree.e_eq x35))) ?_
                exact retE (enc := impl_folder_fold.enc) h rfl
              · refine goS ?_
                exact retE (enc := impl_folder_fold.enc) h rfl
def impl_folder_fold.r (K : Nat) : Nat → impl_folder → impl_tree → Option (impl_tree × impl_folder)
  | 0, _, _ => none
  | d + 1, a0, a1 => impl_folder_fold.b (impl_folder_fold.r K d) K a0 a1
theorem impl_folder_fold.r_ev {K : Nat} : ∀ (d : Nat) {a0 : impl_folder} {a1 : impl_tree} {r : impl_tree × impl_folder}, impl_folder_fold.r K d a0 a1 = some r → E 80 [(.ptr [(.d (.p (.int .i64 a0.n)))]), (.agg (a1.c.map .d))] = some ([(.agg (r.1.c.map .d))], [(.ptr [(.d (.p (.int .i64 r.2.n)))])]) := by
  intro d
  induction d with
  | zero => intro a0 a1 r h; cases h
  | succ d ih => intro a0 a1 r h; exact impl_folder_fold.b_ev ih h
def impl_folder_fold.f (K : Nat) (a0 : impl_folder) (a1 : impl_tree) : Option (impl_tree × impl_folder) := impl_folder_fold.r K K a0 a1
theorem impl_folder_fold.ev {K : Nat} {a0 : impl_folder} {a1 : impl_tree} {r : impl_tree × impl_folder} (h : impl_folder_fold.f K a0 a1 = some r) : E 80 [(.ptr [(.d (.p (.int .i64 a0.n)))]), (.agg (a1.c.map .d))] = some ([(.agg (r.1.c.map .d))], [(.ptr [(.d (.p (.int .i64 r.2.n)))])]) := impl_folder_fold.r_ev K h
def impl_FoldsOf.enc (r : Int) : Res := ([(.d (.p (.int .i64 r)))], [])
def impl_FoldsOf.f  (K : Nat) (a0 : List impl_Node) : Option (Int) := (impl_NodesOk.f K a0).bind fun y1 => (if (!y1) = true then (some 0) else ((impl_wholeTree.f K a0).bind fun y4 => ((impl_folder_fold.f K (⟨0⟩ : impl_folder) y4).bind fun (y6, y7) => (some y7.n))))
theorem impl_FoldsOf.ev   {K : Nat} {a0 : List impl_Node} {r : Int} (h : impl_FoldsOf.f  K a0 = some r) : E 35 [(.d (.l true 7 (a0.map impl_Node.e)))] = some ([(.d (.p (.int .i64 r)))], []) := by
  refine Ev_intro (fn := Tryd.f35) rfl (by kernel_rfl) (c := _) rfl ⟨rfl, by simp⟩ rfl (evP_spec _ ?_)
  unfold impl_FoldsOf.f at h
  refine goS ?_
  refine bindG h fun y1 hy2 h => ?_
  refine exM ([(.d (.p (.bool y1)))], []) ?_ ?_
  · exact impl_NodesOk.ev hy2
  refine ifB h (fun c3 h => ?_) (fun c3 h => ?_)
  · exact retE (enc := impl_FoldsOf.enc) h rfl
  · refine bindG h fun y4 hy5 h => ?_
    refine exM ([(.agg (y4.c.map .d))], []) ?_ ?_
    · exact impl_wholeTree.ev hy5
    refine bindG h ?_
    rintro ⟨y6, y7⟩ hy8 h
    refine exM ([(.agg (y6.c.map .d))], [(.ptr [(.d (.p (.int .i64 y7.n)))])]) ?_ ?_
    · exact impl_folder_fold.ev hy8
    exact retE (enc := impl_FoldsOf.enc) h rfl
def laws_eqNode.enc (r : Bool) : Res := ([(.d (.p (.bool r)))], [])
def laws_eqNode.f  (K : Nat) (a0 : impl_Node) (a1 : impl_Node) : Option (Bool) := if (!(decide (a0.Kind = a1.Kind))) = true then (some false) else (if (!(decide (a0.A = a1.A))) = true then (some false) else (if (!(decide (a0.B = a1.B))) = true then (some false) else (if (!(decide (a0.C = a1.C))) = true then (some false) else (if (!(decide (a0.N = a1.N))) = true then (some false) else (if (!(a0.Name.toList == a1.Name.toList)) = true then (some false) else (if (!(a0.Other.toList == a1.Other.toList)) = true then (some false) else (some true)))))))
theorem laws_eqNode.ev   {K : Nat} {a0 : impl_Node} {a1 : impl_Node} {r : Bool} (h : laws_eqNode.f  K a0 a1 = some r) : E 67 [(.agg (a0.e.map .d)), (.agg (a1.e.map .d))] = some ([(.d (.p (.bool r)))], []) := by
  refine Ev_intro (fn := Tryd.f67) rfl (by kernel_rfl) (c := _) rfl ⟨rfl, by simp⟩ rfl (evP_spec _ ?_)
  unfold laws_eqNode.f at h
  refine goS ?_
  refine ifB h (fun c1 h => ?_) (fun c1 h => ?_)
  · exact retE (enc := laws_eqNode.enc) h rfl
  · refine goS ?_
    refine ifB h (fun c2 h => ?_) (fun c2 h => ?_)
    · exact retE (enc := laws_eqNode.enc) h rfl
    · refine goS ?_
      refine ifB h (fun c3 h => ?_) (fun c3 h => ?_)
      · exact retE (enc := laws_eqNode.enc) h rfl
      · refine goS ?_
        refine ifB h (fun c4 h => ?_) (fun c4 h => ?_)
        · exact retE (enc := laws_eqNode.enc) h rfl
        · refine goS ?_
          refine ifB h (fun c5 h => ?_) (fun c5 h => ?_)
          · exact retE (enc := laws_eqNode.enc) h rfl
          · refine goS ?_
            refine ifB h (fun c6 h => ?_) (fun c6 h => ?_)
            · exact retE (enc := laws_eqNode.enc) h rfl
            · refine goS ?_
              refine ifB h (fun c7 h => ?_) (fun c7 h => ?_)
              · exact retE (enc := laws_eqNode.enc) h rfl
              · exact retE (enc := laws_eqNode.enc) h rfl
def laws_eqNodeS.enc (r : Bool) : Res := ([(.d (.p (.bool r)))], [])
def laws_eqNodeS.en (a0 : List impl_Node) (a1 : List impl_Node) (r : Bool) (S : St) : Prop := endV tb md 18 Tryd.f18 [(.d (.l true 7 (a0.map impl_Node.e))), (.d (.l true 7 (a1.map impl_Node.e)))] .ret S = some (laws_eqNodeS.enc r)
def laws_eqNodeS.l0 (a0 : List impl_Node) (a1 : List impl_Node) (K : Nat) : Nat → Int → Option (Bool ⊕ Unit)
  | 0, _ => none
  | k + 1, v2 => if v2 < (a0.length : Int) then ((at_ a0 v2).bind fun x4 => ((at_ a1 v2).bind fun x5 => ((laws_eqNode.f K x4 x5).bind fun y6 => (if (!y6) = true then (some (.inl false)) else (laws_eqNodeS.l0 a0 a1 K k (w64 (v2 + 1))))))) else (some (.inr ()))
def laws_eqNodeS.f  (K : Nat) (a0 : List impl_Node) (a1 : List impl_Node) : Option (Bool) := if (!(decide ((a0.length : Int) = (a1.length : Int)))) = true then (some false) else (jn (fun (_ : Unit) => some true) (fun j => lb (laws_eqNodeS.l0 a0 a1 K K 0) (fun r => some r) (fun (_ : Unit) => j ())))
theorem laws_eqNodeS.ev   {K : Nat} {a0 : List impl_Node} {a1 : List impl_Node} {r : Bool} (h : laws_eqNodeS.f  K a0 a1 = some r) : E 18 [(.d (.l true 7 (a0.map impl_Node.e))), (.d (.l true 7 (a1.map impl_Node.e)))] = some ([(.d (.p (.bool r)))], []) := by
  refine Ev_intro (fn := Tryd.f18) rfl (by kernel_rfl) (c := _) rfl ⟨rfl, by simp⟩ rfl (evP_spec _ ?_)
  unfold laws_eqNodeS.f at h
  refine goS ?_
  refine eqM ((a0.length : Int) : Int) (mLen rfl) ?_
  refine eqM ((a1.length : Int) : Int) (mLen rfl) ?_
  refine ifB h (fun c1 h => ?_) (fun c1 h => ?_)
  · exact retE (enc := laws_eqNodeS.enc) h rfl
  · refine seqJ h 27 (fun x => []) (fun x => []) (fun J h => ?_) ?_
    · refine loopB (α := Int) (a := 0) 27 (fun x => [(0, (.d (.l true 7 (a0.map impl_Node.e)))), (1, (.d (.l true 7 (a1.map impl_Node.e)))), (5, (.d (.p (.int .i64 x))))]) (fun x => []) (fun k x => laws_eqNodeS.l0 a0 a1 K k x) (laws_eqNodeS.en a0 a1) 0 (fun x => []) (fun x => []) h (fun _ => rfl) ?_ ⟨rfl, ⟨rfl, rfl, rfl, trivial⟩, trivial⟩ ?_ ?_
      · rintro k v2 r h e hp
        replace h : laws_eqNodeS.l0 a0 a1 K (k + 1) v2 = some r := h
        unfold laws_eqNodeS.l0 at h
        refine goS ?_
        refine eqM ((a0.length : Int) : Int) (mLen rfl) ?_
        refine iteF h (fun c3 h => ?_) (fun c3 h => ?_)
        · refine goS ?_
          refine ⟨[[21, 23, 24], [], [21, 23, 24], [21, 23, 24], [17, 19, 20], [], [17, 19, 20], [17, 19, 20], [], []], by kernel_rfl, ?_⟩
          refine bindG h fun x4 hx4 h => ?_
          refine anM (at_ix rfl hx4) ?_
          refine exM (impl_Node.e x4) (at_get rfl hx4) ?_
          refine bindG h fun x5 hx5 h => ?_
          refine anM (at_ix rfl hx5) ?_
          refine exM (impl_Node.e x5) (at_get rfl hx5) ?_
          refine bindG h fun y6 hy7 h => ?_
          refine exM ([(.d (.p (.bool y6)))], []) ?_ ?_
          · exact laws_eqNode.ev hy7
          refine ifB h (fun c8 h => ?_) (fun c8 h => ?_)
          · exact lqL h rfl
          · exact ⟨(w64 (v2 + 1)), h, ⟨rfl, ⟨rfl, rfl, rfl, trivial⟩, trivial⟩⟩
        · refine lqR h ?_
          exact ⟨rfl, trivial, trivial⟩
      · intro r' S' h q
        exact retE (enc := laws_eqNodeS.enc) h q
      · rintro _ S' h ⟨qn, ⟨_⟩, ⟨_⟩⟩
        exact ⟨(), h, ⟨qn, trivial, trivial⟩⟩
    · rintro _ h e hp
      exact retE (enc := laws_eqNodeS.enc) h rfl
def laws_FnExactFoldsOf.enc (r : Bool) : Res := ([(.d (.p (.bool r)))], [])
def laws_FnExactFoldsOf.f  (K : Nat) (a0 : List laws_Node) : Option (Bool) := (laws_szNodeS.f K a0 1048576).bind fun y1 => (if y1 < 0 then (some true) else ((laws_toNodeS.f K a0).bind fun y4 => ((spec_FoldsOf.f K y4).bind fun y6 => ((laws_toNodeS.f K a0).bind fun y8 => ((impl_FoldsOf.f K y8).bind fun y10 => (if (!(decide (y10 = y6))) = true then (some false) else ((laws_toNodeS.f K a0).bind fun y13 => ((laws_eqNodeS.f K y8 y13).bind fun y15 => (if (!y15) = true then (some false) else (some true))))))))))
theorem laws_FnExactFoldsOf.ev   {K : Nat} {a0 : List laws_Node} {r : Bool} (h : laws_FnExactFoldsOf.f  K a0 = some r) : E 8 [(.d (.l true 7 (a0.map laws_Node.e)))] = some ([(.d (.p (.bool r)))], []) := by
  refine Ev_intro (fn := Tryd.f8) rfl (by kernel_rfl) (c := _) rfl ⟨rfl, by simp⟩ rfl (evP_spec _ ?_)
  unfold laws_FnExactFoldsOf.f at h
  refine bindG h fun y1 hy2 h => ?_
  refine exM ([(.d (.p (.int .i64 y1)))], []) ?_ ?_
  · exact laws_szNodeS.ev hy2
  refine goS ?_
  refine iteF h (fun c3 h => ?_) (fun c3 h => ?_)
  · exact retE (enc := laws_FnExactFoldsOf.enc) h rfl
  · refine bindG h fun y4 hy5 h => ?_
    refine exM ([(.own true 7 (y4.map impl_Node.e))], []) ?_ ?_
    · exact laws_toNodeS.ev hy5
    refine bindG h fun y6 hy7 h => ?_
    refine exM ([(.d (.p (.int .i64 y6)))], []) ?_ ?_
    · exact spec_FoldsOf.ev hy7
    refine bindG h fun y8 hy9 h => ?_
    refine exM ([(.own true 7 (y8.map impl_Node.e))], []) ?_ ?_
    · exact laws_toNodeS.ev hy9
    refine bindG h fun y10 hy11 h => ?_
    refine exM ([(.d (.p (.int .i64 y10)))], []) ?_ ?_
    · exact impl_FoldsOf.ev hy11
    refine goS ?_
    refine ifB h (fun c12 h => ?_) (fun c12 h => ?_)
    · exact retE (enc := laws_FnExactFoldsOf.enc) h rfl
    · refine goS ?_
      refine bindG h fun y13 hy14 h => ?_
      refine exM ([(.own true 7 (y13.map impl_Node.e))], []) ?_ ?_
      · exact laws_toNodeS.ev hy14
      refine bindG h fun y15 hy16 h => ?_
      refine exM ([(.d (.p (.bool y15)))], []) ?_ ?_
      · exact laws_eqNodeS.ev hy16
      refine ifB h (fun c17 h => ?_) (fun c17 h => ?_)
      · exact retE (enc := laws_FnExactFoldsOf.enc) h rfl
      · exact retE (enc := laws_FnExactFoldsOf.enc) h rfl
def spec_Fold.enc (r : List impl_Node) : Res := ([(.d (.l true 7 (r.map impl_Node.e)))], [])
def spec_Fold.f  (K : Nat) (a0 : List impl_Node) : Option (List impl_Node) := (spec_NodesOk.f K a0).bind fun y1 => (if (!y1) = true then (some ([] : List impl_Node)) else ((spec_l14Part.f K a0 (w64 ((a0.length : Int) - 1))).bind fun (y4, y5) => (some y4)))
theorem spec_Fold.ev   {K : Nat} {a0 : List impl_Node} {r : List impl_Node} (h : spec_Fold.f  K a0 = some r) : E 36 [(.d (.l true 7 (a0.map impl_Node.e)))] = some ([(.d (.l true 7 (r.map impl_Node.e)))], []) := by
  refine Ev_intro (fn := Tryd.f36) rfl (by kernel_rfl) (c := _) rfl ⟨rfl, by simp⟩ rfl (evP_spec _ ?_)
  unfold spec_Fold.f at h
  refine goS ?_
  refine bindG h fun y1 hy2 h => ?_
  refine exM ([(.d (.p (.bool y1)))], []) ?_ ?_
  · exact spec_NodesOk.ev hy2
  refine ifB h (fun c3 h => ?_) (fun c3 h => ?_)
  · refine eqM (([] : List impl_Node).map impl_Node.e) rfl ?_
    exact retE (enc := spec_Fold.enc) h rfl
  · refine eqM ((a0.length : Int) : Int) (mLen rfl) ?_
    refine bindG h ?_
    rintro ⟨y4, y5⟩ hy6 h
    refine exM ([(.d (.l true 7 (y4.map impl_Node.e))), (.d (.p (.int .i64 y5)))], []) ?_ ?_
    · exact spec_l14Part.ev hy6
    exact retE (enc := spec_Fold.enc) h rfl
def impl_flat.enc (r : List impl_Node) : Res := ([(.own true 7 (r.map impl_Node.e))], [])
def impl_flat.l0 (r_impl_flat : (List impl_Node) → impl_tree → Option (List impl_Node)) (a1 : impl_tree) (K : Nat) : Nat → Int → (List impl_Node) → impl_Node → Option (List impl_Node × impl_Node)
  | 0, _, _, _ => none
  | k + 1, v3, v4, v5 => if v3 < (a1.kids.length : Int) then (jn (fun (v9, v10) => impl_flat.l0 r_impl_flat a1 K k (w64 (v3 + 1)) v9 v10) (fun j => (at_ a1.kids v3).bind fun x11 => ((r_impl_flat v4 x11).bind fun y12 => (if v3 = 0 then (j (y12, (⟨v5.Kind, (w64 ((y12.length : Int) - 1)), v5.B, v5.C, v5.N, v5.Name, v5.Other⟩ : impl_Node))) else (if v3 = 1 then (j (y12, (⟨v5.Kind, v5.A, (w64 ((y12.length : Int) - 1)), v5.C, v5.N, v5.Name, v5.Other⟩ : impl_Node))) else (if v3 = 2 then (j (y12, (⟨v5.Kind, v5.A, v5.B, (w64 ((y12.length : Int) - 1)), v5.N, v5.Name, v5.Other⟩ : impl_Node))) else (j (y12, v5)))))))) else (some (v4, v5))
def impl_flat.b (r_impl_flat : (List impl_Node) → impl_tree → Option (List impl_Node)) (K : Nat) (a0 : List impl_Node) (a1 : impl_tree) : Option (List impl_Node) := jn (fun (v1, v2) => gd ((v1.length + 1) * 72 ≤ 140737488355328) (some (v1 ++ ([v2] : List impl_Node)))) (fun j => (impl_flat.l0 r_impl_flat a1 K K 0 a0 a1.n).bind fun (v6, v7) => j (v6, v7))
theorem impl_flat.b_ev {r_impl_flat : (List impl_Node) → impl_tree → Option (List impl_Node)} (hr_impl_flat : ∀ {a0 : List impl_Node} {a1 : impl_tree} {r : List impl_Node}, r_impl_flat a0 a1 = some r → E 82 [(.own true 7 (a0.map impl_Node.e)), (.agg (a1.c.map .d))] = some ([(.own true 7 (r.map impl_Node.e))], [])) {K : Nat} {a0 : List impl_Node} {a1 : impl_tree} {r : List impl_Node} (h : impl_flat.b r_impl_flat K a0 a1 = some r) : E 82 [(.own true 7 (a0.map impl_Node.e)), (.agg (a1.c.map .d))] = some ([(.own true 7 (r.map impl_Node.e))], []) := by
  refine Ev_intro (fn := Tryd.f82) rfl (by kernel_rfl) (c := _) rfl ⟨rfl, by simp⟩ rfl (evP_spec _ ?_)
  unfold impl_flat.b at h
  refine goS ?_
  refine seqJ h 45 (fun x => [(0, (.own 0 1 2)), (5, (.ptr 5 0 2 0))]) (fun x => [(0, 1, 2, (some (.row true true 7 (x.1.map impl_Node.e)))), (5, 0, 2, (some (.box [(.d (.p (.int .i64 x.2.Kind))), (.d (.p (.int .i64 x.2.A))), (.d (.p (.int .i64 x.2.B))), (.d (.p (.int .i64 x.2.C))), (.d (.p (.int .i64 x.2.N))), (.d (.p (.string x.2.Name))), (.d (.p (.string x.2.Other)))])))]) (fun J h => ?_) ?_
  · refine eqM ((a1.kids.length : Int) : Int) (mLen rfl) ?_
    refine loopX (α := Int × List impl_Node × impl_Node) (a := (0, a0, a1.n)) 45 (fun x => [(0, (.own 0 1 2)), (5, (.ptr 5 0 2 0)), (11, (.d (.l false 8 (a1.kids.map impl_tree.e)))), (12, (.d (.p (.int .i64 (a1.kids.length : Int))))), (13, (.d (.p (.int .i64 x.1))))]) (fun x => [(0, 1, 2, (some (.row true true 7 (x.2.1.map impl_Node.e)))), (5, 0, 2, (some (.box [(.d (.p (.int .i64 x.2.2.Kind))), (.d (.p (.int .i64 x.2.2.A))), (.d (.p (.int .i64 x.2.2.B))), (.d (.p (.int .i64 x.2.2.C))), (.d (.p (.int .i64 x.2.2.N))), (.d (.p (.string x.2.2.Name))), (.d (.p (.string x.2.2.Other)))])))]) (fun k x => impl_flat.l0 r_impl_flat a1 K k x.1 x.2.1 x.2.2) 0 (fun x => [(0, (.own 0 1 2)), (5, (.ptr 5 0 2 0))]) (fun x => [(0, 1, 2, (some (.row true true 7 (x.1.map impl_Node.e)))), (5, 0, 2, (some (.box [(.d (.p (.int .i64 x.2.Kind))), (.d (.p (.int .i64 x.2.A))), (.d (.p (.int .i64 x.2.B))), (.d (.p (.int .i64 x.2.C))), (.d (.p (.int .i64 x.2.N))), (.d (.p (.string x.2.Name))), (.d (.p (.string x.2.Other)))])))]) h (fun _ => rfl) ?_ ⟨rfl, ⟨rfl, rfl, rfl, rfl, rfl, trivial⟩, ⟨rfl, rfl, trivial⟩⟩ ?_
    · rintro k ⟨v3, v4, v5⟩ r h e hp
      replace h : impl_flat.l0 r_impl_flat a1 K (k + 1) v3 v4 v5 = some r := h
      unfold impl_flat.l0 at h
      refine goS ?_
      refine iteF h (fun c8 h => ?_) (fun c8 h => ?_)
      · refine seqJ h 45 (fun x => [(0, (.own 0 1 2)), (5, (.ptr 5 0 2 0)), (11, (.d (.l false 8 (a1.kids.map impl_tree.e)))), (12, (.d (.p (.int .i64 (a1.kids.length : Int))))), (13, (.d (.p (.int .i64 v3))))]) (fun x => [(0, 1, 2, (some (.row true true 7 (x.1.map impl_Node.e)))), (5, 0, 2, (some (.box [(.d (.p (.int .i64 x.2.Kind))), (.d (.p (.int .i64 x.2.A))), (.d (.p (.int .i64 x.2.B))), (.d (.p (.int .i64 x.2.C))), (.d (.p (.int .i64 x.2.N))), (.d (.p (.string x.2.Name))), (.d (.p (.string x.2.Other)))])))]) (fun J h => ?_) ?_
        · refine goS ?_
          refine bindG h fun x11 hx11 h => ?_
          refine anM (at_ix rfl hx11) ?_
          refine exM (impl_tree.c x11) ((at_get rfl hx11).trans (congrArg some (impl_tree.e_eq x11))) ?_
          refine bindG h fun y12 hy13 h => ?_
          refine exM ([(.own true 7 (y12.map impl_Node.e))], []) ?_ ?_
          · exact hr_impl_flat hy13
          refine iteF h (fun c14 h => ?_) (fun c14 h => ?_)
          · refine eqM ((y12.length : Int) : Int) (mLen rfl) ?_
            exact ⟨(y12, (⟨v5.Kind, (w64 ((y12.length : Int) - 1)), v5.B, v5.C, v5.N, v5.Name, v5.Other⟩ : impl_Node)), h, ⟨rfl, ⟨rfl, rfl, rfl, rfl, rfl, trivial⟩, ⟨rfl, rfl, trivial⟩⟩⟩
          · refine iteF h (fun c15 h => ?_) (fun c15 h => ?_)
            · refine eqM ((y12.length : Int) : Int) (mLen rfl) ?_
              exact ⟨(y12, (⟨v5.Kind, v5.A, (w64 ((y12.length : Int) - 1)), v5.C, v5.N, v5.Name, v5.Other⟩ : impl_Node)), h, ⟨rfl, ⟨rfl, rfl, rfl, rfl, rfl, trivial⟩, ⟨rfl, rfl, trivial⟩⟩⟩
            · refine iteF h (fun c16 h => ?_) (fun c16 h => ?_)
              · refine eqM ((y12.length : Int) : Int) (mLen rfl) ?_
                exact ⟨(y12, (⟨v5.Kind, v5.A, v5.B, (w64 ((y12.length : Int) - 1)), v5.N, v5.Name, v5.Other⟩ : impl_Node)), h, ⟨rfl, ⟨rfl, rfl, rfl, rfl, rfl, trivial⟩, ⟨rfl, rfl, trivial⟩⟩⟩
              · exact ⟨(y12, v5), h, ⟨rfl, ⟨rfl, rfl, rfl, rfl, rfl, trivial⟩, ⟨rfl, rfl, trivial⟩⟩⟩
        · rintro ⟨v9, v10⟩ h e hp
          exact ⟨((w64 (v3 + 1)), v9, v10), h, ⟨rfl, ⟨rfl, rfl, rfl, rfl, rfl, trivial⟩, ⟨rfl, rfl, trivial⟩⟩⟩
      · refine exQ h ?_
        exact ⟨rfl, ⟨rfl, rfl, trivial⟩, ⟨rfl, rfl, trivial⟩⟩
    · rintro ⟨v6, v7⟩ S' h ⟨qn, ⟨qa0, qa1, _⟩, ⟨qb0, qb1, _⟩⟩
      exact ⟨(v6, v7), h, ⟨qn, ⟨qa0, qa1, trivial⟩, ⟨qb0, qb1, trivial⟩⟩⟩
  · rintro ⟨v1, v2⟩ h e hp
    refine eqM (([v2] : List impl_Node).map impl_Node.e) rfl ?_
    refine gdG h fun hc h => ?_
    refine anM (apB hc) ?_
    refine eqM ((v1 ++ ([v2] : List impl_Node)).map impl_Node.e) (mApp rfl rfl) ?_
    exact retE (enc := impl_flat.enc) h rfl
def impl_flat.r (K : Nat) : Nat → (List impl_Node) → impl_tree → Option (List impl_Node)
  | 0, _, _ => none
  | d + 1, a0, a1 => impl_flat.b (impl_flat.r K d) K a0 a1
theorem impl_flat.r_ev {K : Nat} : ∀ (d : Nat) {a0 : List impl_Node} {a1 : impl_tree} {r : List impl_Node}, impl_flat.r K d a0 a1 = some r → E 82 [(.own true 7 (a0.map impl_Node.e)), (.agg (a1.c.map .d))] = some ([(.own true 7 (r.map impl_Node.e))], []) := by
  intro d
  induction d with
  | zero => intro a0 a1 r h; cases h
  | succ d ih => intro a0 a1 r h; exact impl_flat.b_ev ih h
def impl_flat.f (K : Nat) (a0 : List impl_Node) (a1 : impl_tree) : Option (List impl_Node) := impl_flat.r K K a0 a1
theorem impl_flat.ev {K : Nat} {a0 : List impl_Node} {a1 : impl_tree} {r : List impl_Node} (h : impl_flat.f K a0 a1 = some r) : E 82 [(.own true 7 (a0.map impl_Node.e)), (.agg (a1.c.map .d))] = some ([(.own true 7 (r.map impl_Node.e))], []) := impl_flat.r_ev K h
def impl_Fold.enc (r : List impl_Node) : Res := ([(.own true 7 (r.map impl_Node.e))], [])
def impl_Fold.f  (K : Nat) (a0 : List impl_Node) : Option (List impl_Node) := (impl_NodesOk.f K a0).bind fun y1 => (if (!y1) = true then (some ([] : List impl_Node)) else ((impl_wholeTree.f K a0).bind fun y4 => ((impl_folder_fold.f K (⟨0⟩ : impl_folder) y4).bind fun (y6, y7) => ((impl_flat.f K ([] : List impl_Node) y6).bind fun y9 => (some y9)))))
theorem impl_Fold.ev   {K : Nat} {a0 : List impl_Node} {r : List impl_Node} (h : impl_Fold.f  K a0 = some r) : E 37 [(.d (.l true 7 (a0.map impl_Node.e)))] = some ([(.own true 7 (r.map impl_Node.e))], []) := by
  refine Ev_intro (fn := Tryd.f37) rfl (by kernel_rfl) (c := _) rfl ⟨rfl, by simp⟩ rfl (evP_spec _ ?_)
  unfold impl_Fold.f at h
  refine goS ?_
  refine bindG h fun y1 hy2 h => ?_
  refine exM ([(.d (.p (.bool y1)))], []) ?_ ?_
  · exact impl_NodesOk.ev hy2
  refine ifB h (fun c3 h => ?_) (fun c3 h => ?_)
  · exact retE (enc := impl_Fold.enc) h rfl
  · refine bindG h fun y4 hy5 h => ?_
    refine exM ([(.agg (y4.c.map .d))], []) ?_ ?_
    · exact impl_wholeTree.ev hy5
    refine bindG h ?_
    rintro ⟨y6, y7⟩ hy8 h
    refine exM ([(.agg (y6.c.map .d))], [(.ptr [(.d (.p (.int .i64 y7.n)))])]) ?_ ?_
    · exact impl_folder_fold.ev hy8
    refine bindG h fun y9 hy10 h => ?_
    refine exM ([(.own true 7 (y9.map impl_Node.e))], []) ?_ ?_
    · exact impl_flat.ev hy10
    exact retE (enc := impl_Fold.enc) h rfl
def laws_markText.enc (r : ByteArray) : Res := ([(.d (.p (.string r)))], [])
def laws_markText.l0 (K : Nat) : Nat → Int → ByteArray → Option (ByteArray)
  | 0, _, _ => none
  | k + 1, v3, v4 => if v3 > 0 then (gd ((strOfNums ([(IntKind.u8.wrap (w64 (48 + (Int.tmod v3 10))))] : List Int)).size + v4.size ≤ 9223372036854775807) (laws_markText.l0 K k (w64 (Int.tdiv v3 10)) ((strOfNums ([(IntKind.u8.wrap (w64 (48 + (Int.tmod v3 10))))] : List Int)) ++ v4))) else (some v4)
def laws_markText.f  (K : Nat) (a0 : Int) : Option (ByteArray) := if a0 ≤ 0 then (some (⟨#[109, 48]⟩ : ByteArray)) else (jn (fun (v2 : ByteArray) => gd ((⟨#[109]⟩ : ByteArray).size + v2.size ≤ 9223372036854775807) (some ((⟨#[109]⟩ : ByteArray) ++ v2))) (fun j => (laws_markText.l0 K K a0 (⟨#[]⟩ : ByteArray)).bind fun (v5 : ByteArray) => j v5))
theorem laws_markText.ev   {K : Nat} {a0 : Int} {r : ByteArray} (h : laws_markText.f  K a0 = some r) : E 76 [(.d (.p (.int .i64 a0)))] = some ([(.d (.p (.string r)))], []) := by
  refine Ev_intro (fn := Tryd.f76) rfl (by kernel_rfl) (c := _) rfl ⟨rfl, by simp⟩ rfl (evP_spec _ ?_)
  unfold laws_markText.f at h
  refine goS ?_
  refine iteF h (fun c1 h => ?_) (fun c1 h => ?_)
  · exact retE (enc := laws_markText.enc) h rfl
  · refine seqJ h 20 (fun x => [(3, (.d (.p (.string x))))]) (fun x => []) (fun J h => ?_) ?_
    · refine loopX (α := Int × ByteArray) (a := (a0, (⟨#[]⟩ : ByteArray))) 20 (fun x => [(0, (.d (.p (.int .i64 x.1)))), (3, (.d (.p (.string x.2))))]) (fun x => []) (fun k x => laws_markText.l0 K k x.1 x.2) 0 (fun x => [(3, (.d (.p (.string x))))]) (fun x => []) h (fun _ => rfl) ?_ ⟨rfl, ⟨rfl, rfl, trivial⟩, trivial⟩ ?_
      · rintro k ⟨v3, v4⟩ r h e hp
        replace h : laws_markText.l0 K (k + 1) v3 v4 = some r := h
        unfold laws_markText.l0 at h
        refine goS ?_
        refine iteF h (fun c6 h => ?_) (fun c6 h => ?_)
        · refine anM (by decide) ?_
          refine eqM (([(IntKind.u8.wrap (w64 (48 + (Int.tmod v3 10))))] : List Int).map eY) rfl ?_
          refine exM ([(IntKind.u8.wrap (w64 (48 + (Int.tmod v3 10))))] : List Int) (numsOf_map _) ?_
          refine gdG h fun hc h => ?_
          refine anM hc ?_
          refine anM (by decide) ?_
          exact ⟨((w64 (Int.tdiv v3 10)), ((strOfNums ([(IntKind.u8.wrap (w64 (48 + (Int.tmod v3 10))))] : List Int)) ++ v4)), h, ⟨rfl, ⟨rfl, rfl, trivial⟩, trivial⟩⟩
        · refine exQ h ?_
          exact ⟨rfl, ⟨rfl, trivial⟩, trivial⟩
      · rintro v5 S' h ⟨qn, ⟨qa0, _⟩, ⟨_⟩⟩
        exact ⟨v5, h, ⟨qn, ⟨qa0, trivial⟩, trivial⟩⟩
    · rintro v2 h e hp
      refine gdG h fun hc h => ?_
      refine anM hc ?_
      exact retE (enc := laws_markText.enc) h rfl
def laws_markNodeS.enc (r : Int × List impl_Node) : Res := ([(.d (.p (.int .i64 r.1)))], [(.own true 7 (r.2.map impl_Node.e))])
def laws_markNodeS.l0 (K : Nat) : Nat → Int → Int → (List impl_Node) → Option (Int × List impl_Node)
  | 0, _, _, _ => none
  | k + 1, v3, v4, v5 => if v4 < (v5.length : Int) then ((at_ v5 v4).bind fun x9 => ((at_ (v5.set (v4).toNat (⟨v3, x9.A, x9.B, x9.C, x9.N, x9.Name, x9.Other⟩ : impl_Node)) v4).bind fun x10 => ((at_ ((v5.set (v4).toNat (⟨v3, x9.A, x9.B, x9.C, x9.N, x9.Name, x9.Other⟩ : impl_Node)).set (v4).toNat (⟨x10.Kind, (w64 (v3 + 1)), x10.B, x10.C, x10.N, x10.Name, x10.Other⟩ : impl_Node)) v4).bind fun x11 => ((at_ (((v5.set (v4).toNat (⟨v3, x9.A, x9.B, x9.C, x9.N, x9.Name, x9.Other⟩ : impl_Node)).set (v4).toNat (⟨x10.Kind, (w64 (v3 + 1)), x10.B, x10.C, x10.N, x10.Name, x10.Other⟩ : impl_Node)).set (v4).toNat (⟨x11.Kind, x11.A, (w64 ((w64 (v3 + 1)) + 1)), x11.C, x11.N, x11.Name, x11.Other⟩ : impl_Node)) v4).bind fun x12 => ((at_ ((((v5.set (v4).toNat (⟨v3, x9.A, x9.B, x9.C, x9.N, x9.Name, x9.Other⟩ : impl_Node)).set (v4).toNat (⟨x10.Kind, (w64 (v3 + 1)), x10.B, x10.C, x10.N, x10.Name, x10.Other⟩ : impl_Node)).set (v4).toNat (⟨x11.Kind, x11.A, (w64 ((w64 (v3 + 1)) + 1)), x11.C, x11.N, x11.Name, x11.Other⟩ : impl_Node)).set (v4).toNat (⟨x12.Kind, x12.A, x12.B, (w64 ((w64 ((w64 (v3 + 1)) + 1)) + 1)), x12.N, x12.Name, x12.Other⟩ : impl_Node)) v4).bind fun x13 => ((laws_markText.f K (w64 ((w64 ((w64 ((w64 ((w64 (v3 + 1)) + 1)) + 1)) + 1)) + 1))).bind fun y14 => ((at_ (((((v5.set (v4).toNat (⟨v3, x9.A, x9.B, x9.C, x9.N, x9.Name, x9.Other⟩ : impl_Node)).set (v4).toNat (⟨x10.Kind, (w64 (v3 + 1)), x10.B, x10.C, x10.N, x10.Name, x10.Other⟩ : impl_Node)).set (v4).toNat (⟨x11.Kind, x11.A, (w64 ((w64 (v3 + 1)) + 1)), x11.C, x11.N, x11.Name, x11.Other⟩ : impl_Node)).set (v4).toNat (⟨x12.Kind, x12.A, x12.B, (w64 ((w64 ((w64 (v3 + 1)) + 1)) + 1)), x12.N, x12.Name, x12.Other⟩ : impl_Node)).set (v4).toNat (⟨x13.Kind, x13.A, x13.B, x13.C, (w64 ((w64 ((w64 ((w64 (v3 + 1)) + 1)) + 1)) + 1)), x13.Name, x13.Other⟩ : impl_Node)) v4).bind fun x16 => ((laws_markText.f K (w64 ((w64 ((w64 ((w64 ((w64 ((w64 (v3 + 1)) + 1)) + 1)) + 1)) + 1)) + 1))).bind fun y17 => ((at_ ((((((v5.set (v4).toNat (⟨v3, x9.A, x9.B, x9.C, x9.N, x9.Name, x9.Other⟩ : impl_Node)).set (v4).toNat (⟨x10.Kind, (w64 (v3 + 1)), x10.B, x10.C, x10.N, x10.Name, x10.Other⟩ : impl_Node)).set (v4).toNat (⟨x11.Kind, x11.A, (w64 ((w64 (v3 + 1)) + 1)), x11.C, x11.N, x11.Name, x11.Other⟩ : impl_Node)).set (v4).toNat (⟨x12.Kind, x12.A, x12.B, (w64 ((w64 ((w64 (v3 + 1)) + 1)) + 1)), x12.N, x12.Name, x12.Other⟩ : impl_Node)).set (v4).toNat (⟨x13.Kind, x13.A, x13.B, x13.C, (w64 ((w64 ((w64 ((w64 (v3 + 1)) + 1)) + 1)) + 1)), x13.Name, x13.Other⟩ : impl_Node)).set (v4).toNat (⟨x16.Kind, x16.A, x16.B, x16.C, x16.N, y14, x16.Other⟩ : impl_Node)) v4).bind fun x19 => (laws_markNodeS.l0 K k (w64 ((w64 ((w64 ((w64 ((w64 ((w64 ((w64 (v3 + 1)) + 1)) + 1)) + 1)) + 1)) + 1)) + 1)) (w64 (v4 + 1)) (((((((v5.set (v4).toNat (⟨v3, x9.A, x9.B, x9.C, x9.N, x9.Name, x9.Other⟩ : impl_Node)).set (v4).toNat (⟨x10.Kind, (w64 (v3 + 1)), x10.B, x10.C, x10.N, x10.Name, x10.Other⟩ : impl_Node)).set (v4).toNat (⟨x11.Kind, x11.A, (w64 ((w64 (v3 + 1)) + 1)), x11.C, x11.N, x11.Name, x11.Other⟩ : impl_Node)).set (v4).toNat (⟨x12.Kind, x12.A, x12.B, (w64 ((w64 ((w64 (v3 + 1)) + 1)) + 1)), x12.N, x12.Name, x12.Other⟩ : impl_Node)).set (v4).toNat (⟨x13.Kind, x13.A, x13.B, x13.C, (w64 ((w64 ((w64 ((w64 (v3 + 1)) + 1)) + 1)) + 1)), x13.Name, x13.Other⟩ : impl_Node)).set (v4).toNat (⟨x16.Kind, x16.A, x16.B, x16.C, x16.N, y14, x16.Other⟩ : impl_Node)).set (v4).toNat (⟨x19.Kind, x19.A, x19.B, x19.C, x19.N, x19.Name, y17⟩ : impl_Node)))))))))))) else (some (v3, v5))
def laws_markNodeS.f  (K : Nat) (a0 : List impl_Node) (a1 : Int) : Option (Int × List impl_Node) := jn (fun (v1, v2) => some (v1, v2)) (fun j => (laws_markNodeS.l0 K K a1 0 a0).bind fun (v6, v7) => j (v6, v7))
theorem laws_markNodeS.ev   {K : Nat} {a0 : List impl_Node} {a1 : Int} {r : Int × List impl_Node} (h : laws_markNodeS.f  K a0 a1 = some r) : E 24 [(.lend true 7 (a0.map impl_Node.e)), (.d (.p (.int .i64 a1)))] = some ([(.d (.p (.int .i64 r.1)))], [(.own true 7 (r.2.map impl_Node.e))]) := by
  refine Ev_intro (fn := Tryd.f24) rfl (by kernel_rfl) (c := _) rfl ⟨rfl, by simp⟩ rfl (evP_spec _ ?_)
  unfold laws_markNodeS.f at h
  refine seqJ h 64 (fun x => [(1, (.d (.p (.int .i64 x.1))))]) (fun x => [(64, 0, 1, (some (.row true true 7 (x.2.map impl_Node.e))))]) (fun J h => ?_) ?_
  · refine loopX (α := Int × Int × List impl_Node) (a := (a1, 0, a0)) 64 (fun x => [(0, (.own 64 0 1)), (1, (.d (.p (.int .i64 x.1)))), (5, (.d (.p (.int .i64 x.2.1))))]) (fun x => [(64, 0, 1, (some (.row true true 7 (x.2.2.map impl_Node.e))))]) (fun k x => laws_markNodeS.l0 K k x.1 x.2.1 x.2.2) 0 (fun x => [(1, (.d (.p (.int .i64 x.1))))]) (fun x => [(64, 0, 1, (some (.row true true 7 (x.2.map impl_Node.e))))]) h (fun _ => rfl) ?_ ⟨rfl, ⟨rfl, rfl, rfl, trivial⟩, ⟨rfl, trivial⟩⟩ ?_
    · rintro k ⟨v3, v4, v5⟩ r h e hp
      replace h : laws_markNodeS.l0 K (k + 1) v3 v4 v5 = some r := h
      unfold laws_markNodeS.l0 at h
      refine goS ?_
      refine eqM ((v5.length : Int) : Int) (mLen rfl) ?_
      refine iteF h (fun c8 h => ?_) (fun c8 h => ?_)
      · refine goS ?_
        refine goS ?_
        refine bindG h fun x9 hx9 h => ?_
        refine anM (at_ix rfl hx9) ?_
        refine anM (at_lt rfl hx9) ?_
        refine exM (impl_Node.e x9) (at_get rfl hx9) ?_
        refine eqM ((v5.set (v4).toNat (⟨v3, x9.A, x9.B, x9.C, x9.N, x9.Name, x9.Other⟩ : impl_Node)).map impl_Node.e) (mSet rfl rfl) ?_
        refine goS ?_
        refine bindG h fun x10 hx10 h => ?_
        refine anM (at_ix rfl hx10) ?_
        refine anM (at_lt rfl hx10) ?_
        refine exM (impl_Node.e x10) (at_get rfl hx10) ?_
        refine eqM (((v5.set (v4).toNat (⟨v3, x9.A, x9.B, x9.C, x9.N, x9.Name, x9.Other⟩ : impl_Node)).set (v4).toNat (⟨x10.Kind, (w64 (v3 + 1)), x10.B, x10.C, x10.N, x10.Name, x10.Other⟩ : impl_Node)).map impl_Node.e) (mSet rfl rfl) ?_
        refine goR ?_
        refine bindG h fun x11 hx11 h => ?_
        refine anM (at_ix rfl hx11) ?_
        refine anM (at_lt rfl hx11) ?_
        refine exM (impl_Node.e x11) (at_get rfl hx11) ?_
        refine eqM ((((v5.set (v4).toNat (⟨v3, x9.A, x9.B, x9.C, x9.N, x9.Name, x9.Other⟩ : impl_Node)).set (v4).toNat (⟨x10.Kind, (w64 (v3 + 1)), x10.B, x10.C, x10.N, x10.Name, x10.Other⟩ : impl_Node)).set (v4).toNat (⟨x11.Kind, x11.A, (w64 ((w64 (v3 + 1)) + 1)), x11.C, x11.N, x11.Name, x11.Other⟩ : impl_Node)).map impl_Node.e) (mSet rfl rfl) ?_
        refine Re.mk 64 [(0, (.own 64 0 1)), (1, (.d (.p (.int .i64 (w64 ((w64 (v3 + 1)) + 1)))))), (5, (.d (.p (.int .i64 v4))))] [(64, 0, 1, (some (.row true true 7 ((((v5.set (v4).toNat (⟨v3, x9.A, x9.B, x9.C, x9.N, x9.Name, x9.Other⟩ : impl_Node)).set (v4).toNat (⟨x10.Kind, (w64 (v3 + 1)), x10.B, x10.C, x10.N, x10.Name, x10.Other⟩ : impl_Node)).set (v4).toNat (⟨x11.Kind, x11.A, (w64 ((w64 (v3 + 1)) + 1)), x11.C, x11.N, x11.Name, x11.Other⟩ : impl_Node)).map impl_Node.e))))] (by exact ⟨rfl, ⟨rfl, rfl, rfl, trivial⟩, ⟨rfl, trivial⟩⟩) ?_
        intro e hp
        refine goS ?_
        refine bindG h fun x12 hx12 h => ?_
        refine anM (at_ix rfl hx12) ?_
        refine anM (at_lt rfl hx12) ?_
        refine exM (impl_Node.e x12) (at_get rfl hx12) ?_
        refine eqM (((((v5.set (v4).toNat (⟨v3, x9.A, x9.B, x9.C, x9.N, x9.Name, x9.Other⟩ : impl_Node)).set (v4).toNat (⟨x10.Kind, (w64 (v3 + 1)), x10.B, x10.C, x10.N, x10.Name, x10.Other⟩ : impl_Node)).set (v4).toNat (⟨x11.Kind, x11.A, (w64 ((w64 (v3 + 1)) + 1)), x11.C, x11.N, x11.Name, x11.Other⟩ : impl_Node)).set (v4).toNat (⟨x12.Kind, x12.A, x12.B, (w64 ((w64 ((w64 (v3 + 1)) + 1)) + 1)), x12.N, x12.Name, x12.Other⟩ : impl_Node)).map impl_Node.e) (mSet rfl rfl) ?_
        refine goS ?_
        refine bindG h fun x13 hx13 h => ?_
        refine anM (at_ix rfl hx13) ?_
        refine anM (at_lt rfl hx13) ?_
        refine exM (impl_Node.e x13) (at_get rfl hx13) ?_
        refine eqM ((((((v5.set (v4).toNat (⟨v3, x9.A, x9.B, x9.C, x9.N, x9.Name, x9.Other⟩ : impl_Node)).set (v4).toNat (⟨x10.Kind, (w64 (v3 + 1)), x10.B, x10.C, x10.N, x10.Name, x10.Other⟩ : impl_Node)).set (v4).toNat (⟨x11.Kind, x11.A, (w64 ((w64 (v3 + 1)) + 1)), x11.C, x11.N, x11.Name, x11.Other⟩ : impl_Node)).set (v4).toNat (⟨x12.Kind, x12.A, x12.B, (w64 ((w64 ((w64 (v3 + 1)) + 1)) + 1)), x12.N, x12.Name, x12.Other⟩ : impl_Node)).set (v4).toNat (⟨x13.Kind, x13.A, x13.B, x13.C, (w64 ((w64 ((w64 ((w64 (v3 + 1)) + 1)) + 1)) + 1)), x13.Name, x13.Other⟩ : impl_Node)).map impl_Node.e) (mSet rfl rfl) ?_
        refine goR ?_
        refine bindG h fun y14 hy15 h => ?_
        refine exM ([(.d (.p (.string y14)))], []) ?_ ?_
        · exact laws_markText.ev hy15
        refine bindG h fun x16 hx16 h => ?_
        refine anM (at_ix rfl hx16) ?_
        refine anM (at_lt rfl hx16) ?_
        refine exM (impl_Node.e x16) (at_get rfl hx16) ?_
        refine eqM (((((((v5.set (v4).toNat (⟨v3, x9.A, x9.B, x9.C, x9.N, x9.Name, x9.Other⟩ : impl_Node)).set (v4).toNat (⟨x10.Kind, (w64 (v3 + 1)), x10.B, x10.C, x10.N, x10.Name, x10.Other⟩ : impl_Node)).set (v4).toNat (⟨x11.Kind, x11.A, (w64 ((w64 (v3 + 1)) + 1)), x11.C, x11.N, x11.Name, x11.Other⟩ : impl_Node)).set (v4).toNat (⟨x12.Kind, x12.A, x12.B, (w64 ((w64 ((w64 (v3 + 1)) + 1)) + 1)), x12.N, x12.Name, x12.Other⟩ : impl_Node)).set (v4).toNat (⟨x13.Kind, x13.A, x13.B, x13.C, (w64 ((w64 ((w64 ((w64 (v3 + 1)) + 1)) + 1)) + 1)), x13.Name, x13.Other⟩ : impl_Node)).set (v4).toNat (⟨x16.Kind, x16.A, x16.B, x16.C, x16.N, y14, x16.Other⟩ : impl_Node)).map impl_Node.e) (mSet rfl rfl) ?_
        refine Re.mk 64 [(0, (.own 64 0 1)), (1, (.d (.p (.int .i64 (w64 ((w64 ((w64 ((w64 ((w64 (v3 + 1)) + 1)) + 1)) + 1)) + 1)))))), (5, (.d (.p (.int .i64 v4))))] [(64, 0, 1, (some (.row true true 7 (((((((v5.set (v4).toNat (⟨v3, x9.A, x9.B, x9.C, x9.N, x9.Name, x9.Other⟩ : impl_Node)).set (v4).toNat (⟨x10.Kind, (w64 (v3 + 1)), x10.B, x10.C, x10.N, x10.Name, x10.Other⟩ : impl_Node)).set (v4).toNat (⟨x11.Kind, x11.A, (w64 ((w64 (v3 + 1)) + 1)), x11.C, x11.N, x11.Name, x11.Other⟩ : impl_Node)).set (v4).toNat (⟨x12.Kind, x12.A, x12.B, (w64 ((w64 ((w64 (v3 + 1)) + 1)) + 1)), x12.N, x12.Name, x12.Other⟩ : impl_Node)).set (v4).toNat (⟨x13.Kind, x13.A, x13.B, x13.C, (w64 ((w64 ((w64 ((w64 (v3 + 1)) + 1)) + 1)) + 1)), x13.Name, x13.Other⟩ : impl_Node)).set (v4).toNat (⟨x16.Kind, x16.A, x16.B, x16.C, x16.N, y14, x16.Other⟩ : impl_Node)).map impl_Node.e))))] (by exact ⟨rfl, ⟨rfl, rfl, rfl, trivial⟩, ⟨rfl, trivial⟩⟩) ?_
        intro e hp
        refine goS ?_
        refine bindG h fun y17 hy18 h => ?_
        refine exM ([(.d (.p (.string y17)))], []) ?_ ?_
        · exact laws_markText.ev hy18
        refine bindG h fun x19 hx19 h => ?_
        refine anM (at_ix rfl hx19) ?_
        refine anM (at_lt rfl hx19) ?_
        refine exM (impl_Node.e x19) (at_get rfl hx19) ?_
        refine eqM ((((((((v5.set (v4).toNat (⟨v3, x9.A, x9.B, x9.C, x9.N, x9.Name, x9.Other⟩ : impl_Node)).set (v4).toNat (⟨x10.Kind, (w64 (v3 + 1)), x10.B, x10.C, x10.N, x10.Name, x10.Other⟩ : impl_Node)).set (v4).toNat (⟨x11.Kind, x11.A, (w64 ((w64 (v3 + 1)) + 1)), x11.C, x11.N, x11.Name, x11.Other⟩ : impl_Node)).set (v4).toNat (⟨x12.Kind, x12.A, x12.B, (w64 ((w64 ((w64 (v3 + 1)) + 1)) + 1)), x12.N, x12.Name, x12.Other⟩ : impl_Node)).set (v4).toNat (⟨x13.Kind, x13.A, x13.B, x13.C, (w64 ((w64 ((w64 ((w64 (v3 + 1)) + 1)) + 1)) + 1)), x13.Name, x13.Other⟩ : impl_Node)).set (v4).toNat (⟨x16.Kind, x16.A, x16.B, x16.C, x16.N, y14, x16.Other⟩ : impl_Node)).set (v4).toNat (⟨x19.Kind, x19.A, x19.B, x19.C, x19.N, x19.Name, y17⟩ : impl_Node)).map impl_Node.e) (mSet rfl rfl) ?_
        exact ⟨((w64 ((w64 ((w64 ((w64 ((w64 ((w64 ((w64 (v3 + 1)) + 1)) + 1)) + 1)) + 1)) + 1)) + 1)), (w64 (v4 + 1)), (((((((v5.set (v4).toNat (⟨v3, x9.A, x9.B, x9.C, x9.N, x9.Name, x9.Other⟩ : impl_Node)).set (v4).toNat (⟨x10.Kind, (w64 (v3 + 1)), x10.B, x10.C, x10.N, x10.Name, x10.Other⟩ : impl_Node)).set (v4).toNat (⟨x11.Kind, x11.A, (w64 ((w64 (v3 + 1)) + 1)), x11.C, x11.N, x11.Name, x11.Other⟩ : impl_Node)).set (v4).toNat (⟨x12.Kind, x12.A, x12.B, (w64 ((w64 ((w64 (v3 + 1)) + 1)) + 1)), x12.N, x12.Name, x12.Other⟩ : impl_Node)).set (v4).toNat (⟨x13.Kind, x13.A, x13.B, x13.C, (w64 ((w64 ((w64 ((w64 (v3 + 1)) + 1)) + 1)) + 1)), x13.Name, x13.Other⟩ : impl_Node)).set (v4).toNat (⟨x16.Kind, x16.A, x16.B, x16.C, x16.N, y14, x16.Other⟩ : impl_Node)).set (v4).toNat (⟨x19.Kind, x19.A, x19.B, x19.C, x19.N, x19.Name, y17⟩ : impl_Node))), h, ⟨rfl, ⟨rfl, rfl, rfl, trivial⟩, ⟨rfl, trivial⟩⟩⟩
      · refine exQ h ?_
        exact ⟨rfl, ⟨rfl, trivial⟩, ⟨rfl, trivial⟩⟩
    · rintro ⟨v6, v7⟩ S' h ⟨qn, ⟨qa0, _⟩, ⟨qb0, _⟩⟩
      exact ⟨(v6, v7), h, ⟨qn, ⟨qa0, trivial⟩, ⟨qb0, trivial⟩⟩⟩
  · rintro ⟨v1, v2⟩ h e hp
    exact retE (enc := laws_markNodeS.enc) h rfl
def laws_heldNodeS.enc (r : Int) : Res := ([(.d (.p (.int .i64 r)))], [])
def laws_heldNodeS.en (a0 : List impl_Node) (a1 : Int) (r : Int) (S : St) : Prop := endV tb md 38 Tryd.f38 [(.d (.l true 7 (a0.map impl_Node.e))), (.d (.p (.int .i64 a1)))] .ret S = some (laws_heldNodeS.enc r)
def laws_heldNodeS.l0 (a0 : List impl_Node) (K : Nat) : Nat → Int → Int → Option (Int ⊕ Int)
  | 0, _, _ => none
  | k + 1, v2, v3 => if v3 < (a0.length : Int) then ((at_ a0 v3).bind fun x6 => (if (!(decide (x6.Kind = v2))) = true then (some (.inl (-1))) else (if (!(decide (x6.A = (w64 (v2 + 1))))) = true then (some (.inl (-1))) else (if (!(decide (x6.B = (w64 ((w64 (v2 + 1)) + 1))))) = true then (some (.inl (-1))) else (if (!(decide (x6.C = (w64 ((w64 ((w64 (v2 + 1)) + 1)) + 1))))) = true then (some (.inl (-1))) else (if (!(decide (x6.N = (w64 ((w64 ((w64 ((w64 (v2 + 1)) + 1)) + 1)) + 1))))) = true then (some (.inl (-1))) else ((laws_markText.f K (w64 ((w64 ((w64 ((w64 ((w64 (v2 + 1)) + 1)) + 1)) + 1)) + 1))).bind fun y12 => (if (!(x6.Name.toList == y12.toList)) = true then (some (.inl (-1))) else ((laws_markText.f K (w64 ((w64 ((w64 ((w64 ((w64 ((w64 (v2 + 1)) + 1)) + 1)) + 1)) + 1)) + 1))).bind fun y15 => (if (!(x6.Other.toList == y15.toList)) = true then (some (.inl (-1))) else (laws_heldNodeS.l0 a0 K k (w64 ((w64 ((w64 ((w64 ((w64 ((w64 ((w64 (v2 + 1)) + 1)) + 1)) + 1)) + 1)) + 1)) + 1)) (w64 (v3 + 1))))))))))))) else (some (.inr v2))
def laws_heldNodeS.f  (K : Nat) (a0 : List impl_Node) (a1 : Int) : Option (Int) := jn (fun (v1 : Int) => some v1) (fun j => lb (laws_heldNodeS.l0 a0 K K a1 0) (fun r => some r) (fun (v4 : Int) => j v4))
theorem laws_heldNodeS.ev   {K : Nat} {a0 : List impl_Node} {a1 : Int} {r : Int} (h : laws_heldNodeS.f  K a0 a1 = some r) : E 38 [(.d (.l true 7 (a0.map impl_Node.e))), (.d (.p (.int .i64 a1)))] = some ([(.d (.p (.int .i64 r)))], []) := by
  refine Ev_intro (fn := Tryd.f38) rfl (by kernel_rfl) (c := _) rfl ⟨rfl, by simp⟩ rfl (evP_spec _ ?_)
  unfold laws_heldNodeS.f at h
  refine seqJ h 78 (fun x => [(1, (.d (.p (.int .i64 x))))]) (fun x => []) (fun J h => ?_) ?_
  · refine loopB (α := Int × Int) (a := (a1, 0)) 78 (fun x => [(0, (.d (.l true 7 (a0.map impl_Node.e)))), (1, (.d (.p (.int .i64 x.1)))), (5, (.d (.p (.int .i64 x.2))))]) (fun x => []) (fun k x => laws_heldNodeS.l0 a0 K k x.1 x.2) (laws_heldNodeS.en a0 a1) 0 (fun x => [(1, (.d (.p (.int .i64 x))))]) (fun x => []) h (fun _ => rfl) ?_ ⟨rfl, ⟨rfl, rfl, rfl, trivial⟩, trivial⟩ ?_ ?_
    · rintro k ⟨v2, v3⟩ r h e hp
      replace h : laws_heldNodeS.l0 a0 K (k + 1) v2 v3 = some r := h
      unfold laws_heldNodeS.l0 at h
      refine goS ?_
      refine eqM ((a0.length : Int) : Int) (mLen rfl) ?_
      refine iteF h (fun c5 h => ?_) (fun c5 h => ?_)
      · refine goS ?_
        refine goS ?_
        refine bindG h fun x6 hx6 h => ?_
        refine anM (at_ix rfl hx6) ?_
        refine exM (impl_Node.e x6) (at_get rfl hx6) ?_
        refine ifB h (fun c7 h => ?_) (fun c7 h => ?_)
        · exact lqL h rfl
        · refine goS ?_
          refine anM (at_ix rfl hx6) ?_
          refine exM (impl_Node.e x6) (at_get rfl hx6) ?_
          refine ifB h (fun c8 h => ?_) (fun c8 h => ?_)
          · exact lqL h rfl
          · refine goS ?_
            refine anM (at_ix rfl hx6) ?_
            refine exM (impl_Node.e x6) (at_get rfl hx6) ?_
            refine ifB h (fun c9 h => ?_) (fun c9 h => ?_)
            · exact lqL h rfl
            · refine goS ?_
              refine anM (at_ix rfl hx6) ?_
              refine exM (impl_Node.e x6) (at_get rfl hx6) ?_
              refine ifB h (fun c10 h => ?_) (fun c10 h => ?_)
              · exact lqL h rfl
              · refine goS ?_
                refine anM (at_ix rfl hx6) ?_
                refine exM (impl_Node.e x6) (at_get rfl hx6) ?_
                refine ifB h (fun c11 h => ?_) (fun c11 h => ?_)
                · exact lqL h rfl
                · refine goS ?_
                  refine ⟨[[63], [], [63], [63], [63], [], [57, 59, 60, 61], []], by kernel_rfl, ?_⟩
                  refine anM (at_ix rfl hx6) ?_
                  refine exM (impl_Node.e x6) (at_get rfl hx6) ?_
                  refine bindG h fun y12 hy13 h => ?_
                  refine exM ([(.d (.p (.string y12)))], []) ?_ ?_
                  · exact laws_markText.ev hy13
                  refine ifB h (fun c14 h => ?_) (fun c14 h => ?_)
                  · exact lqL h rfl
                  · refine goS ?_
                    refine ⟨[[73], [], [73], [73], [73], [], [67, 69, 70, 71], []], by kernel_rfl, ?_⟩
                    refine anM (at_ix rfl hx6) ?_
                    refine exM (impl_Node.e x6) (at_get rfl hx6) ?_
                    refine bindG h fun y15 hy16 h => ?_
                    refine exM ([(.d (.p (.string y15)))], []) ?_ ?_
                    · exact laws_markText.ev hy16
                    refine ifB h (fun c17 h => ?_) (fun c17 h => ?_)
                    · exact lqL h rfl
                    · exact ⟨((w64 ((w64 ((w64 ((w64 ((w64 ((w64 ((w64 (v2 + 1)) + 1)) + 1)) + 1)) + 1)) + 1)) + 1)), (w64 (v3 + 1))), h, ⟨rfl, ⟨rfl, rfl, rfl, trivial⟩, trivial⟩⟩
      · refine lqR h ?_
        exact ⟨rfl, ⟨rfl, trivial⟩, trivial⟩
    · intro r' S' h q
      exact retE (enc := laws_heldNodeS.enc) h q
    · rintro v4 S' h ⟨qn, ⟨qa0, _⟩, ⟨_⟩⟩
      exact ⟨v4, h, ⟨qn, ⟨qa0, trivial⟩, trivial⟩⟩
  · rintro v1 h e hp
    exact retE (enc := laws_heldNodeS.enc) h rfl
def laws_FnExactFold.enc (r : Bool) : Res := ([(.d (.p (.bool r)))], [])
def laws_FnExactFold.f  (K : Nat) (a0 : List laws_Node) : Option (Bool) := (laws_szNodeS.f K a0 1048576).bind fun y1 => (if y1 < 0 then (some true) else ((laws_toNodeS.f K a0).bind fun y4 => ((spec_Fold.f K y4).bind fun y6 => ((laws_toNodeS.f K a0).bind fun y8 => ((impl_Fold.f K y8).bind fun y10 => ((laws_eqNodeS.f K y10 y6).bind fun y12 => (if (!y12) = true then (some false) else ((laws_toNodeS.f K a0).bind fun y15 => ((laws_eqNodeS.f K y8 y15).bind fun y17 => (if (!y17) = true then (some false) else ((laws_markNodeS.f K y8 1).bind fun (y20, y21) => (gd (y21.length = y8.length) (jn (fun (v23 : Bool) => if v23 = true then (some false) else ((laws_markNodeS.f K y10 1).bind fun (y28, y29) => (gd (y29.length = y10.length) ((laws_heldNodeS.f K y29 1).bind fun y31 => (if y31 < 0 then (some false) else (if (!(decide (y31 = y28))) = true then (some false) else ((laws_toNodeS.f K a0).bind fun y35 => ((impl_Fold.f K y35).bind fun y37 => ((laws_eqNodeS.f K y37 y6).bind fun y39 => (if (!y39) = true then (some false) else ((laws_heldNodeS.f K y29 1).bind fun y42 => (if y42 < 0 then (some false) else (if (!(decide (y42 = y28))) = true then (some false) else (some true)))))))))))))) (fun j => if y20 < 0 then (j true) else ((laws_eqNodeS.f K y10 y6).bind fun y25 => (j (!y25)))))))))))))))))
theorem laws_FnExactFold.ev   {K : Nat} {a0 : List laws_Node} {r : Bool} (h : laws_FnExactFold.f  K a0 = some r) : E 9 [(.d (.l true 7 (a0.map laws_Node.e)))] = some ([(.d (.p (.bool r)))], []) := by
  refine Ev_intro (fn := Tryd.f9) rfl (by kernel_rfl) (c := _) rfl ⟨rfl, by simp⟩ rfl (evP_spec _ ?_)
  unfold laws_FnExactFold.f at h
  refine bindG h fun y1 hy2 h => ?_
  refine exM ([(.d (.p (.int .i64 y1)))], []) ?_ ?_
  · exact laws_szNodeS.ev hy2
  refine goS ?_
  refine iteF h (fun c3 h => ?_) (fun c3 h => ?_)
  · exact retE (enc := laws_FnExactFold.enc) h rfl
  · refine bindG h fun y4 hy5 h => ?_
    refine exM ([(.own true 7 (y4.map impl_Node.e))], []) ?_ ?_
    · exact laws_toNodeS.ev hy5
    refine bindG h fun y6 hy7 h => ?_
    refine exM ([(.d (.l true 7 (y6.map impl_Node.e)))], []) ?_ ?_
    · exact spec_Fold.ev hy7
    refine bindG h fun y8 hy9 h => ?_
    refine exM ([(.own true 7 (y8.map impl_Node.e))], []) ?_ ?_
    · exact laws_toNodeS.ev hy9
    refine bindG h fun y10 hy11 h => ?_
    refine exM ([(.own true 7 (y10.map impl_Node.e))], []) ?_ ?_
    · exact impl_Fold.ev hy11
    refine goS ?_
    refine bindG h fun y12 hy13 h => ?_
    refine exM ([(.d (.p (.bool y12)))], []) ?_ ?_
    · exact laws_eqNodeS.ev hy13
    refine ifB h (fun c14 h => ?_) (fun c14 h => ?_)
    · exact retE (enc := laws_FnExactFold.enc) h rfl
    · refine goS ?_
      refine bindG h fun y15 hy16 h => ?_
      refine exM ([(.own true 7 (y15.map impl_Node.e))], []) ?_ ?_
      · exact laws_toNodeS.ev hy16
      refine bindG h fun y17 hy18 h => ?_
      refine exM ([(.d (.p (.bool y17)))], []) ?_ ?_
      · exact laws_eqNodeS.ev hy18
      refine ifB h (fun c19 h => ?_) (fun c19 h => ?_)
      · exact retE (enc := laws_FnExactFold.enc) h rfl
      · refine bindG h ?_
        rintro ⟨y20, y21⟩ hy22 h
        refine exM ([(.d (.p (.int .i64 y20)))], [(.own true 7 (y21.map impl_Node.e))]) ?_ ?_
        · exact laws_markNodeS.ev hy22
        refine gdG h fun g h => ?_
        refine anM (lenM g) ?_
        refine goS ?_
        refine seqJ h 69 (fun x => [(0, (.d (.l true 7 (a0.map laws_Node.e)))), (4, (.d (.l true 7 (y6.map impl_Node.e)))), (6, (.own 6 1 2)), (42, (.d (.p (.bool x))))]) (fun x => [(6, 1, 2, (some (.row true true 7 (y10.map impl_Node.e))))]) (fun J h => ?_) ?_
        · refine iteF h (fun c24 h => ?_) (fun c24 h => ?_)
          · refine Ask.T rfl ?_
            refine Ask.T rfl ?_
            refine Ask.T rfl ?_
            refine Ask.T rfl ?_
            exact ⟨true, h, ⟨rfl, ⟨rfl, rfl, rfl, rfl, trivial⟩, ⟨rfl, trivial⟩⟩⟩
          · refine Ask.F rfl ?_
            refine Ask.F rfl ?_
            refine bindG h fun y25 hy26 h => ?_
            refine exM ([(.d (.p (.bool y25)))], []) ?_ ?_
            · exact laws_eqNodeS.ev hy26
            refine Ask.F rfl ?_
            refine Ask.F rfl ?_
            exact ⟨(!y25), h, ⟨rfl, ⟨rfl, rfl, rfl, rfl, trivial⟩, ⟨rfl, trivial⟩⟩⟩
        · rintro v23 h e hp
          refine ifB h (fun c27 h => ?_) (fun c27 h => ?_)
          · exact retE (enc := laws_FnExactFold.enc) h rfl
          · refine bindG h ?_
            rintro ⟨y28, y29⟩ hy30 h
            refine exM ([(.d (.p (.int .i64 y28)))], [(.own true 7 (y29.map impl_Node.e))]) ?_ ?_
            · exact laws_markNodeS.ev hy30
            refine gdG h fun g h => ?_
            refine anM (lenM g) ?_
            refine bindG h fun y31 hy32 h => ?_
            refine exM ([(.d (.p (.int .i64 y31)))], []) ?_ ?_
            · exact laws_heldNodeS.ev hy32
            refine goS ?_
            refine iteF h (fun c33 h => ?_) (fun c33 h => ?_)
            · exact retE (enc := laws_FnExactFold.enc) h rfl
            · refine goS ?_
              refine ifB h (fun c34 h => ?_) (fun c34 h => ?_)
              · exact retE (enc := laws_FnExactFold.enc) h rfl
              · refine bindG h fun y35 hy36 h => ?_
                refine exM ([(.own true 7 (y35.map impl_Node.e))], []) ?_ ?_
                · exact laws_toNodeS.ev hy36
                refine bindG h fun y37 hy38 h => ?_
                refine exM ([(.own true 7 (y37.map impl_Node.e))], []) ?_ ?_
                · exact impl_Fold.ev hy38
                refine goS ?_
                refine bindG h fun y39 hy40 h => ?_
                refine exM ([(.d (.p (.bool y39)))], []) ?_ ?_
                · exact laws_eqNodeS.ev hy40
                refine ifB h (fun c41 h => ?_) (fun c41 h => ?_)
                · exact retE (enc := laws_FnExactFold.enc) h rfl
                · refine bindG h fun y42 hy43 h => ?_
                  refine exM ([(.d (.p (.int .i64 y42)))], []) ?_ ?_
                  · exact laws_heldNodeS.ev hy43
                  refine goS ?_
                  refine iteF h (fun c44 h => ?_) (fun c44 h => ?_)
                  · exact retE (enc := laws_FnExactFold.enc) h rfl
                  · refine goS ?_
                    refine ifB h (fun c45 h => ?_) (fun c45 h => ?_)
                    · exact retE (enc := laws_FnExactFold.enc) h rfl
                    · exact retE (enc := laws_FnExactFold.enc) h rfl
end Go.Proofs.YtfmlamheflbgdaaDoorE
