/- For Go functions of the program: their Lean functions, and that Go answers as these do. Written by a program of the session (evprint.py). -/
import Derived.Test.YtfkanjgfjejgiaaGreatDoorZEvPr
import Derived.Test.YtfkanjgfjejgiaaGreatDoorEvG
set_option linter.unusedSimpArgs false
set_option linter.unusedVariables false
namespace Go.Proofs.YtfkanjgfjejgiaaGreatDoorE
open Go.Ev
set_option linter.unusedVariables false
set_option maxRecDepth 100000
set_option maxHeartbeats 4000000
def md : Md := fun f => match f with
  | 12 => ([], [true, false])
  | 13 => ([], [true])
  | 14 => ([], [true, false])
  | 16 => ([2], [false])
  | 25 => ([], [true, false])
  | 26 => ([], [true])
  | 29 => ([1], [true])
  | 32 => ([], [true])
  | 40 => ([], [true, false])
  | 44 => ([], [true])
  | 52 => ([], [true])
  | 57 => ([], [true])
  | 58 => ([], [true])
  | 60 => ([], [true])
  | 62 => ([1], [true])
  | 63 => ([], [true])
  | 71 => ([], [true])
  | 72 => ([], [true])
  | 73 => ([], [true])
  | 74 => ([], [true])
  | 77 => ([2], [])
  | 89 => ([], [true])
  | 95 => ([], [true])
  | 97 => ([2], [true])
  | 107 => ([], [true, true])
  | 109 => ([], [true, true])
  | 110 => ([2], [])
  | 123 => ([], [true])
  | 1000005 => ([680000000051], [])
  | 1000003 => ([620000350005], [])
  | _ => ([], [])
noncomputable abbrev E := Go.Ev.Ev Tryz.prog tb md prim
theorem strings_Split.ev {a b : ByteArray} {r : List ByteArray} (h : strings_Split.f a b = some r) : E 86 [(.d (.p (.string a))), (.d (.p (.string b)))] = some ([(.own true 1 (r.map eS))], []) := Ev_prim rfl (by show (strings_Split.f a b).map _ = _; rw [h]; rfl)
theorem sort_Strings.ev {a r : List ByteArray} (h : sort_Strings.f a = some r) : E 110 [(.lend true 1 (a.map eS))] = some ([], [(.own true 1 (r.map eS))]) := Ev_prim rfl (by show (strsOf (a.map eS)).bind _ = _; rw [strsOf_map, Option.bind_some, h]; rfl)
structure laws_Node where
  Kind : Int
  A : Int
  B : Int
  C : Int
  N : Int
  Name : ByteArray
  Other : ByteArray
def laws_Node.e (x : laws_Node) : List D := [(.p (.int .i64 x.Kind)), (.p (.int .i64 x.A)), (.p (.int .i64 x.B)), (.p (.int .i64 x.C)), (.p (.int .i64 x.N)), (.p (.string x.Name)), (.p (.string x.Other))]
structure impl_Node where
  Kind : Int
  A : Int
  B : Int
  C : Int
  N : Int
  Name : ByteArray
  Other : ByteArray
def impl_Node.e (x : impl_Node) : List D := [(.p (.int .i64 x.Kind)), (.p (.int .i64 x.A)), (.p (.int .i64 x.B)), (.p (.int .i64 x.C)), (.p (.int .i64 x.N)), (.p (.string x.Name)), (.p (.string x.Other))]
structure impl_namer where
  used : List ByteArray
  k_ : Int
def impl_namer.e (x : impl_namer) : List D := [(.l true 1 (x.used.map eS)), (.p (.int .i64 x.k_))]
structure impl_tree where
  n : impl_Node
  kids : List impl_tree
def impl_tree.e (x : impl_tree) : List D := [(.p (.int .i64 x.n.Kind)), (.p (.int .i64 x.n.A)), (.p (.int .i64 x.n.B)), (.p (.int .i64 x.n.C)), (.p (.int .i64 x.n.N)), (.p (.string x.n.Name)), (.p (.string x.n.Other)), (.l false 8 (x.kids.attach.map fun y => impl_tree.e y.1))]
termination_by x
decreasing_by
  have := List.sizeOf_lt_of_mem y.2
  cases x; simp_all; omega
def impl_tree.c (x : impl_tree) : List D := [(.p (.int .i64 x.n.Kind)), (.p (.int .i64 x.n.A)), (.p (.int .i64 x.n.B)), (.p (.int .i64 x.n.C)), (.p (.int .i64 x.n.N)), (.p (.string x.n.Name)), (.p (.string x.n.Other)), (.l false 8 (x.kids.map impl_tree.e))]
theorem impl_tree.e_eq (x : impl_tree) : x.e = x.c := by rw [impl_tree.e, impl_tree.c]; simp
structure impl_Bind where
  Node : Int
  Role : Int
def impl_Bind.e (x : impl_Bind) : List D := [(.p (.int .i64 x.Node)), (.p (.int .i64 x.Role))]
theorem eqT106 : flatEq Tryz.prog 106 = some [0, 0] := by kernel_rfl
def laws_szNode.enc (r : Int) : Res := ([(.d (.p (.int .i64 r)))], [])
def laws_szNode.f  (K : Nat) (a0 : laws_Node) (a1 : Int) : Option (Int) := if (w64 (a1 - (a0.Name.size : Int))) < 0 then (some (-1)) else (if (w64 ((w64 (a1 - (a0.Name.size : Int))) - (a0.Other.size : Int))) < 0 then (some (-1)) else (some (w64 ((w64 (a1 - (a0.Name.size : Int))) - (a0.Other.size : Int)))))
theorem laws_szNode.ev   {K : Nat} {a0 : laws_Node} {a1 : Int} {r : Int} (h : laws_szNode.f  K a0 a1 = some r) : E 24 [(.agg (a0.e.map .d)), (.d (.p (.int .i64 a1)))] = some ([(.d (.p (.int .i64 r)))], []) := by
  refine Ev_intro (fn := Tryz.f24) rfl (by kernel_rfl) (c := _) rfl ⟨rfl, by simp⟩ rfl (evP_spec _ ?_)
  unfold laws_szNode.f at h
  refine goS ?_
  try ((with_reducible apply cdX); exact rfl)
  refine iteF h (fun c1 h => ?_) (fun c1 h => ?_)
  · exact retE (enc := laws_szNode.enc) h rfl
  · refine goS ?_
    try ((with_reducible apply cdX); exact rfl)
    refine iteF h (fun c2 h => ?_) (fun c2 h => ?_)
    · exact retE (enc := laws_szNode.enc) h rfl
    · exact retE (enc := laws_szNode.enc) h rfl
def laws_szNodeS.enc (r : Int) : Res := ([(.d (.p (.int .i64 r)))], [])
def laws_szNodeS.en (a0 : List laws_Node) (a1 : Int) (r : Int) (S : St) : Prop := endV tb md 11 Tryz.f11 [(.d (.l true 7 (a0.map laws_Node.e))), (.d (.p (.int .i64 a1)))] .ret S = some (laws_szNodeS.enc r)
def laws_szNodeS.l0 (a0 : List laws_Node) (K : Nat) : Nat → Int → Int → Option (Int ⊕ Int)
  | 0, _, _ => none
  | k + 1, v3, v4 => if v4 < (a0.length : Int) then ((at_ a0 v4).bind fun x7 => ((laws_szNode.f K x7 v3).bind fun y8 => (if y8 < 0 then (some (.inl (-1))) else (laws_szNodeS.l0 a0 K k y8 (w64 (v4 + 1)))))) else (some (.inr v3))
def laws_szNodeS.f  (K : Nat) (a0 : List laws_Node) (a1 : Int) : Option (Int) := if (w64 (a1 - (a0.length : Int))) < 0 then (some (-1)) else (jn (fun (v2 : Int) => some v2) (fun j => lb (laws_szNodeS.l0 a0 K K (w64 (a1 - (a0.length : Int))) 0) (fun r => some r) (fun (v5 : Int) => j v5)))
theorem laws_szNodeS.ev   {K : Nat} {a0 : List laws_Node} {a1 : Int} {r : Int} (h : laws_szNodeS.f  K a0 a1 = some r) : E 11 [(.d (.l true 7 (a0.map laws_Node.e))), (.d (.p (.int .i64 a1)))] = some ([(.d (.p (.int .i64 r)))], []) := by
  refine Ev_intro (fn := Tryz.f11) rfl (by kernel_rfl) (c := _) rfl ⟨rfl, by simp⟩ rfl (evP_spec _ ?_)
  unfold laws_szNodeS.f at h
  refine eqM ((a0.length : Int) : Int) (mLen rfl) ?_
  refine goS ?_
  try ((with_reducible apply cdX); exact rfl)
  refine iteF h (fun c1 h => ?_) (fun c1 h => ?_)
  · exact retE (enc := laws_szNodeS.enc) h rfl
  · refine seqJ h 27 (fun x => [(1, (.d (.p (.int .i64 x))))]) (fun x => []) (fun J h => ?_) ?_
    · refine loopB (α := Int × Int) (a := ((w64 (a1 - (a0.length : Int))), 0)) 27 (fun x => [(0, (.d (.l true 7 (a0.map laws_Node.e)))), (1, (.d (.p (.int .i64 x.1)))), (5, (.d (.p (.int .i64 x.2))))]) (fun x => []) (fun k x => laws_szNodeS.l0 a0 K k x.1 x.2) (laws_szNodeS.en a0 a1) 0 (fun x => [(1, (.d (.p (.int .i64 x))))]) (fun x => []) h (fun _ => rfl) ?_ ⟨rfl, ⟨rfl, rfl, rfl, trivial⟩, trivial⟩ ?_ ?_
      · rintro k ⟨v3, v4⟩ r h e hp
        replace h : laws_szNodeS.l0 a0 K (k + 1) v3 v4 = some r := h
        unfold laws_szNodeS.l0 at h
        refine goS ?_
        refine eqM ((a0.length : Int) : Int) (mLen rfl) ?_
        refine iteF h (fun c6 h => ?_) (fun c6 h => ?_)
        · refine goS ?_
          refine bindG h fun x7 hx7 h => ?_
          refine anM (at_ix rfl hx7) ?_
          refine exM (laws_Node.e x7) (at_get rfl hx7) ?_
          refine bindG h fun y8 hy9 h => ?_
          refine exM ([(.d (.p (.int .i64 y8)))], []) ?_ ?_
          · exact laws_szNode.ev hy9
          refine iteF h (fun c10 h => ?_) (fun c10 h => ?_)
          · exact lqL h rfl
          · exact ⟨(y8, (w64 (v4 + 1))), h, ⟨rfl, ⟨rfl, rfl, rfl, trivial⟩, trivial⟩⟩
        · refine lqR h ?_
          exact ⟨rfl, ⟨rfl, trivial⟩, trivial⟩
      · intro r' S' h q
        exact retE (enc := laws_szNodeS.enc) h q
      · rintro v5 S' h ⟨qn, ⟨qa0, _⟩, ⟨_⟩⟩
        exact ⟨v5, h, ⟨qn, ⟨qa0, trivial⟩, trivial⟩⟩
    · rintro v2 h e hp
      exact retE (enc := laws_szNodeS.enc) h rfl
def laws_toNode.enc (r : impl_Node) : Res := ([(.agg (r.e.map .d))], [])
def laws_toNode.f  (K : Nat) (a0 : laws_Node) : Option (impl_Node) := some (⟨a0.Kind, a0.A, a0.B, a0.C, a0.N, a0.Name, a0.Other⟩ : impl_Node)
theorem laws_toNode.ev   {K : Nat} {a0 : laws_Node} {r : impl_Node} (h : laws_toNode.f  K a0 = some r) : E 27 [(.agg (a0.e.map .d))] = some ([(.agg (r.e.map .d))], []) := by
  refine Ev_intro (fn := Tryz.f27) rfl (by kernel_rfl) (c := _) rfl ⟨rfl, by simp⟩ rfl (evP_spec _ ?_)
  unfold laws_toNode.f at h
  refine goS ?_
  refine goS ?_
  refine goR ?_
  refine Re.mk 26 [(1, (.ptr 1 0 2 0)), (2, (.ptr 2 0 2 0)), (3, (.ptr 3 0 2 0))] [(1, 0, 2, (some (.box [(.d (.p (.int .i64 a0.Kind))), (.d (.p (.int .i64 a0.A))), (.d (.p (.int .i64 a0.B))), (.d (.p (.int .i64 a0.C))), (.d (.p (.int .i64 a0.N))), (.d (.p (.string a0.Name))), (.d (.p (.string a0.Other)))]))), (2, 0, 2, (some (.box [(.d (.p (.int .i64 0))), (.d (.p (.int .i64 0))), (.d (.p (.int .i64 0))), (.d (.p (.int .i64 0))), (.d (.p (.int .i64 0))), (.d (.p (.string (⟨#[]⟩ : ByteArray)))), (.d (.p (.string (⟨#[]⟩ : ByteArray))))]))), (3, 0, 2, (some (.box [(.d (.p (.int .i64 a0.Kind))), (.d (.p (.int .i64 a0.A))), (.d (.p (.int .i64 a0.B))), (.d (.p (.int .i64 0))), (.d (.p (.int .i64 0))), (.d (.p (.string (⟨#[]⟩ : ByteArray)))), (.d (.p (.string (⟨#[]⟩ : ByteArray))))])))] (by exact ⟨rfl, ⟨rfl, rfl, rfl, trivial⟩, ⟨rfl, rfl, rfl, trivial⟩⟩) ?_
  intro e hp
  refine goS ?_
  refine goS ?_
  refine goR ?_
  refine Re.mk 26 [(1, (.ptr 1 0 2 0)), (2, (.ptr 2 0 2 0)), (3, (.ptr 3 0 2 0))] [(1, 0, 2, (some (.box [(.d (.p (.int .i64 a0.Kind))), (.d (.p (.int .i64 a0.A))), (.d (.p (.int .i64 a0.B))), (.d (.p (.int .i64 a0.C))), (.d (.p (.int .i64 a0.N))), (.d (.p (.string a0.Name))), (.d (.p (.string a0.Other)))]))), (2, 0, 2, (some (.box [(.d (.p (.int .i64 0))), (.d (.p (.int .i64 0))), (.d (.p (.int .i64 0))), (.d (.p (.int .i64 0))), (.d (.p (.int .i64 0))), (.d (.p (.string (⟨#[]⟩ : ByteArray)))), (.d (.p (.string (⟨#[]⟩ : ByteArray))))]))), (3, 0, 2, (some (.box [(.d (.p (.int .i64 a0.Kind))), (.d (.p (.int .i64 a0.A))), (.d (.p (.int .i64 a0.B))), (.d (.p (.int .i64 a0.C))), (.d (.p (.int .i64 a0.N))), (.d (.p (.string a0.Name))), (.d (.p (.string (⟨#[]⟩ : ByteArray))))])))] (by exact ⟨rfl, ⟨rfl, rfl, rfl, trivial⟩, ⟨rfl, rfl, rfl, trivial⟩⟩) ?_
  intro e hp
  refine goS ?_
  refine goS ?_
  exact retE (enc := laws_toNode.enc) h rfl
def laws_toNodeS.enc (r : List impl_Node) : Res := ([(.own true 7 (r.map impl_Node.e))], [])
def laws_toNodeS.l0 (a0 : List laws_Node) (K : Nat) : Nat → Int → (List impl_Node) → Option (List impl_Node)
  | 0, _, _ => none
  | k + 1, v2, v3 => if v2 < (a0.length : Int) then ((at_ a0 v2).bind fun x6 => ((laws_toNode.f K x6).bind fun y7 => ((at_ v3 v2).bind fun x9 => (laws_toNodeS.l0 a0 K k (w64 (v2 + 1)) (v3.set (v2).toNat y7))))) else (some v3)
def laws_toNodeS.f  (K : Nat) (a0 : List laws_Node) : Option (List impl_Node) := gd (0 ≤ (a0.length : Int) ∧ 72 * (a0.length : Int) ≤ 140737488355328 ∧ (a0.length : Int) ≤ 140737488355328) (jn (fun (v1 : List impl_Node) => some v1) (fun j => (laws_toNodeS.l0 a0 K K 0 (List.replicate ((a0.length : Int)).toNat (⟨0, 0, 0, 0, 0, (⟨#[]⟩ : ByteArray), (⟨#[]⟩ : ByteArray)⟩ : impl_Node))).bind fun (v4 : List impl_Node) => j v4))
theorem laws_toNodeS.ev   {K : Nat} {a0 : List laws_Node} {r : List impl_Node} (h : laws_toNodeS.f  K a0 = some r) : E 13 [(.d (.l true 7 (a0.map laws_Node.e)))] = some ([(.own true 7 (r.map impl_Node.e))], []) := by
  refine Ev_intro (fn := Tryz.f13) rfl (by kernel_rfl) (c := _) rfl ⟨rfl, by simp⟩ rfl (evP_spec _ ?_)
  unfold laws_toNodeS.f at h
  refine eqM ((a0.length : Int) : Int) (mLen rfl) ?_
  refine gdG h fun hc h => ?_
  refine anM ⟨rfl, hc⟩ ?_
  refine eqM ((List.replicate ((a0.length : Int)).toNat (⟨0, 0, 0, 0, 0, (⟨#[]⟩ : ByteArray), (⟨#[]⟩ : ByteArray)⟩ : impl_Node)).map impl_Node.e) (mRep rfl) ?_
  refine seqJ h 23 (fun x => [(3, (.own 3 1 2))]) (fun x => [(3, 1, 2, (some (.row true true 7 (x.map impl_Node.e))))]) (fun J h => ?_) ?_
  · refine loopX (α := Int × List impl_Node) (a := (0, (List.replicate ((a0.length : Int)).toNat (⟨0, 0, 0, 0, 0, (⟨#[]⟩ : ByteArray), (⟨#[]⟩ : ByteArray)⟩ : impl_Node)))) 23 (fun x => [(0, (.d (.l true 7 (a0.map laws_Node.e)))), (3, (.own 3 1 2)), (4, (.d (.p (.int .i64 x.1))))]) (fun x => [(3, 1, 2, (some (.row true true 7 (x.2.map impl_Node.e))))]) (fun k x => laws_toNodeS.l0 a0 K k x.1 x.2) 0 (fun x => [(3, (.own 3 1 2))]) (fun x => [(3, 1, 2, (some (.row true true 7 (x.map impl_Node.e))))]) h (fun _ => rfl) ?_ ⟨rfl, ⟨rfl, rfl, rfl, trivial⟩, ⟨rfl, trivial⟩⟩ ?_
    · rintro k ⟨v2, v3⟩ r h e hp
      replace h : laws_toNodeS.l0 a0 K (k + 1) v2 v3 = some r := h
      unfold laws_toNodeS.l0 at h
      refine goS ?_
      refine eqM ((a0.length : Int) : Int) (mLen rfl) ?_
      refine iteF h (fun c5 h => ?_) (fun c5 h => ?_)
      · refine goS ?_
        refine bindG h fun x6 hx6 h => ?_
        refine anM (at_ix rfl hx6) ?_
        refine exM (laws_Node.e x6) (at_get rfl hx6) ?_
        refine bindG h fun y7 hy8 h => ?_
        refine exM ([(.agg (y7.e.map .d))], []) ?_ ?_
        · exact laws_toNode.ev hy8
        refine bindG h fun x9 hx9 h => ?_
        refine anM (at_ix rfl hx9) ?_
        refine exM (impl_Node.e x9) (at_get rfl hx9) ?_
        refine eqM ((v3.set (v2).toNat y7).map impl_Node.e) (mSet rfl rfl) ?_
        exact ⟨((w64 (v2 + 1)), (v3.set (v2).toNat y7)), h, ⟨rfl, ⟨rfl, rfl, rfl, trivial⟩, ⟨rfl, trivial⟩⟩⟩
      · refine exQ h ?_
        exact ⟨rfl, ⟨rfl, trivial⟩, ⟨rfl, trivial⟩⟩
    · rintro v4 S' h ⟨qn, ⟨qa0, _⟩, ⟨qb0, _⟩⟩
      exact ⟨v4, h, ⟨qn, ⟨qa0, trivial⟩, ⟨qb0, trivial⟩⟩⟩
  · rintro v1 h e hp
    exact retE (enc := laws_toNodeS.enc) h rfl
def spec_l1In.enc (r : Bool) : Res := ([(.d (.p (.bool r)))], [])
def spec_l1In.f  (K : Nat) (a0 : Int) (a1 : Int) (a2 : Int) : Option (Bool) := if a0 ≥ a1 then (some (decide (a0 ≤ a2))) else (some false)
theorem spec_l1In.ev   {K : Nat} {a0 : Int} {a1 : Int} {a2 : Int} {r : Bool} (h : spec_l1In.f  K a0 a1 a2 = some r) : E 39 [(.d (.p (.int .i64 a0))), (.d (.p (.int .i64 a1))), (.d (.p (.int .i64 a2)))] = some ([(.d (.p (.bool r)))], []) := by
  refine Ev_intro (fn := Tryz.f39) rfl (by kernel_rfl) (c := _) rfl ⟨rfl, by simp⟩ rfl (evP_spec _ ?_)
  unfold spec_l1In.f at h
  refine goS ?_
  try ((with_reducible apply cdX); exact rfl)
  refine iteF h (fun c1 h => ?_) (fun c1 h => ?_)
  · refine Ask.T rfl ?_
    refine Ask.T rfl ?_
    refine Ask.T rfl ?_
    exact retE (enc := spec_l1In.enc) h rfl
  · refine Ask.F rfl ?_
    refine Ask.F rfl ?_
    refine Ask.F rfl ?_
    exact retE (enc := spec_l1In.enc) h rfl
def spec_Arity.enc (r : Int) : Res := ([(.d (.p (.int .i64 r)))], [])
def spec_Arity.f  (K : Nat) (a0 : Int) : Option (Int) := jn (fun (v1 : Bool) => if v1 = true then (some 1) else (jn (fun (v8 : Bool) => if v8 = true then (some 2) else (jn (fun (v17 : Bool) => if v17 = true then (some 3) else (some 0)) (fun j => if a0 = 7 then (j true) else (j (decide (a0 = 14)))))) (fun j => if a0 = 4 then (j true) else (if a0 = 5 then (j true) else (if a0 = 6 then (j true) else (if a0 = 8 then (j true) else (if a0 = 9 then (j true) else (if a0 = 13 then (j true) else (if a0 = 17 then (j true) else (j (decide (a0 = 19)))))))))))) (fun j => if a0 = 3 then (j true) else (if a0 = 10 then (j true) else (if a0 = 11 then (j true) else (if a0 = 15 then (j true) else (if a0 = 16 then (j true) else (j (decide (a0 = 18))))))))
theorem spec_Arity.ev   {K : Nat} {a0 : Int} {r : Int} (h : spec_Arity.f  K a0 = some r) : E 51 [(.d (.p (.int .i64 a0)))] = some ([(.d (.p (.int .i64 r)))], []) := by
  refine Ev_intro (fn := Tryz.f51) rfl (by kernel_rfl) (c := _) rfl ⟨rfl, by simp⟩ rfl (evP_spec _ ?_)
  unfold spec_Arity.f at h
  refine goS ?_
  refine seqJ h 23 (fun x => [(3, (.d (.p (.int .i64 a0)))), (4, (.d (.p (.bool x))))]) (fun x => []) (fun J h => ?_) ?_
  · try ((with_reducible apply cdX); exact rfl)
    refine iteF h (fun c2 h => ?_) (fun c2 h => ?_)
    · exact ⟨true, h, ⟨rfl, ⟨rfl, rfl, trivial⟩, trivial⟩⟩
    · try ((with_reducible apply cdX); exact rfl)
      refine iteF h (fun c3 h => ?_) (fun c3 h => ?_)
      · exact ⟨true, h, ⟨rfl, ⟨rfl, rfl, trivial⟩, trivial⟩⟩
      · try ((with_reducible apply cdX); exact rfl)
        refine iteF h (fun c4 h => ?_) (fun c4 h => ?_)
        · exact ⟨true, h, ⟨rfl, ⟨rfl, rfl, trivial⟩, trivial⟩⟩
        · try ((with_reducible apply cdX); exact rfl)
          refine iteF h (fun c5 h => ?_) (fun c5 h => ?_)
          · exact ⟨true, h, ⟨rfl, ⟨rfl, rfl, trivial⟩, trivial⟩⟩
          · try ((with_reducible apply cdX); exact rfl)
            refine iteF h (fun c6 h => ?_) (fun c6 h => ?_)
            · exact ⟨true, h, ⟨rfl, ⟨rfl, rfl, trivial⟩, trivial⟩⟩
            · exact ⟨(decide (a0 = 18)), h, ⟨rfl, ⟨rfl, rfl, trivial⟩, trivial⟩⟩
  · rintro v1 h e hp
    try ((with_reducible apply cdX); exact rfl)
    refine ifB h (fun c7 h => ?_) (fun c7 h => ?_)
    · exact retE (enc := spec_Arity.enc) h rfl
    · refine seqJ h 23 (fun x => [(3, (.d (.p (.int .i64 a0)))), (11, (.d (.p (.bool x))))]) (fun x => []) (fun J h => ?_) ?_
      · try ((with_reducible apply cdX); exact rfl)
        refine iteF h (fun c9 h => ?_) (fun c9 h => ?_)
        · exact ⟨true, h, ⟨rfl, ⟨rfl, rfl, trivial⟩, trivial⟩⟩
        · try ((with_reducible apply cdX); exact rfl)
          refine iteF h (fun c10 h => ?_) (fun c10 h => ?_)
          · exact ⟨true, h, ⟨rfl, ⟨rfl, rfl, trivial⟩, trivial⟩⟩
          · try ((with_reducible apply cdX); exact rfl)
            refine iteF h (fun c11 h => ?_) (fun c11 h => ?_)
            · exact ⟨true, h, ⟨rfl, ⟨rfl, rfl, trivial⟩, trivial⟩⟩
            · try ((with_reducible apply cdX); exact rfl)
              refine iteF h (fun c12 h => ?_) (fun c12 h => ?_)
              · exact ⟨true, h, ⟨rfl, ⟨rfl, rfl, trivial⟩, trivial⟩⟩
              · try ((with_reducible apply cdX); exact rfl)
                refine iteF h (fun c13 h => ?_) (fun c13 h => ?_)
                · exact ⟨true, h, ⟨rfl, ⟨rfl, rfl, trivial⟩, trivial⟩⟩
                · try ((with_reducible apply cdX); exact rfl)
                  refine iteF h (fun c14 h => ?_) (fun c14 h => ?_)
                  · exact ⟨true, h, ⟨rfl, ⟨rfl, rfl, trivial⟩, trivial⟩⟩
                  · try ((with_reducible apply cdX); exact rfl)
                    refine iteF h (fun c15 h => ?_) (fun c15 h => ?_)
                    · exact ⟨true, h, ⟨rfl, ⟨rfl, rfl, trivial⟩, trivial⟩⟩
                    · exact ⟨(decide (a0 = 19)), h, ⟨rfl, ⟨rfl, rfl, trivial⟩, trivial⟩⟩
      · rintro v8 h e hp
        try ((with_reducible apply cdX); exact rfl)
        refine ifB h (fun c16 h => ?_) (fun c16 h => ?_)
        · exact retE (enc := spec_Arity.enc) h rfl
        · refine seqJ h 23 (fun x => [(20, (.d (.p (.bool x))))]) (fun x => []) (fun J h => ?_) ?_
          · try ((with_reducible apply cdX); exact rfl)
            refine iteF h (fun c18 h => ?_) (fun c18 h => ?_)
            · exact ⟨true, h, ⟨rfl, ⟨rfl, trivial⟩, trivial⟩⟩
            · exact ⟨(decide (a0 = 14)), h, ⟨rfl, ⟨rfl, trivial⟩, trivial⟩⟩
          · rintro v17 h e hp
            try ((with_reducible apply cdX); exact rfl)
            refine ifB h (fun c19 h => ?_) (fun c19 h => ?_)
            · exact retE (enc := spec_Arity.enc) h rfl
            · exact retE (enc := spec_Arity.enc) h rfl
def spec_l3Names.enc (r : Int) : Res := ([(.d (.p (.int .i64 r)))], [])
def spec_l3Names.f  (K : Nat) (a0 : Int) : Option (Int) := jn (fun (v1 : Bool) => if v1 = true then (some 1) else (jn (fun (v6 : Bool) => if v6 = true then (some 2) else (some 0)) (fun j => if a0 = 6 then (j true) else (j (decide (a0 = 14)))))) (fun j => if a0 = 1 then (j true) else (if a0 = 3 then (j true) else (if a0 = 5 then (j true) else (j (decide (a0 = 19))))))
theorem spec_l3Names.ev   {K : Nat} {a0 : Int} {r : Int} (h : spec_l3Names.f  K a0 = some r) : E 98 [(.d (.p (.int .i64 a0)))] = some ([(.d (.p (.int .i64 r)))], []) := by
  refine Ev_intro (fn := Tryz.f98) rfl (by kernel_rfl) (c := _) rfl ⟨rfl, by simp⟩ rfl (evP_spec _ ?_)
  unfold spec_l3Names.f at h
  refine goS ?_
  refine seqJ h 12 (fun x => [(3, (.d (.p (.int .i64 a0)))), (4, (.d (.p (.bool x))))]) (fun x => []) (fun J h => ?_) ?_
  · try ((with_reducible apply cdX); exact rfl)
    refine iteF h (fun c2 h => ?_) (fun c2 h => ?_)
    · exact ⟨true, h, ⟨rfl, ⟨rfl, rfl, trivial⟩, trivial⟩⟩
    · try ((with_reducible apply cdX); exact rfl)
      refine iteF h (fun c3 h => ?_) (fun c3 h => ?_)
      · exact ⟨true, h, ⟨rfl, ⟨rfl, rfl, trivial⟩, trivial⟩⟩
      · try ((with_reducible apply cdX); exact rfl)
        refine iteF h (fun c4 h => ?_) (fun c4 h => ?_)
        · exact ⟨true, h, ⟨rfl, ⟨rfl, rfl, trivial⟩, trivial⟩⟩
        · exact ⟨(decide (a0 = 19)), h, ⟨rfl, ⟨rfl, rfl, trivial⟩, trivial⟩⟩
  · rintro v1 h e hp
    try ((with_reducible apply cdX); exact rfl)
    refine ifB h (fun c5 h => ?_) (fun c5 h => ?_)
    · exact retE (enc := spec_l3Names.enc) h rfl
    · refine seqJ h 12 (fun x => [(9, (.d (.p (.bool x))))]) (fun x => []) (fun J h => ?_) ?_
      · try ((with_reducible apply cdX); exact rfl)
        refine iteF h (fun c7 h => ?_) (fun c7 h => ?_)
        · exact ⟨true, h, ⟨rfl, ⟨rfl, trivial⟩, trivial⟩⟩
        · exact ⟨(decide (a0 = 14)), h, ⟨rfl, ⟨rfl, trivial⟩, trivial⟩⟩
      · rintro v6 h e hp
        try ((with_reducible apply cdX); exact rfl)
        refine ifB h (fun c8 h => ?_) (fun c8 h => ?_)
        · exact retE (enc := spec_l3Names.enc) h rfl
        · exact retE (enc := spec_l3Names.enc) h rfl
def spec_l2Letter.enc (r : Bool) : Res := ([(.d (.p (.bool r)))], [])
def spec_l2Letter.f  (K : Nat) (a0 : Int) : Option (Bool) := if a0 ≥ 97 then (some (decide (a0 ≤ 122))) else (some false)
theorem spec_l2Letter.ev   {K : Nat} {a0 : Int} {r : Bool} (h : spec_l2Letter.f  K a0 = some r) : E 122 [(.d (.p (.int .u8 a0)))] = some ([(.d (.p (.bool r)))], []) := by
  refine Ev_intro (fn := Tryz.f122) rfl (by kernel_rfl) (c := _) rfl ⟨rfl, by simp⟩ rfl (evP_spec _ ?_)
  unfold spec_l2Letter.f at h
  refine goS ?_
  try ((with_reducible apply cdX); exact rfl)
  refine iteF h (fun c1 h => ?_) (fun c1 h => ?_)
  · refine Ask.T rfl ?_
    refine Ask.T rfl ?_
    exact retE (enc := spec_l2Letter.enc) h rfl
  · refine Ask.F rfl ?_
    refine Ask.F rfl ?_
    exact retE (enc := spec_l2Letter.enc) h rfl
def spec_IsWord.enc (r : Bool) : Res := ([(.d (.p (.bool r)))], [])
def spec_IsWord.en (a0 : ByteArray) (r : Bool) (S : St) : Prop := endV tb md 113 Tryz.f113 [(.d (.p (.string a0)))] .ret S = some (spec_IsWord.enc r)
def spec_IsWord.l0 (a0 : ByteArray) (K : Nat) : Nat → Int → Option (Bool ⊕ Unit)
  | 0, _ => none
  | k + 1, v1 => if v1 < (a0.size : Int) then ((atS a0 v1).bind fun x3 => ((spec_l2Letter.f K (x3.toNat : Int)).bind fun y4 => (if (!y4) = true then (some (.inl false)) else (spec_IsWord.l0 a0 K k (w64 (v1 + 1)))))) else (some (.inr ()))
def spec_IsWord.f  (K : Nat) (a0 : ByteArray) : Option (Bool) := jn (fun (_ : Unit) => (spec_l1In.f K (a0.size : Int) 1 8).bind fun y7 => (some y7)) (fun j => lb (spec_IsWord.l0 a0 K K 0) (fun r => some r) (fun (_ : Unit) => j ()))
theorem spec_IsWord.ev   {K : Nat} {a0 : ByteArray} {r : Bool} (h : spec_IsWord.f  K a0 = some r) : E 113 [(.d (.p (.string a0)))] = some ([(.d (.p (.bool r)))], []) := by
  refine Ev_intro (fn := Tryz.f113) rfl (by kernel_rfl) (c := _) rfl ⟨rfl, by simp⟩ rfl (evP_spec _ ?_)
  unfold spec_IsWord.f at h
  refine seqJ h 18 (fun x => [(0, (.d (.p (.string a0))))]) (fun x => []) (fun J h => ?_) ?_
  · refine loopB (α := Int) (a := 0) 18 (fun x => [(0, (.d (.p (.string a0)))), (3, (.d (.p (.int .i64 x))))]) (fun x => []) (fun k x => spec_IsWord.l0 a0 K k x) (spec_IsWord.en a0) 0 (fun x => [(0, (.d (.p (.string a0))))]) (fun x => []) h (fun _ => rfl) ?_ ⟨rfl, ⟨rfl, rfl, trivial⟩, trivial⟩ ?_ ?_
    · rintro k v1 r h e hp
      replace h : spec_IsWord.l0 a0 K (k + 1) v1 = some r := h
      unfold spec_IsWord.l0 at h
      refine goS ?_
      try ((with_reducible apply cdX); exact rfl)
      refine iteF h (fun c2 h => ?_) (fun c2 h => ?_)
      · refine goS ?_
        refine bindG h fun x3 hx3 h => ?_
        refine exM x3 hx3 ?_
        refine bindG h fun y4 hy5 h => ?_
        refine exM ([(.d (.p (.bool y4)))], []) ?_ ?_
        · exact spec_l2Letter.ev hy5
        refine ifB h (fun c6 h => ?_) (fun c6 h => ?_)
        · exact lqL h rfl
        · exact ⟨(w64 (v1 + 1)), h, ⟨rfl, ⟨rfl, rfl, trivial⟩, trivial⟩⟩
      · refine lqR h ?_
        exact ⟨rfl, ⟨rfl, trivial⟩, trivial⟩
    · intro r' S' h q
      exact retE (enc := spec_IsWord.enc) h q
    · rintro _ S' h ⟨qn, ⟨qa0, _⟩, ⟨_⟩⟩
      exact ⟨(), h, ⟨qn, ⟨qa0, trivial⟩, trivial⟩⟩
  · rintro _ h e hp
    refine bindG h fun y7 hy8 h => ?_
    refine exM ([(.d (.p (.bool y7)))], []) ?_ ?_
    · exact spec_l1In.ev hy8
    exact retE (enc := spec_IsWord.enc) h rfl
def spec_l3Keys.enc (r : List ByteArray) : Res := ([(.own true 1 (r.map eS))], [])
def spec_l3Keys.f  (K : Nat)  : Option (List ByteArray) := some ([(⟨#[102, 117, 110]⟩ : ByteArray), (⟨#[97, 112, 112]⟩ : ByteArray), (⟨#[108, 101, 116]⟩ : ByteArray), (⟨#[114, 101, 99]⟩ : ByteArray), (⟨#[105, 102]⟩ : ByteArray), (⟨#[97, 100, 100]⟩ : ByteArray), (⟨#[115, 117, 98]⟩ : ByteArray), (⟨#[108, 101, 115, 115]⟩ : ByteArray), (⟨#[115, 97, 109, 101]⟩ : ByteArray), (⟨#[112, 97, 105, 114]⟩ : ByteArray), (⟨#[102, 115, 116]⟩ : ByteArray), (⟨#[115, 110, 100]⟩ : ByteArray), (⟨#[110, 105, 108]⟩ : ByteArray), (⟨#[99, 111, 110, 115]⟩ : ByteArray), (⟨#[109, 97, 116, 99, 104]⟩ : ByteArray), (⟨#[114, 101, 102]⟩ : ByteArray), (⟨#[103, 101, 116]⟩ : ByteArray), (⟨#[115, 101, 116]⟩ : ByteArray), (⟨#[114, 97, 105, 115, 101]⟩ : ByteArray), (⟨#[116, 114, 121]⟩ : ByteArray)] : List ByteArray)
theorem spec_l3Keys.ev   {K : Nat}  {r : List ByteArray} (h : spec_l3Keys.f  K  = some r) : E 123 [] = some ([(.own true 1 (r.map eS))], []) := by
  refine Ev_intro (fn := Tryz.f123) rfl (by kernel_rfl) (c := _) rfl ⟨rfl, by simp⟩ rfl (evP_spec _ ?_)
  unfold spec_l3Keys.f at h
  refine eqM (([(⟨#[102, 117, 110]⟩ : ByteArray), (⟨#[97, 112, 112]⟩ : ByteArray), (⟨#[108, 101, 116]⟩ : ByteArray), (⟨#[114, 101, 99]⟩ : ByteArray), (⟨#[105, 102]⟩ : ByteArray), (⟨#[97, 100, 100]⟩ : ByteArray), (⟨#[115, 117, 98]⟩ : ByteArray), (⟨#[108, 101, 115, 115]⟩ : ByteArray), (⟨#[115, 97, 109, 101]⟩ : ByteArray), (⟨#[112, 97, 105, 114]⟩ : ByteArray), (⟨#[102, 115, 116]⟩ : ByteArray), (⟨#[115, 110, 100]⟩ : ByteArray), (⟨#[110, 105, 108]⟩ : ByteArray), (⟨#[99, 111, 110, 115]⟩ : ByteArray), (⟨#[109, 97, 116, 99, 104]⟩ : ByteArray), (⟨#[114, 101, 102]⟩ : ByteArray), (⟨#[103, 101, 116]⟩ : ByteArray), (⟨#[115, 101, 116]⟩ : ByteArray), (⟨#[114, 97, 105, 115, 101]⟩ : ByteArray), (⟨#[116, 114, 121]⟩ : ByteArray)] : List ByteArray).map eS) rfl ?_
  exact retE (enc := spec_l3Keys.enc) h rfl
def spec_IsKey.enc (r : Bool) : Res := ([(.d (.p (.bool r)))], [])
def spec_IsKey.en (a0 : ByteArray) (r : Bool) (S : St) : Prop := endV tb md 114 Tryz.f114 [(.d (.p (.string a0)))] .ret S = some (spec_IsKey.enc r)
def spec_IsKey.l0 (a0 : ByteArray) (y1 : List ByteArray) (K : Nat) : Nat → Int → Option (Bool ⊕ Unit)
  | 0, _ => none
  | k + 1, v3 => if v3 < (y1.length : Int) then ((at_ y1 v3).bind fun x5 => (if (x5.toList == a0.toList) = true then (some (.inl true)) else (spec_IsKey.l0 a0 y1 K k (w64 (v3 + 1))))) else (some (.inr ()))
def spec_IsKey.f  (K : Nat) (a0 : ByteArray) : Option (Bool) := (spec_l3Keys.f K).bind fun y1 => (jn (fun (_ : Unit) => some false) (fun j => lb (spec_IsKey.l0 a0 y1 K K 0) (fun r => some r) (fun (_ : Unit) => j ())))
theorem spec_IsKey.ev   {K : Nat} {a0 : ByteArray} {r : Bool} (h : spec_IsKey.f  K a0 = some r) : E 114 [(.d (.p (.string a0)))] = some ([(.d (.p (.bool r)))], []) := by
  refine Ev_intro (fn := Tryz.f114) rfl (by kernel_rfl) (c := _) rfl ⟨rfl, by simp⟩ rfl (evP_spec _ ?_)
  unfold spec_IsKey.f at h
  refine bindG h fun y1 hy2 h => ?_
  refine exM ([(.own true 1 (y1.map eS))], []) ?_ ?_
  · exact spec_l3Keys.ev hy2
  refine seqJ h 18 (fun x => []) (fun x => []) (fun J h => ?_) ?_
  · refine loopB (α := Int) (a := 0) 18 (fun x => [(0, (.d (.p (.string a0)))), (3, (.d (.l true 1 (y1.map eS)))), (4, (.d (.p (.int .i64 x))))]) (fun x => []) (fun k x => spec_IsKey.l0 a0 y1 K k x) (spec_IsKey.en a0) 0 (fun x => []) (fun x => []) h (fun _ => rfl) ?_ ⟨rfl, ⟨rfl, rfl, rfl, trivial⟩, trivial⟩ ?_ ?_
    · rintro k v3 r h e hp
      replace h : spec_IsKey.l0 a0 y1 K (k + 1) v3 = some r := h
      unfold spec_IsKey.l0 at h
      refine goS ?_
      refine eqM ((y1.length : Int) : Int) (mLen rfl) ?_
      refine iteF h (fun c4 h => ?_) (fun c4 h => ?_)
      · refine goS ?_
        refine bindG h fun x5 hx5 h => ?_
        refine anM (at_ix rfl hx5) ?_
        refine exM (eS x5) (at_get rfl hx5) ?_
        refine ifB h (fun c6 h => ?_) (fun c6 h => ?_)
        · exact lqL h rfl
        · exact ⟨(w64 (v3 + 1)), h, ⟨rfl, ⟨rfl, rfl, rfl, trivial⟩, trivial⟩⟩
      · refine lqR h ?_
        exact ⟨rfl, trivial, trivial⟩
    · intro r' S' h q
      exact retE (enc := spec_IsKey.enc) h q
    · rintro _ S' h ⟨qn, ⟨_⟩, ⟨_⟩⟩
      exact ⟨(), h, ⟨qn, trivial, trivial⟩⟩
  · rintro _ h e hp
    exact retE (enc := spec_IsKey.enc) h rfl
def spec_l3Name.enc (r : Bool) : Res := ([(.d (.p (.bool r)))], [])
def spec_l3Name.f  (K : Nat) (a0 : ByteArray) : Option (Bool) := (spec_IsWord.f K a0).bind fun y1 => (if y1 = true then ((spec_IsKey.f K a0).bind fun y4 => (some (!y4))) else (some false))
theorem spec_l3Name.ev   {K : Nat} {a0 : ByteArray} {r : Bool} (h : spec_l3Name.f  K a0 = some r) : E 101 [(.d (.p (.string a0)))] = some ([(.d (.p (.bool r)))], []) := by
  refine Ev_intro (fn := Tryz.f101) rfl (by kernel_rfl) (c := _) rfl ⟨rfl, by simp⟩ rfl (evP_spec _ ?_)
  unfold spec_l3Name.f at h
  refine goS ?_
  refine bindG h fun y1 hy2 h => ?_
  refine exM ([(.d (.p (.bool y1)))], []) ?_ ?_
  · exact spec_IsWord.ev hy2
  refine ifB h (fun c3 h => ?_) (fun c3 h => ?_)
  · refine Ask.T rfl ?_
    refine bindG h fun y4 hy5 h => ?_
    refine exM ([(.d (.p (.bool y4)))], []) ?_ ?_
    · exact spec_IsKey.ev hy5
    refine Ask.T rfl ?_
    refine Ask.T rfl ?_
    exact retE (enc := spec_l3Name.enc) h rfl
  · refine Ask.F rfl ?_
    refine Ask.F rfl ?_
    refine Ask.F rfl ?_
    exact retE (enc := spec_l3Name.enc) h rfl
def spec_l3Fields.enc (r : Bool) : Res := ([(.d (.p (.bool r)))], [])
def spec_l3Fields.f  (K : Nat) (a0 : impl_Node) : Option (Bool) := (spec_l1In.f K a0.Kind 1 19).bind fun y1 => (if (!y1) = true then (some false) else ((spec_Arity.f K a0.Kind).bind fun y4 => (jn (fun (v6 : Bool) => if v6 = true then (some false) else ((spec_l3Names.f K a0.Kind).bind fun y18 => (jn (fun (v20 : Bool) => if v20 = true then (some false) else (if a0.Kind = 2 then ((spec_l1In.f K a0.N 0 65535).bind fun y36 => (some y36)) else (if a0.Kind = 8 then ((spec_l1In.f K a0.N 0 3).bind fun y39 => (some y39)) else (some (decide (a0.N = 0)))))) (fun j => (spec_l3Name.f K a0.Name).bind fun y21 => (if ((decide (y18 > 0)) != y21) = true then (j true) else (if y18 = 0 then (if (!(a0.Name.toList == (⟨#[]⟩ : ByteArray).toList)) = true then (j true) else ((spec_l3Name.f K a0.Other).bind fun y26 => (if ((decide (y18 > 1)) != y26) = true then (j true) else (if y18 < 2 then (j (!(a0.Other.toList == (⟨#[]⟩ : ByteArray).toList))) else (j false))))) else ((spec_l3Name.f K a0.Other).bind fun y30 => (if ((decide (y18 > 1)) != y30) = true then (j true) else (if y18 < 2 then (j (!(a0.Other.toList == (⟨#[]⟩ : ByteArray).toList))) else (j false)))))))))) (fun j => if y4 < 1 then (if (!(decide (a0.A = 0))) = true then (j true) else (if y4 < 2 then (if (!(decide (a0.B = 0))) = true then (j true) else (if y4 < 3 then (j (!(decide (a0.C = 0)))) else (j false))) else (if y4 < 3 then (j (!(decide (a0.C = 0)))) else (j false)))) else (if y4 < 2 then (if (!(decide (a0.B = 0))) = true then (j true) else (if y4 < 3 then (j (!(decide (a0.C = 0)))) else (j false))) else (if y4 < 3 then (j (!(decide (a0.C = 0)))) else (j false)))))))
theorem spec_l3Fields.ev   {K : Nat} {a0 : impl_Node} {r : Bool} (h : spec_l3Fields.f  K a0 = some r) : E 82 [(.agg (a0.e.map .d))] = some ([(.d (.p (.bool r)))], []) := by
  refine Ev_intro (fn := Tryz.f82) rfl (by kernel_rfl) (c := _) rfl ⟨rfl, by simp⟩ rfl (evP_spec _ ?_)
  unfold spec_l3Fields.f at h
  refine goS ?_
  refine bindG h fun y1 hy2 h => ?_
  refine exM ([(.d (.p (.bool y1)))], []) ?_ ?_
  · exact spec_l1In.ev hy2
  refine ifB h (fun c3 h => ?_) (fun c3 h => ?_)
  · exact retE (enc := spec_l3Fields.enc) h rfl
  · refine bindG h fun y4 hy5 h => ?_
    refine exM ([(.d (.p (.int .i64 y4)))], []) ?_ ?_
    · exact spec_Arity.ev hy5
    refine goS ?_
    refine seqJ h 87 (fun x => [(1, (.ptr 1 0 2 0)), (36, (.d (.p (.bool x))))]) (fun x => [(1, 0, 2, (some (.box [(.d (.p (.int .i64 a0.Kind))), (.d (.p (.int .i64 a0.A))), (.d (.p (.int .i64 a0.B))), (.d (.p (.int .i64 a0.C))), (.d (.p (.int .i64 a0.N))), (.d (.p (.string a0.Name))), (.d (.p (.string a0.Other)))])))]) (fun J h => ?_) ?_
    · try ((with_reducible apply cdX); exact rfl)
      refine iteF h (fun c7 h => ?_) (fun c7 h => ?_)
      · refine Ask.T rfl ?_
        refine Ask.T rfl ?_
        refine Ask.T rfl ?_
        refine ifB h (fun c8 h => ?_) (fun c8 h => ?_)
        · refine Ask.T rfl ?_
          refine Ask.T rfl ?_
          refine Ask.T rfl ?_
          refine Ask.T rfl ?_
          refine Ask.T rfl ?_
          refine Ask.T rfl ?_
          refine Ask.T rfl ?_
          refine Ask.T rfl ?_
          refine Ask.T rfl ?_
          exact ⟨true, h, ⟨rfl, ⟨rfl, rfl, trivial⟩, ⟨rfl, trivial⟩⟩⟩
        · refine Ask.F rfl ?_
          refine Ask.F rfl ?_
          refine iteF h (fun c9 h => ?_) (fun c9 h => ?_)
          · refine Ask.T rfl ?_
            refine Ask.T rfl ?_
            refine Ask.F rfl ?_
            refine Ask.T rfl ?_
            refine Ask.F rfl ?_
            refine ifB h (fun c10 h => ?_) (fun c10 h => ?_)
            · refine Ask.T rfl ?_
              refine Ask.T rfl ?_
              refine Ask.T rfl ?_
              refine Ask.T rfl ?_
              exact ⟨true, h, ⟨rfl, ⟨rfl, rfl, trivial⟩, ⟨rfl, trivial⟩⟩⟩
            · refine Ask.F rfl ?_
              refine Ask.F rfl ?_
              refine iteF h (fun c11 h => ?_) (fun c11 h => ?_)
              · refine Ask.T rfl ?_
                refine Ask.T rfl ?_
                refine Ask.F rfl ?_
                refine Ask.T rfl ?_
                refine Ask.F rfl ?_
                exact ⟨(!(decide (a0.C = 0))), h, ⟨rfl, ⟨rfl, rfl, trivial⟩, ⟨rfl, trivial⟩⟩⟩
              · refine Ask.F rfl ?_
                refine Ask.F rfl ?_
                refine Ask.F rfl ?_
                refine Ask.F rfl ?_
                refine Ask.F rfl ?_
                exact ⟨false, h, ⟨rfl, ⟨rfl, rfl, trivial⟩, ⟨rfl, trivial⟩⟩⟩
          · refine Ask.F rfl ?_
            refine Ask.F rfl ?_
            refine Ask.F rfl ?_
            refine Ask.F rfl ?_
            refine Ask.F rfl ?_
            refine Ask.F rfl ?_
            refine Ask.F rfl ?_
            refine Ask.F rfl ?_
            refine iteF h (fun c12 h => ?_) (fun c12 h => ?_)
            · refine Ask.T rfl ?_
              refine Ask.T rfl ?_
              refine Ask.F rfl ?_
              refine Ask.T rfl ?_
              refine Ask.F rfl ?_
              exact ⟨(!(decide (a0.C = 0))), h, ⟨rfl, ⟨rfl, rfl, trivial⟩, ⟨rfl, trivial⟩⟩⟩
            · refine Ask.F rfl ?_
              refine Ask.F rfl ?_
              refine Ask.F rfl ?_
              refine Ask.F rfl ?_
              refine Ask.F rfl ?_
              exact ⟨false, h, ⟨rfl, ⟨rfl, rfl, trivial⟩, ⟨rfl, trivial⟩⟩⟩
      · refine Ask.F rfl ?_
        refine Ask.F rfl ?_
        refine Ask.F rfl ?_
        refine Ask.F rfl ?_
        refine Ask.F rfl ?_
        refine Ask.F rfl ?_
        refine iteF h (fun c13 h => ?_) (fun c13 h => ?_)
        · refine Ask.T rfl ?_
          refine Ask.T rfl ?_
          refine Ask.F rfl ?_
          refine Ask.T rfl ?_
          refine Ask.F rfl ?_
          refine ifB h (fun c14 h => ?_) (fun c14 h => ?_)
          · refine Ask.T rfl ?_
            refine Ask.T rfl ?_
            refine Ask.T rfl ?_
            refine Ask.T rfl ?_
            exact ⟨true, h, ⟨rfl, ⟨rfl, rfl, trivial⟩, ⟨rfl, trivial⟩⟩⟩
          · refine Ask.F rfl ?_
            refine Ask.F rfl ?_
            refine iteF h (fun c15 h => ?_) (fun c15 h => ?_)
            · refine Ask.T rfl ?_
              refine Ask.T rfl ?_
              refine Ask.F rfl ?_
              refine Ask.T rfl ?_
              refine Ask.F rfl ?_
              exact ⟨(!(decide (a0.C = 0))), h, ⟨rfl, ⟨rfl, rfl, trivial⟩, ⟨rfl, trivial⟩⟩⟩
            · refine Ask.F rfl ?_
              refine Ask.F rfl ?_
              refine Ask.F rfl ?_
              refine Ask.F rfl ?_
              refine Ask.F rfl ?_
              exact ⟨false, h, ⟨rfl, ⟨rfl, rfl, trivial⟩, ⟨rfl, trivial⟩⟩⟩
        · refine Ask.F rfl ?_
          refine Ask.F rfl ?_
          refine Ask.F rfl ?_
          refine Ask.F rfl ?_
          refine Ask.F rfl ?_
          refine Ask.F rfl ?_
          refine Ask.F rfl ?_
          refine Ask.F rfl ?_
          refine iteF h (fun c16 h => ?_) (fun c16 h => ?_)
          · refine Ask.T rfl ?_
            refine Ask.T rfl ?_
            refine Ask.F rfl ?_
            refine Ask.T rfl ?_
            refine Ask.F rfl ?_
            exact ⟨(!(decide (a0.C = 0))), h, ⟨rfl, ⟨rfl, rfl, trivial⟩, ⟨rfl, trivial⟩⟩⟩
          · refine Ask.F rfl ?_
            refine Ask.F rfl ?_
            refine Ask.F rfl ?_
            refine Ask.F rfl ?_
            refine Ask.F rfl ?_
            exact ⟨false, h, ⟨rfl, ⟨rfl, rfl, trivial⟩, ⟨rfl, trivial⟩⟩⟩
    · rintro v6 h e hp
      try ((with_reducible apply cdX); exact rfl)
      refine ifB h (fun c17 h => ?_) (fun c17 h => ?_)
      · exact retE (enc := spec_l3Fields.enc) h rfl
      · refine bindG h fun y18 hy19 h => ?_
        refine exM ([(.d (.p (.int .i64 y18)))], []) ?_ ?_
        · exact spec_l3Names.ev hy19
        refine goS ?_
        refine seqJ h 87 (fun x => [(1, (.ptr 1 0 2 0)), (71, (.d (.p (.bool x))))]) (fun x => [(1, 0, 2, (some (.box [(.d (.p (.int .i64 a0.Kind))), (.d (.p (.int .i64 a0.A))), (.d (.p (.int .i64 a0.B))), (.d (.p (.int .i64 a0.C))), (.d (.p (.int .i64 a0.N))), (.d (.p (.string a0.Name))), (.d (.p (.string a0.Other)))])))]) (fun J h => ?_) ?_
        · refine bindG h fun y21 hy22 h => ?_
          refine exM ([(.d (.p (.bool y21)))], []) ?_ ?_
          · exact spec_l3Name.ev hy22
          refine ifB h (fun c23 h => ?_) (fun c23 h => ?_)
          · refine Ask.T rfl ?_
            refine Ask.T rfl ?_
            refine Ask.T rfl ?_
            refine Ask.T rfl ?_
            refine Ask.T rfl ?_
            refine Ask.T rfl ?_
            refine Ask.T rfl ?_
            refine Ask.T rfl ?_
            refine Ask.T rfl ?_
            refine Ask.T rfl ?_
            refine Ask.T rfl ?_
            refine Ask.T rfl ?_
            refine Ask.T rfl ?_
            refine Ask.T rfl ?_
            refine Ask.T rfl ?_
            refine Ask.T rfl ?_
            exact ⟨true, h, ⟨rfl, ⟨rfl, rfl, trivial⟩, ⟨rfl, trivial⟩⟩⟩
          · refine Ask.F rfl ?_
            refine Ask.F rfl ?_
            refine iteF h (fun c24 h => ?_) (fun c24 h => ?_)
            · refine Ask.T rfl ?_
              refine Ask.T rfl ?_
              refine Ask.F rfl ?_
              refine Ask.T rfl ?_
              refine Ask.F rfl ?_
              refine ifB h (fun c25 h => ?_) (fun c25 h => ?_)
              · refine Ask.T rfl ?_
                refine Ask.T rfl ?_
                refine Ask.T rfl ?_
                refine Ask.T rfl ?_
                refine Ask.T rfl ?_
                refine Ask.T rfl ?_
                refine Ask.T rfl ?_
                refine Ask.T rfl ?_
                refine Ask.T rfl ?_
                refine Ask.T rfl ?_
                refine Ask.T rfl ?_
                exact ⟨true, h, ⟨rfl, ⟨rfl, rfl, trivial⟩, ⟨rfl, trivial⟩⟩⟩
              · refine Ask.F rfl ?_
                refine Ask.F rfl ?_
                refine Ask.F rfl ?_
                refine Ask.F rfl ?_
                refine bindG h fun y26 hy27 h => ?_
                refine exM ([(.d (.p (.bool y26)))], []) ?_ ?_
                · exact spec_l3Name.ev hy27
                refine Ask.F rfl ?_
                refine Ask.F rfl ?_
                refine ifB h (fun c28 h => ?_) (fun c28 h => ?_)
                · refine Ask.T rfl ?_
                  refine Ask.T rfl ?_
                  refine Ask.T rfl ?_
                  refine Ask.T rfl ?_
                  exact ⟨true, h, ⟨rfl, ⟨rfl, rfl, trivial⟩, ⟨rfl, trivial⟩⟩⟩
                · refine Ask.F rfl ?_
                  refine Ask.F rfl ?_
                  refine iteF h (fun c29 h => ?_) (fun c29 h => ?_)
                  · refine Ask.T rfl ?_
                    refine Ask.T rfl ?_
                    refine Ask.F rfl ?_
                    refine Ask.T rfl ?_
                    refine Ask.F rfl ?_
                    exact ⟨(!(a0.Other.toList == (⟨#[]⟩ : ByteArray).toList)), h, ⟨rfl, ⟨rfl, rfl, trivial⟩, ⟨rfl, trivial⟩⟩⟩
                  · refine Ask.F rfl ?_
                    refine Ask.F rfl ?_
                    refine Ask.F rfl ?_
                    refine Ask.F rfl ?_
                    refine Ask.F rfl ?_
                    exact ⟨false, h, ⟨rfl, ⟨rfl, rfl, trivial⟩, ⟨rfl, trivial⟩⟩⟩
            · refine Ask.F rfl ?_
              refine Ask.F rfl ?_
              refine Ask.F rfl ?_
              refine Ask.F rfl ?_
              refine Ask.F rfl ?_
              refine Ask.F rfl ?_
              refine Ask.F rfl ?_
              refine Ask.F rfl ?_
              refine Ask.F rfl ?_
              refine Ask.F rfl ?_
              refine bindG h fun y30 hy31 h => ?_
              refine exM ([(.d (.p (.bool y30)))], []) ?_ ?_
              · exact spec_l3Name.ev hy31
              refine Ask.F rfl ?_
              refine Ask.F rfl ?_
              refine ifB h (fun c32 h => ?_) (fun c32 h => ?_)
              · refine Ask.T rfl ?_
                refine Ask.T rfl ?_
                refine Ask.T rfl ?_
                refine Ask.T rfl ?_
                exact ⟨true, h, ⟨rfl, ⟨rfl, rfl, trivial⟩, ⟨rfl, trivial⟩⟩⟩
              · refine Ask.F rfl ?_
                refine Ask.F rfl ?_
                refine iteF h (fun c33 h => ?_) (fun c33 h => ?_)
                · refine Ask.T rfl ?_
                  refine Ask.T rfl ?_
                  refine Ask.F rfl ?_
                  refine Ask.T rfl ?_
                  refine Ask.F rfl ?_
                  exact ⟨(!(a0.Other.toList == (⟨#[]⟩ : ByteArray).toList)), h, ⟨rfl, ⟨rfl, rfl, trivial⟩, ⟨rfl, trivial⟩⟩⟩
                · refine Ask.F rfl ?_
                  refine Ask.F rfl ?_
                  refine Ask.F rfl ?_
                  refine Ask.F rfl ?_
                  refine Ask.F rfl ?_
                  exact ⟨false, h, ⟨rfl, ⟨rfl, rfl, trivial⟩, ⟨rfl, trivial⟩⟩⟩
        · rintro v20 h e hp
          try ((with_reducible apply cdX); exact rfl)
          refine ifB h (fun c34 h => ?_) (fun c34 h => ?_)
          · exact retE (enc := spec_l3Fields.enc) h rfl
          · refine goS ?_
            try ((with_reducible apply cdX); exact rfl)
            refine iteF h (fun c35 h => ?_) (fun c35 h => ?_)
            · refine bindG h fun y36 hy37 h => ?_
              refine exM ([(.d (.p (.bool y36)))], []) ?_ ?_
              · exact spec_l1In.ev hy37
              exact retE (enc := spec_l3Fields.enc) h rfl
            · try ((with_reducible apply cdX); exact rfl)
              refine iteF h (fun c38 h => ?_) (fun c38 h => ?_)
              · refine bindG h fun y39 hy40 h => ?_
                refine exM ([(.d (.p (.bool y39)))], []) ?_ ?_
                · exact spec_l1In.ev hy40
                exact retE (enc := spec_l3Fields.enc) h rfl
              · exact retE (enc := spec_l3Fields.enc) h rfl
def spec_Kids.enc (r : List Int) : Res := ([(.own true 1 (r.map eI))], [])
def spec_Kids.f  (K : Nat) (a0 : impl_Node) : Option (List Int) := (spec_Arity.f K a0.Kind).bind fun y1 => (gd (0 ≤ (0 : Int) ∧ (0 : Int) ≤ y1 ∧ y1 ≤ (([a0.A, a0.B, a0.C] : List Int).length : Int)) (some (([a0.A, a0.B, a0.C] : List Int).take (y1).toNat)))
theorem spec_Kids.ev   {K : Nat} {a0 : impl_Node} {r : List Int} (h : spec_Kids.f  K a0 = some r) : E 44 [(.agg (a0.e.map .d))] = some ([(.own true 1 (r.map eI))], []) := by
  refine Ev_intro (fn := Tryz.f44) rfl (by kernel_rfl) (c := _) rfl ⟨rfl, by simp⟩ rfl (evP_spec _ ?_)
  unfold spec_Kids.f at h
  refine ⟨[[5, 6, 7, 8, 10, 11, 12], [5, 6, 7, 8, 10, 11, 12], [3, 4, 7, 8, 10, 11, 12], [3, 4, 7, 8, 10, 11, 12], [3, 4, 5, 6, 10, 11, 12], [3, 4, 5, 6, 10, 11, 12], [10, 11, 12], [3, 4, 5, 6, 7, 8, 9], [3, 4, 5, 6, 7, 8, 9], [3, 4, 5, 6, 7, 8, 9], [], []], [], by kernel_rfl, ?_⟩
  refine eqM (([a0.A, a0.B, a0.C] : List Int).map eI) rfl ?_
  refine bindG h fun y1 hy2 h => ?_
  refine exM ([(.d (.p (.int .i64 y1)))], []) ?_ ?_
  · exact spec_Arity.ev hy2
  refine gdG h fun hc h => ?_
  refine anM (slB hc) ?_
  refine eqM ((([a0.A, a0.B, a0.C] : List Int).take (y1).toNat).map eI) (mTake rfl) ?_
  exact retE (enc := spec_Kids.enc) h rfl
def spec_l3Starts.enc (r : List Int × Bool) : Res := ([(.own true 1 (r.1.map eI)), (.d (.p (.bool r.2)))], [])
def spec_l3Starts.en (a0 : List impl_Node) (r : List Int × Bool) (S : St) : Prop := endV tb md 40 Tryz.f40 [(.d (.l true 7 (a0.map impl_Node.e)))] .ret S = some (spec_l3Starts.enc r)
def spec_l3Starts.l1 (v3 : List Int) (y10 : List Int) (K : Nat) : Nat → Int → Int → Option ((List Int × Bool) ⊕ Int)
  | 0, _, _ => none
  | k + 1, v13, v14 => if v14 ≥ 0 then (jn (fun (v17 : Bool) => if v17 = true then (some (.inl (([] : List Int), false))) else ((at_ y10 v14).bind fun x21 => ((at_ v3 x21).bind fun x22 => (spec_l3Starts.l1 v3 y10 K k x22 (w64 (v14 - 1)))))) (fun j => (at_ y10 v14).bind fun x18 => (if (!(decide (x18 = (w64 (v13 - 1))))) = true then (j true) else (j (decide (x18 < 0)))))) else (some (.inr v13))
def spec_l3Starts.l0 (a0 : List impl_Node) (K : Nat) : Nat → Int → (List Int) → Option ((List Int × Bool) ⊕ (List Int))
  | 0, _, _ => none
  | k + 1, v2, v3 => if v2 < (a0.length : Int) then ((at_ a0 v2).bind fun x6 => ((spec_l3Fields.f K x6).bind fun y7 => (if (!y7) = true then (some (.inl (([] : List Int), false))) else ((spec_Kids.f K x6).bind fun y10 => (jn (fun (v12 : Int) => gd ((v3.length + 1) * 8 ≤ 140737488355328) (spec_l3Starts.l0 a0 K k (w64 (v2 + 1)) (v3 ++ ([v12] : List Int)))) (fun j => lb (spec_l3Starts.l1 v3 y10 K K v2 (w64 ((y10.length : Int) - 1))) (fun r => some (.inl r)) (fun (v15 : Int) => j v15))))))) else (some (.inr v3))
def spec_l3Starts.f  (K : Nat) (a0 : List impl_Node) : Option (List Int × Bool) := jn (fun (v1 : List Int) => some (v1, true)) (fun j => lb (spec_l3Starts.l0 a0 K K 0 ([] : List Int)) (fun r => some r) (fun (v4 : List Int) => j v4))
theorem spec_l3Starts.ev   {K : Nat} {a0 : List impl_Node} {r : List Int × Bool} (h : spec_l3Starts.f  K a0 = some r) : E 40 [(.d (.l true 7 (a0.map impl_Node.e)))] = some ([(.own true 1 (r.1.map eI)), (.d (.p (.bool r.2)))], []) := by
  refine Ev_intro (fn := Tryz.f40) rfl (by kernel_rfl) (c := _) rfl ⟨rfl, by simp⟩ rfl (evP_spec _ ?_)
  unfold spec_l3Starts.f at h
  refine eqM (([] : List Int).map eI) rfl ?_
  refine seqJ h 63 (fun x => [(4, (.own 4 1 2))]) (fun x => [(4, 1, 2, (some (.row true true 1 (x.map eI))))]) (fun J h => ?_) ?_
  · refine loopB (α := Int × List Int) (a := (0, ([] : List Int))) 63 (fun x => [(0, (.d (.l true 7 (a0.map impl_Node.e)))), (4, (.own 4 1 2)), (5, (.d (.p (.int .i64 x.1))))]) (fun x => [(4, 1, 2, (some (.row true true 1 (x.2.map eI))))]) (fun k x => spec_l3Starts.l0 a0 K k x.1 x.2) (spec_l3Starts.en a0) 0 (fun x => [(4, (.own 4 1 2))]) (fun x => [(4, 1, 2, (some (.row true true 1 (x.map eI))))]) h (fun _ => rfl) ?_ ⟨rfl, ⟨rfl, rfl, rfl, trivial⟩, ⟨rfl, trivial⟩⟩ ?_ ?_
    · rintro k ⟨v2, v3⟩ r h e hp
      replace h : spec_l3Starts.l0 a0 K (k + 1) v2 v3 = some r := h
      unfold spec_l3Starts.l0 at h
      refine goS ?_
      refine eqM ((a0.length : Int) : Int) (mLen rfl) ?_
      refine iteF h (fun c5 h => ?_) (fun c5 h => ?_)
      · refine goS ?_
        refine goS ?_
        refine bindG h fun x6 hx6 h => ?_
        refine anM (at_ix rfl hx6) ?_
        refine exM (impl_Node.e x6) (at_get rfl hx6) ?_
        refine bindG h fun y7 hy8 h => ?_
        refine exM ([(.d (.p (.bool y7)))], []) ?_ ?_
        · exact spec_l3Fields.ev hy8
        refine ifB h (fun c9 h => ?_) (fun c9 h => ?_)
        · refine eqM (([] : List Int).map eI) rfl ?_
          exact lqL h rfl
        · refine anM (at_ix rfl hx6) ?_
          refine exM (impl_Node.e x6) (at_get rfl hx6) ?_
          refine bindG h fun y10 hy11 h => ?_
          refine exM ([(.own true 1 (y10.map eI))], []) ?_ ?_
          · exact spec_Kids.ev hy11
          refine seqJ h 63 (fun x => [(0, (.d (.l true 7 (a0.map impl_Node.e)))), (4, (.own 4 1 2)), (5, (.d (.p (.int .i64 v2)))), (6, (.d (.p (.int .i64 x))))]) (fun x => [(4, 1, 2, (some (.row true true 1 (v3.map eI))))]) (fun J h => ?_) ?_
          · refine eqM ((y10.length : Int) : Int) (mLen rfl) ?_
            refine loopB (α := Int × Int) (a := (v2, (w64 ((y10.length : Int) - 1)))) 63 (fun x => [(0, (.d (.l true 7 (a0.map impl_Node.e)))), (4, (.own 4 1 2)), (5, (.d (.p (.int .i64 v2)))), (6, (.d (.p (.int .i64 x.1)))), (7, (.own 7 1 2)), (8, (.d (.p (.int .i64 x.2))))]) (fun x => [(4, 1, 2, (some (.row true true 1 (v3.map eI)))), (7, 1, 2, (some (.row true true 1 (y10.map eI))))]) (fun k x => spec_l3Starts.l1 v3 y10 K k x.1 x.2) (spec_l3Starts.en a0) 2 (fun x => [(0, (.d (.l true 7 (a0.map impl_Node.e)))), (4, (.own 4 1 2)), (5, (.d (.p (.int .i64 v2)))), (6, (.d (.p (.int .i64 x))))]) (fun x => [(4, 1, 2, (some (.row true true 1 (v3.map eI))))]) h (fun _ => rfl) ?_ ⟨rfl, ⟨rfl, rfl, rfl, rfl, rfl, rfl, trivial⟩, ⟨rfl, rfl, trivial⟩⟩ ?_ ?_
            · rintro k ⟨v13, v14⟩ r h e hp
              replace h : spec_l3Starts.l1 v3 y10 K (k + 1) v13 v14 = some r := h
              unfold spec_l3Starts.l1 at h
              refine goS ?_
              try ((with_reducible apply cdX); exact rfl)
              refine iteF h (fun c16 h => ?_) (fun c16 h => ?_)
              · refine goS ?_
                refine goS ?_
                refine seqJ h 63 (fun x => [(0, (.d (.l true 7 (a0.map impl_Node.e)))), (4, (.own 4 1 2)), (5, (.d (.p (.int .i64 v2)))), (7, (.own 7 1 2)), (8, (.d (.p (.int .i64 v14)))), (49, (.d (.p (.bool x))))]) (fun x => [(4, 1, 2, (some (.row true true 1 (v3.map eI)))), (7, 1, 2, (some (.row true true 1 (y10.map eI))))]) (fun J h => ?_) ?_
                · refine bindG h fun x18 hx18 h => ?_
                  refine anM (at_ix rfl hx18) ?_
                  refine exM (eI x18) (at_get rfl hx18) ?_
                  refine ifB h (fun c19 h => ?_) (fun c19 h => ?_)
                  · refine Ask.T rfl ?_
                    refine Ask.T rfl ?_
                    refine Ask.T rfl ?_
                    refine Ask.T rfl ?_
                    refine Ask.T rfl ?_
                    exact ⟨true, h, ⟨rfl, ⟨rfl, rfl, rfl, rfl, rfl, rfl, trivial⟩, ⟨rfl, rfl, trivial⟩⟩⟩
                  · refine Ask.F rfl ?_
                    refine Ask.F rfl ?_
                    refine anM (at_ix rfl hx18) ?_
                    refine Ask.F rfl ?_
                    refine exM (eI x18) (at_get rfl hx18) ?_
                    refine Ask.F rfl ?_
                    refine Ask.F rfl ?_
                    exact ⟨(decide (x18 < 0)), h, ⟨rfl, ⟨rfl, rfl, rfl, rfl, rfl, rfl, trivial⟩, ⟨rfl, rfl, trivial⟩⟩⟩
                · rintro v17 h e hp
                  try ((with_reducible apply cdX); exact rfl)
                  refine ifB h (fun c20 h => ?_) (fun c20 h => ?_)
                  · refine eqM (([] : List Int).map eI) rfl ?_
                    exact lqL h rfl
                  · refine bindG h fun x21 hx21 h => ?_
                    refine anM (at_ix rfl hx21) ?_
                    refine exM (eI x21) (at_get rfl hx21) ?_
                    refine bindG h fun x22 hx22 h => ?_
                    refine anM (at_ix rfl hx22) ?_
                    refine exM (eI x22) (at_get rfl hx22) ?_
                    exact ⟨(x22, (w64 (v14 - 1))), h, ⟨rfl, ⟨rfl, rfl, rfl, rfl, rfl, rfl, trivial⟩, ⟨rfl, rfl, trivial⟩⟩⟩
              · refine lqR h ?_
                exact ⟨rfl, ⟨rfl, rfl, rfl, rfl, trivial⟩, ⟨rfl, trivial⟩⟩
            · intro r' S' h q
              exact lqL h q
            · rintro v15 S' h ⟨qn, ⟨qa0, qa1, qa2, qa3, _⟩, ⟨qb0, _⟩⟩
              exact ⟨v15, h, ⟨qn, ⟨qa0, qa1, qa2, qa3, trivial⟩, ⟨qb0, trivial⟩⟩⟩
          · rintro v12 h e hp
            refine eqM (([v12] : List Int).map eI) rfl ?_
            refine gdG h fun hc h => ?_
            refine anM (apB hc) ?_
            refine eqM ((v3 ++ ([v12] : List Int)).map eI) (mApp rfl rfl) ?_
            exact ⟨((w64 (v2 + 1)), (v3 ++ ([v12] : List Int))), h, ⟨rfl, ⟨rfl, rfl, rfl, trivial⟩, ⟨rfl, trivial⟩⟩⟩
      · refine lqR h ?_
        exact ⟨rfl, ⟨rfl, trivial⟩, ⟨rfl, trivial⟩⟩
    · intro r' S' h q
      exact retE (enc := spec_l3Starts.enc) h q
    · rintro v4 S' h ⟨qn, ⟨qa0, _⟩, ⟨qb0, _⟩⟩
      exact ⟨v4, h, ⟨qn, ⟨qa0, trivial⟩, ⟨qb0, trivial⟩⟩⟩
  · rintro v1 h e hp
    exact retE (enc := spec_l3Starts.enc) h rfl
def spec_NodesOk.enc (r : Bool) : Res := ([(.d (.p (.bool r)))], [])
def spec_NodesOk.f  (K : Nat) (a0 : List impl_Node) : Option (Bool) := (spec_l1In.f K (a0.length : Int) 1 150).bind fun y1 => (if (!y1) = true then (some false) else ((spec_l3Starts.f K a0).bind fun (y4, y5) => (if y5 = true then ((at_ y4 (w64 ((a0.length : Int) - 1))).bind fun x8 => (some (decide (x8 = 0)))) else (some false))))
theorem spec_NodesOk.ev   {K : Nat} {a0 : List impl_Node} {r : Bool} (h : spec_NodesOk.f  K a0 = some r) : E 20 [(.d (.l true 7 (a0.map impl_Node.e)))] = some ([(.d (.p (.bool r)))], []) := by
  refine Ev_intro (fn := Tryz.f20) rfl (by kernel_rfl) (c := _) rfl ⟨rfl, by simp⟩ rfl (evP_spec _ ?_)
  unfold spec_NodesOk.f at h
  refine goS ?_
  refine eqM ((a0.length : Int) : Int) (mLen rfl) ?_
  refine bindG h fun y1 hy2 h => ?_
  refine exM ([(.d (.p (.bool y1)))], []) ?_ ?_
  · exact spec_l1In.ev hy2
  refine ifB h (fun c3 h => ?_) (fun c3 h => ?_)
  · exact retE (enc := spec_NodesOk.enc) h rfl
  · refine bindG h ?_
    rintro ⟨y4, y5⟩ hy6 h
    refine exM ([(.own true 1 (y4.map eI)), (.d (.p (.bool y5)))], []) ?_ ?_
    · exact spec_l3Starts.ev hy6
    refine goS ?_
    try ((with_reducible apply cdX); exact rfl)
    refine ifB h (fun c7 h => ?_) (fun c7 h => ?_)
    · refine Ask.T rfl ?_
      refine Ask.T rfl ?_
      refine eqM ((a0.length : Int) : Int) (mLen rfl) ?_
      refine Ask.T rfl ?_
      refine Ask.T rfl ?_
      refine bindG h fun x8 hx8 h => ?_
      refine anM (at_ix rfl hx8) ?_
      refine Ask.T rfl ?_
      refine exM (eI x8) (at_get rfl hx8) ?_
      refine Ask.T rfl ?_
      refine Ask.T rfl ?_
      exact retE (enc := spec_NodesOk.enc) h rfl
    · refine Ask.F rfl ?_
      refine Ask.F rfl ?_
      refine Ask.F rfl ?_
      refine Ask.F rfl ?_
      refine Ask.F rfl ?_
      refine Ask.F rfl ?_
      refine Ask.F rfl ?_
      exact retE (enc := spec_NodesOk.enc) h rfl
def spec_l13Args.enc (r : List Int) : Res := ([(.own true 1 (r.map eI))], [])
def spec_l13Args.f  (K : Nat) (a0 : impl_Node) : Option (List Int) := jn (fun (v1 : Bool) => if v1 = true then ((spec_Kids.f K a0).bind fun y12 => (some y12)) else (jn (fun (v14 : Bool) => if v14 = true then (some ([a0.A] : List Int)) else (some ([] : List Int))) (fun j => if a0.Kind = 7 then (j true) else (j (decide (a0.Kind = 14)))))) (fun j => if a0.Kind = 4 then (j true) else (if a0.Kind = 8 then (j true) else (if a0.Kind = 9 then (j true) else (if a0.Kind = 13 then (j true) else (if a0.Kind = 17 then (j true) else (if a0.Kind = 10 then (j true) else (if a0.Kind = 11 then (j true) else (if a0.Kind = 15 then (j true) else (if a0.Kind = 16 then (j true) else (j (decide (a0.Kind = 18))))))))))))
theorem spec_l13Args.ev   {K : Nat} {a0 : impl_Node} {r : List Int} (h : spec_l13Args.f  K a0 = some r) : E 52 [(.agg (a0.e.map .d))] = some ([(.own true 1 (r.map eI))], []) := by
  refine Ev_intro (fn := Tryz.f52) rfl (by kernel_rfl) (c := _) rfl ⟨rfl, by simp⟩ rfl (evP_spec _ ?_)
  unfold spec_l13Args.f at h
  refine goS ?_
  refine seqJ h 25 (fun x => [(1, (.ptr 1 0 2 0)), (4, (.d (.p (.int .i64 a0.Kind)))), (5, (.d (.p (.bool x))))]) (fun x => [(1, 0, 2, (some (.box [(.d (.p (.int .i64 a0.Kind))), (.d (.p (.int .i64 a0.A))), (.d (.p (.int .i64 a0.B))), (.d (.p (.int .i64 a0.C))), (.d (.p (.int .i64 a0.N))), (.d (.p (.string a0.Name))), (.d (.p (.string a0.Other)))])))]) (fun J h => ?_) ?_
  · try ((with_reducible apply cdX); exact rfl)
    refine iteF h (fun c2 h => ?_) (fun c2 h => ?_)
    · exact ⟨true, h, ⟨rfl, ⟨rfl, rfl, rfl, trivial⟩, ⟨rfl, trivial⟩⟩⟩
    · try ((with_reducible apply cdX); exact rfl)
      refine iteF h (fun c3 h => ?_) (fun c3 h => ?_)
      · exact ⟨true, h, ⟨rfl, ⟨rfl, rfl, rfl, trivial⟩, ⟨rfl, trivial⟩⟩⟩
      · try ((with_reducible apply cdX); exact rfl)
        refine iteF h (fun c4 h => ?_) (fun c4 h => ?_)
        · exact ⟨true, h, ⟨rfl, ⟨rfl, rfl, rfl, trivial⟩, ⟨rfl, trivial⟩⟩⟩
        · try ((with_reducible apply cdX); exact rfl)
          refine iteF h (fun c5 h => ?_) (fun c5 h => ?_)
          · exact ⟨true, h, ⟨rfl, ⟨rfl, rfl, rfl, trivial⟩, ⟨rfl, trivial⟩⟩⟩
          · try ((with_reducible apply cdX); exact rfl)
            refine iteF h (fun c6 h => ?_) (fun c6 h => ?_)
            · exact ⟨true, h, ⟨rfl, ⟨rfl, rfl, rfl, trivial⟩, ⟨rfl, trivial⟩⟩⟩
            · try ((with_reducible apply cdX); exact rfl)
              refine iteF h (fun c7 h => ?_) (fun c7 h => ?_)
              · exact ⟨true, h, ⟨rfl, ⟨rfl, rfl, rfl, trivial⟩, ⟨rfl, trivial⟩⟩⟩
              · try ((with_reducible apply cdX); exact rfl)
                refine iteF h (fun c8 h => ?_) (fun c8 h => ?_)
                · exact ⟨true, h, ⟨rfl, ⟨rfl, rfl, rfl, trivial⟩, ⟨rfl, trivial⟩⟩⟩
                · try ((with_reducible apply cdX); exact rfl)
                  refine iteF h (fun c9 h => ?_) (fun c9 h => ?_)
                  · exact ⟨true, h, ⟨rfl, ⟨rfl, rfl, rfl, trivial⟩, ⟨rfl, trivial⟩⟩⟩
                  · try ((with_reducible apply cdX); exact rfl)
                    refine iteF h (fun c10 h => ?_) (fun c10 h => ?_)
                    · exact ⟨true, h, ⟨rfl, ⟨rfl, rfl, rfl, trivial⟩, ⟨rfl, trivial⟩⟩⟩
                    · exact ⟨(decide (a0.Kind = 18)), h, ⟨rfl, ⟨rfl, rfl, rfl, trivial⟩, ⟨rfl, trivial⟩⟩⟩
  · rintro v1 h e hp
    try ((with_reducible apply cdX); exact rfl)
    refine ifB h (fun c11 h => ?_) (fun c11 h => ?_)
    · refine bindG h fun y12 hy13 h => ?_
      refine exM ([(.own true 1 (y12.map eI))], []) ?_ ?_
      · exact spec_Kids.ev hy13
      exact retE (enc := spec_l13Args.enc) h rfl
    · refine seqJ h 25 (fun x => [(1, (.ptr 1 0 2 0)), (18, (.d (.p (.bool x))))]) (fun x => [(1, 0, 2, (some (.box [(.d (.p (.int .i64 a0.Kind))), (.d (.p (.int .i64 a0.A))), (.d (.p (.int .i64 a0.B))), (.d (.p (.int .i64 a0.C))), (.d (.p (.int .i64 a0.N))), (.d (.p (.string a0.Name))), (.d (.p (.string a0.Other)))])))]) (fun J h => ?_) ?_
      · try ((with_reducible apply cdX); exact rfl)
        refine iteF h (fun c15 h => ?_) (fun c15 h => ?_)
        · exact ⟨true, h, ⟨rfl, ⟨rfl, rfl, trivial⟩, ⟨rfl, trivial⟩⟩⟩
        · exact ⟨(decide (a0.Kind = 14)), h, ⟨rfl, ⟨rfl, rfl, trivial⟩, ⟨rfl, trivial⟩⟩⟩
      · rintro v14 h e hp
        try ((with_reducible apply cdX); exact rfl)
        refine ifB h (fun c16 h => ?_) (fun c16 h => ?_)
        · refine eqM (([a0.A] : List Int).map eI) rfl ?_
          exact retE (enc := spec_l13Args.enc) h rfl
        · refine eqM (([] : List Int).map eI) rfl ?_
          exact retE (enc := spec_l13Args.enc) h rfl
def spec_l4Has.enc (r : Bool) : Res := ([(.d (.p (.bool r)))], [])
def spec_l4Has.en (a0 : List Int) (a1 : Int) (r : Bool) (S : St) : Prop := endV tb md 53 Tryz.f53 [(.d (.l true 1 (a0.map eI))), (.d (.p (.int .i64 a1)))] .ret S = some (spec_l4Has.enc r)
def spec_l4Has.l0 (a0 : List Int) (a1 : Int) (K : Nat) : Nat → Int → Option (Bool ⊕ Unit)
  | 0, _ => none
  | k + 1, v1 => if v1 < (a0.length : Int) then ((at_ a0 v1).bind fun x3 => (if x3 = a1 then (some (.inl true)) else (spec_l4Has.l0 a0 a1 K k (w64 (v1 + 1))))) else (some (.inr ()))
def spec_l4Has.f  (K : Nat) (a0 : List Int) (a1 : Int) : Option (Bool) := jn (fun (_ : Unit) => some false) (fun j => lb (spec_l4Has.l0 a0 a1 K K 0) (fun r => some r) (fun (_ : Unit) => j ()))
theorem spec_l4Has.ev   {K : Nat} {a0 : List Int} {a1 : Int} {r : Bool} (h : spec_l4Has.f  K a0 a1 = some r) : E 53 [(.d (.l true 1 (a0.map eI))), (.d (.p (.int .i64 a1)))] = some ([(.d (.p (.bool r)))], []) := by
  refine Ev_intro (fn := Tryz.f53) rfl (by kernel_rfl) (c := _) rfl ⟨rfl, by simp⟩ rfl (evP_spec _ ?_)
  unfold spec_l4Has.f at h
  refine seqJ h 18 (fun x => []) (fun x => []) (fun J h => ?_) ?_
  · refine loopB (α := Int) (a := 0) 18 (fun x => [(0, (.d (.l true 1 (a0.map eI)))), (1, (.d (.p (.int .i64 a1)))), (5, (.d (.p (.int .i64 x))))]) (fun x => []) (fun k x => spec_l4Has.l0 a0 a1 K k x) (spec_l4Has.en a0 a1) 0 (fun x => []) (fun x => []) h (fun _ => rfl) ?_ ⟨rfl, ⟨rfl, rfl, rfl, trivial⟩, trivial⟩ ?_ ?_
    · rintro k v1 r h e hp
      replace h : spec_l4Has.l0 a0 a1 K (k + 1) v1 = some r := h
      unfold spec_l4Has.l0 at h
      refine goS ?_
      refine eqM ((a0.length : Int) : Int) (mLen rfl) ?_
      refine iteF h (fun c2 h => ?_) (fun c2 h => ?_)
      · refine goS ?_
        refine bindG h fun x3 hx3 h => ?_
        refine anM (at_ix rfl hx3) ?_
        refine exM (eI x3) (at_get rfl hx3) ?_
        refine iteF h (fun c4 h => ?_) (fun c4 h => ?_)
        · exact lqL h rfl
        · exact ⟨(w64 (v1 + 1)), h, ⟨rfl, ⟨rfl, rfl, rfl, trivial⟩, trivial⟩⟩
      · refine lqR h ?_
        exact ⟨rfl, trivial, trivial⟩
    · intro r' S' h q
      exact retE (enc := spec_l4Has.enc) h q
    · rintro _ S' h ⟨qn, ⟨_⟩, ⟨_⟩⟩
      exact ⟨(), h, ⟨qn, trivial, trivial⟩⟩
  · rintro _ h e hp
    exact retE (enc := spec_l4Has.enc) h rfl
def spec_IsAtom.enc (r : Bool) : Res := ([(.d (.p (.bool r)))], [])
def spec_IsAtom.f  (K : Nat) (a0 : impl_Node) : Option (Bool) := if a0.Kind = 1 then (some true) else (if a0.Kind = 2 then (some true) else (some (decide (a0.Kind = 12))))
theorem spec_IsAtom.ev   {K : Nat} {a0 : impl_Node} {r : Bool} (h : spec_IsAtom.f  K a0 = some r) : E 54 [(.agg (a0.e.map .d))] = some ([(.d (.p (.bool r)))], []) := by
  refine Ev_intro (fn := Tryz.f54) rfl (by kernel_rfl) (c := _) rfl ⟨rfl, by simp⟩ rfl (evP_spec _ ?_)
  unfold spec_IsAtom.f at h
  refine goS ?_
  try ((with_reducible apply cdX); exact rfl)
  refine iteF h (fun c1 h => ?_) (fun c1 h => ?_)
  · refine Ask.T rfl ?_
    refine Ask.T rfl ?_
    refine Ask.T rfl ?_
    refine Ask.T rfl ?_
    refine Ask.T rfl ?_
    refine Ask.T rfl ?_
    refine Ask.T rfl ?_
    exact retE (enc := spec_IsAtom.enc) h rfl
  · refine Ask.F rfl ?_
    refine Ask.F rfl ?_
    refine Ask.F rfl ?_
    refine iteF h (fun c2 h => ?_) (fun c2 h => ?_)
    · refine Ask.T rfl ?_
      refine Ask.T rfl ?_
      refine Ask.T rfl ?_
      exact retE (enc := spec_IsAtom.enc) h rfl
    · refine Ask.F rfl ?_
      refine Ask.F rfl ?_
      refine Ask.F rfl ?_
      exact retE (enc := spec_IsAtom.enc) h rfl
def spec_FreshName.enc (r : ByteArray) : Res := ([(.d (.p (.string r)))], [])
def spec_FreshName.l0 (K : Nat) : Nat → Int → ByteArray → Option (ByteArray)
  | 0, _, _ => none
  | k + 1, v5, v6 => if v5 > 0 then (gd ((strOfNums ([(IntKind.u8.wrap (w64 (97 + (Int.tmod v5 26))))] : List Int)).size + v6.size ≤ 9223372036854775807) (spec_FreshName.l0 K k (w64 (Int.tdiv v5 26)) ((strOfNums ([(IntKind.u8.wrap (w64 (97 + (Int.tmod v5 26))))] : List Int)) ++ v6))) else (some v6)
def spec_FreshName.f  (K : Nat) (a0 : Int) : Option (ByteArray) := (spec_l1In.f K a0 0 9999).bind fun y1 => (if (!y1) = true then (some (⟨#[]⟩ : ByteArray)) else (jn (fun (v4 : ByteArray) => gd ((⟨#[122, 113]⟩ : ByteArray).size + v4.size ≤ 9223372036854775807) (some ((⟨#[122, 113]⟩ : ByteArray) ++ v4))) (fun j => (spec_FreshName.l0 K K (w64 (Int.tdiv a0 26)) (strOfNums ([(IntKind.u8.wrap (w64 (97 + (Int.tmod a0 26))))] : List Int))).bind fun (v7 : ByteArray) => j v7)))
theorem spec_FreshName.ev   {K : Nat} {a0 : Int} {r : ByteArray} (h : spec_FreshName.f  K a0 = some r) : E 56 [(.d (.p (.int .i64 a0)))] = some ([(.d (.p (.string r)))], []) := by
  refine Ev_intro (fn := Tryz.f56) rfl (by kernel_rfl) (c := _) rfl ⟨rfl, by simp⟩ rfl (evP_spec _ ?_)
  unfold spec_FreshName.f at h
  refine goS ?_
  refine bindG h fun y1 hy2 h => ?_
  refine exM ([(.d (.p (.bool y1)))], []) ?_ ?_
  · exact spec_l1In.ev hy2
  refine ifB h (fun c3 h => ?_) (fun c3 h => ?_)
  · exact retE (enc := spec_FreshName.enc) h rfl
  · refine anM (by decide) ?_
    refine eqM (([(IntKind.u8.wrap (w64 (97 + (Int.tmod a0 26))))] : List Int).map eY) rfl ?_
    refine exM ([(IntKind.u8.wrap (w64 (97 + (Int.tmod a0 26))))] : List Int) (numsOf_map _) ?_
    refine seqJ h 29 (fun x => [(3, (.d (.p (.string x))))]) (fun x => []) (fun J h => ?_) ?_
    · refine anM (by decide) ?_
      refine loopX (α := Int × ByteArray) (a := ((w64 (Int.tdiv a0 26)), (strOfNums ([(IntKind.u8.wrap (w64 (97 + (Int.tmod a0 26))))] : List Int)))) 29 (fun x => [(0, (.d (.p (.int .i64 x.1)))), (3, (.d (.p (.string x.2))))]) (fun x => []) (fun k x => spec_FreshName.l0 K k x.1 x.2) 0 (fun x => [(3, (.d (.p (.string x))))]) (fun x => []) h (fun _ => rfl) ?_ ⟨rfl, ⟨rfl, rfl, trivial⟩, trivial⟩ ?_
      · rintro k ⟨v5, v6⟩ r h e hp
        replace h : spec_FreshName.l0 K (k + 1) v5 v6 = some r := h
        unfold spec_FreshName.l0 at h
        refine goS ?_
        try ((with_reducible apply cdX); exact rfl)
        refine iteF h (fun c8 h => ?_) (fun c8 h => ?_)
        · refine goS ?_
          refine anM (by decide) ?_
          refine eqM (([(IntKind.u8.wrap (w64 (97 + (Int.tmod v5 26))))] : List Int).map eY) rfl ?_
          refine exM ([(IntKind.u8.wrap (w64 (97 + (Int.tmod v5 26))))] : List Int) (numsOf_map _) ?_
          refine gdG h fun hc h => ?_
          refine anM hc ?_
          refine anM (by decide) ?_
          exact ⟨((w64 (Int.tdiv v5 26)), ((strOfNums ([(IntKind.u8.wrap (w64 (97 + (Int.tmod v5 26))))] : List Int)) ++ v6)), h, ⟨rfl, ⟨rfl, rfl, trivial⟩, trivial⟩⟩
        · refine exQ h ?_
          exact ⟨rfl, ⟨rfl, trivial⟩, trivial⟩
      · rintro v7 S' h ⟨qn, ⟨qa0, _⟩, ⟨_⟩⟩
        exact ⟨v7, h, ⟨qn, ⟨qa0, trivial⟩, trivial⟩⟩
    · rintro v4 h e hp
      refine gdG h fun hc h => ?_
      refine anM hc ?_
      exact retE (enc := spec_FreshName.enc) h rfl
def spec_l13Used.enc (r : Bool) : Res := ([(.d (.p (.bool r)))], [])
def spec_l13Used.en (a0 : List impl_Node) (a1 : ByteArray) (r : Bool) (S : St) : Prop := endV tb md 55 Tryz.f55 [(.d (.l true 7 (a0.map impl_Node.e))), (.d (.p (.string a1)))] .ret S = some (spec_l13Used.enc r)
def spec_l13Used.l0 (a0 : List impl_Node) (a1 : ByteArray) (K : Nat) : Nat → Int → Option (Bool ⊕ Unit)
  | 0, _ => none
  | k + 1, v1 => if v1 < (a0.length : Int) then (jn (fun (v3 : Bool) => if v3 = true then (some (.inl true)) else (spec_l13Used.l0 a0 a1 K k (w64 (v1 + 1)))) (fun j => (at_ a0 v1).bind fun x4 => (if (x4.Name.toList == a1.toList) = true then (j true) else (j (x4.Other.toList == a1.toList))))) else (some (.inr ()))
def spec_l13Used.f  (K : Nat) (a0 : List impl_Node) (a1 : ByteArray) : Option (Bool) := jn (fun (_ : Unit) => some false) (fun j => lb (spec_l13Used.l0 a0 a1 K K 0) (fun r => some r) (fun (_ : Unit) => j ()))
theorem spec_l13Used.ev   {K : Nat} {a0 : List impl_Node} {a1 : ByteArray} {r : Bool} (h : spec_l13Used.f  K a0 a1 = some r) : E 55 [(.d (.l true 7 (a0.map impl_Node.e))), (.d (.p (.string a1)))] = some ([(.d (.p (.bool r)))], []) := by
  refine Ev_intro (fn := Tryz.f55) rfl (by kernel_rfl) (c := _) rfl ⟨rfl, by simp⟩ rfl (evP_spec _ ?_)
  unfold spec_l13Used.f at h
  refine seqJ h 28 (fun x => []) (fun x => []) (fun J h => ?_) ?_
  · refine loopB (α := Int) (a := 0) 28 (fun x => [(0, (.d (.l true 7 (a0.map impl_Node.e)))), (1, (.d (.p (.string a1)))), (5, (.d (.p (.int .i64 x))))]) (fun x => []) (fun k x => spec_l13Used.l0 a0 a1 K k x) (spec_l13Used.en a0 a1) 0 (fun x => []) (fun x => []) h (fun _ => rfl) ?_ ⟨rfl, ⟨rfl, rfl, rfl, trivial⟩, trivial⟩ ?_ ?_
    · rintro k v1 r h e hp
      replace h : spec_l13Used.l0 a0 a1 K (k + 1) v1 = some r := h
      unfold spec_l13Used.l0 at h
      refine goS ?_
      refine eqM ((a0.length : Int) : Int) (mLen rfl) ?_
      refine iteF h (fun c2 h => ?_) (fun c2 h => ?_)
      · refine goS ?_
        refine seqJ h 28 (fun x => [(0, (.d (.l true 7 (a0.map impl_Node.e)))), (1, (.d (.p (.string a1)))), (5, (.d (.p (.int .i64 v1)))), (27, (.d (.p (.bool x))))]) (fun x => []) (fun J h => ?_) ?_
        · refine bindG h fun x4 hx4 h => ?_
          refine anM (at_ix rfl hx4) ?_
          refine exM (impl_Node.e x4) (at_get rfl hx4) ?_
          refine ifB h (fun c5 h => ?_) (fun c5 h => ?_)
          · refine Ask.T rfl ?_
            refine Ask.T rfl ?_
            refine Ask.T rfl ?_
            refine Ask.T rfl ?_
            refine Ask.T rfl ?_
            refine Ask.T rfl ?_
            refine Ask.T rfl ?_
            exact ⟨true, h, ⟨rfl, ⟨rfl, rfl, rfl, rfl, trivial⟩, trivial⟩⟩
          · refine Ask.F rfl ?_
            refine Ask.F rfl ?_
            refine anM (at_ix rfl hx4) ?_
            refine Ask.F rfl ?_
            refine Ask.F rfl ?_
            refine exM (impl_Node.e x4) (at_get rfl hx4) ?_
            refine Ask.F rfl ?_
            refine Ask.F rfl ?_
            refine Ask.F rfl ?_
            exact ⟨(x4.Other.toList == a1.toList), h, ⟨rfl, ⟨rfl, rfl, rfl, rfl, trivial⟩, trivial⟩⟩
        · rintro v3 h e hp
          try ((with_reducible apply cdX); exact rfl)
          refine ifB h (fun c6 h => ?_) (fun c6 h => ?_)
          · exact lqL h rfl
          · exact ⟨(w64 (v1 + 1)), h, ⟨rfl, ⟨rfl, rfl, rfl, trivial⟩, trivial⟩⟩
      · refine lqR h ?_
        exact ⟨rfl, trivial, trivial⟩
    · intro r' S' h q
      exact retE (enc := spec_l13Used.enc) h q
    · rintro _ S' h ⟨qn, ⟨_⟩, ⟨_⟩⟩
      exact ⟨(), h, ⟨qn, trivial, trivial⟩⟩
  · rintro _ h e hp
    exact retE (enc := spec_l13Used.enc) h rfl
def spec_l3Var.enc (r : List impl_Node) : Res := ([(.own true 7 (r.map impl_Node.e))], [])
def spec_l3Var.f  (K : Nat) (a0 : ByteArray) : Option (List impl_Node) := some ([(⟨1, 0, 0, 0, 0, a0, (⟨#[]⟩ : ByteArray)⟩ : impl_Node)] : List impl_Node)
theorem spec_l3Var.ev   {K : Nat} {a0 : ByteArray} {r : List impl_Node} (h : spec_l3Var.f  K a0 = some r) : E 57 [(.d (.p (.string a0)))] = some ([(.own true 7 (r.map impl_Node.e))], []) := by
  refine Ev_intro (fn := Tryz.f57) rfl (by kernel_rfl) (c := _) rfl ⟨rfl, by simp⟩ rfl (evP_spec _ ?_)
  unfold spec_l3Var.f at h
  refine eqM (([(⟨1, 0, 0, 0, 0, a0, (⟨#[]⟩ : ByteArray)⟩ : impl_Node)] : List impl_Node).map impl_Node.e) rfl ?_
  exact retE (enc := spec_l3Var.enc) h rfl
def spec_l3Shift.enc (r : List impl_Node) : Res := ([(.own true 7 (r.map impl_Node.e))], [])
def spec_l3Shift.l0 (a0 : List impl_Node) (a1 : Int) (K : Nat) : Nat → Int → (List impl_Node) → Option (List impl_Node)
  | 0, _, _ => none
  | k + 1, v2, v3 => if v2 < (a0.length : Int) then ((at_ a0 v2).bind fun x6 => ((spec_Arity.f K x6.Kind).bind fun y7 => (jn (fun (v9 : impl_Node) => jn (fun (v11 : impl_Node) => jn (fun (v13 : impl_Node) => gd ((v3.length + 1) * 72 ≤ 140737488355328) (spec_l3Shift.l0 a0 a1 K k (w64 (v2 + 1)) (v3 ++ ([v13] : List impl_Node)))) (fun j => if y7 > 2 then (j (⟨v11.Kind, v11.A, v11.B, (w64 (v11.C + a1)), v11.N, v11.Name, v11.Other⟩ : impl_Node)) else (j v11))) (fun j => if y7 > 1 then (j (⟨v9.Kind, v9.A, (w64 (v9.B + a1)), v9.C, v9.N, v9.Name, v9.Other⟩ : impl_Node)) else (j v9))) (fun j => if y7 > 0 then (j (⟨x6.Kind, (w64 (x6.A + a1)), x6.B, x6.C, x6.N, x6.Name, x6.Other⟩ : impl_Node)) else (j x6))))) else (some v3)
def spec_l3Shift.f  (K : Nat) (a0 : List impl_Node) (a1 : Int) : Option (List impl_Node) := jn (fun (v1 : List impl_Node) => some v1) (fun j => (spec_l3Shift.l0 a0 a1 K K 0 ([] : List impl_Node)).bind fun (v4 : List impl_Node) => j v4)
theorem spec_l3Shift.ev   {K : Nat} {a0 : List impl_Node} {a1 : Int} {r : List impl_Node} (h : spec_l3Shift.f  K a0 a1 = some r) : E 89 [(.d (.l true 7 (a0.map impl_Node.e))), (.d (.p (.int .i64 a1)))] = some ([(.own true 7 (r.map impl_Node.e))], []) := by
  refine Ev_intro (fn := Tryz.f89) rfl (by kernel_rfl) (c := _) rfl ⟨rfl, by simp⟩ rfl (evP_spec _ ?_)
  unfold spec_l3Shift.f at h
  refine eqM (([] : List impl_Node).map impl_Node.e) rfl ?_
  refine seqJ h 49 (fun x => [(5, (.own 5 1 2))]) (fun x => [(5, 1, 2, (some (.row true true 7 (x.map impl_Node.e))))]) (fun J h => ?_) ?_
  · refine loopX (α := Int × List impl_Node) (a := (0, ([] : List impl_Node))) 49 (fun x => [(0, (.d (.l true 7 (a0.map impl_Node.e)))), (1, (.d (.p (.int .i64 a1)))), (5, (.own 5 1 2)), (6, (.d (.p (.int .i64 x.1))))]) (fun x => [(5, 1, 2, (some (.row true true 7 (x.2.map impl_Node.e))))]) (fun k x => spec_l3Shift.l0 a0 a1 K k x.1 x.2) 0 (fun x => [(5, (.own 5 1 2))]) (fun x => [(5, 1, 2, (some (.row true true 7 (x.map impl_Node.e))))]) h (fun _ => rfl) ?_ ⟨rfl, ⟨rfl, rfl, rfl, rfl, trivial⟩, ⟨rfl, trivial⟩⟩ ?_
    · rintro k ⟨v2, v3⟩ r h e hp
      replace h : spec_l3Shift.l0 a0 a1 K (k + 1) v2 v3 = some r := h
      unfold spec_l3Shift.l0 at h
      refine goS ?_
      refine eqM ((a0.length : Int) : Int) (mLen rfl) ?_
      refine iteF h (fun c5 h => ?_) (fun c5 h => ?_)
      · refine goS ?_
        refine goS ?_
        refine bindG h fun x6 hx6 h => ?_
        refine anM (at_ix rfl hx6) ?_
        refine exM (impl_Node.e x6) (at_get rfl hx6) ?_
        refine bindG h fun y7 hy8 h => ?_
        refine exM ([(.d (.p (.int .i64 y7)))], []) ?_ ?_
        · exact spec_Arity.ev hy8
        refine seqJ h 49 (fun x => [(0, (.d (.l true 7 (a0.map impl_Node.e)))), (1, (.d (.p (.int .i64 a1)))), (5, (.own 5 1 2)), (6, (.d (.p (.int .i64 v2)))), (7, (.ptr 7 0 2 0)), (8, (.d (.p (.int .i64 y7))))]) (fun x => [(5, 1, 2, (some (.row true true 7 (v3.map impl_Node.e)))), (7, 0, 2, (some (.box [(.d (.p (.int .i64 x.Kind))), (.d (.p (.int .i64 x.A))), (.d (.p (.int .i64 x.B))), (.d (.p (.int .i64 x.C))), (.d (.p (.int .i64 x.N))), (.d (.p (.string x.Name))), (.d (.p (.string x.Other)))])))]) (fun J h => ?_) ?_
        · try ((with_reducible apply cdX); exact rfl)
          refine iteF h (fun c10 h => ?_) (fun c10 h => ?_)
          · exact ⟨(⟨x6.Kind, (w64 (x6.A + a1)), x6.B, x6.C, x6.N, x6.Name, x6.Other⟩ : impl_Node), h, ⟨rfl, ⟨rfl, rfl, rfl, rfl, rfl, rfl, trivial⟩, ⟨rfl, rfl, trivial⟩⟩⟩
          · exact ⟨x6, h, ⟨rfl, ⟨rfl, rfl, rfl, rfl, rfl, rfl, trivial⟩, ⟨rfl, rfl, trivial⟩⟩⟩
        · rintro v9 h e hp
          refine seqJ h 49 (fun x => [(0, (.d (.l true 7 (a0.map impl_Node.e)))), (1, (.d (.p (.int .i64 a1)))), (5, (.own 5 1 2)), (6, (.d (.p (.int .i64 v2)))), (7, (.ptr 7 0 2 0)), (8, (.d (.p (.int .i64 y7))))]) (fun x => [(5, 1, 2, (some (.row true true 7 (v3.map impl_Node.e)))), (7, 0, 2, (some (.box [(.d (.p (.int .i64 x.Kind))), (.d (.p (.int .i64 x.A))), (.d (.p (.int .i64 x.B))), (.d (.p (.int .i64 x.C))), (.d (.p (.int .i64 x.N))), (.d (.p (.string x.Name))), (.d (.p (.string x.Other)))])))]) (fun J h => ?_) ?_
          · try ((with_reducible apply cdX); exact rfl)
            refine iteF h (fun c12 h => ?_) (fun c12 h => ?_)
            · exact ⟨(⟨v9.Kind, v9.A, (w64 (v9.B + a1)), v9.C, v9.N, v9.Name, v9.Other⟩ : impl_Node), h, ⟨rfl, ⟨rfl, rfl, rfl, rfl, rfl, rfl, trivial⟩, ⟨rfl, rfl, trivial⟩⟩⟩
            · exact ⟨v9, h, ⟨rfl, ⟨rfl, rfl, rfl, rfl, rfl, rfl, trivial⟩, ⟨rfl, rfl, trivial⟩⟩⟩
          · rintro v11 h e hp
            refine seqJ h 49 (fun x => [(0, (.d (.l true 7 (a0.map impl_Node.e)))), (1, (.d (.p (.int .i64 a1)))), (5, (.own 5 1 2)), (6, (.d (.p (.int .i64 v2)))), (7, (.ptr 7 0 2 0))]) (fun x => [(5, 1, 2, (some (.row true true 7 (v3.map impl_Node.e)))), (7, 0, 2, (some (.box [(.d (.p (.int .i64 x.Kind))), (.d (.p (.int .i64 x.A))), (.d (.p (.int .i64 x.B))), (.d (.p (.int .i64 x.C))), (.d (.p (.int .i64 x.N))), (.d (.p (.string x.Name))), (.d (.p (.string x.Other)))])))]) (fun J h => ?_) ?_
            · try ((with_reducible apply cdX); exact rfl)
              refine iteF h (fun c14 h => ?_) (fun c14 h => ?_)
              · exact ⟨(⟨v11.Kind, v11.A, v11.B, (w64 (v11.C + a1)), v11.N, v11.Name, v11.Other⟩ : impl_Node), h, ⟨rfl, ⟨rfl, rfl, rfl, rfl, rfl, trivial⟩, ⟨rfl, rfl, trivial⟩⟩⟩
              · exact ⟨v11, h, ⟨rfl, ⟨rfl, rfl, rfl, rfl, rfl, trivial⟩, ⟨rfl, rfl, trivial⟩⟩⟩
            · rintro v13 h e hp
              refine eqM (([v13] : List impl_Node).map impl_Node.e) rfl ?_
              refine gdG h fun hc h => ?_
              refine anM (apB hc) ?_
              refine eqM ((v3 ++ ([v13] : List impl_Node)).map impl_Node.e) (mApp rfl rfl) ?_
              exact ⟨((w64 (v2 + 1)), (v3 ++ ([v13] : List impl_Node))), h, ⟨rfl, ⟨rfl, rfl, rfl, rfl, trivial⟩, ⟨rfl, trivial⟩⟩⟩
      · refine exQ h ?_
        exact ⟨rfl, ⟨rfl, trivial⟩, ⟨rfl, trivial⟩⟩
    · rintro v4 S' h ⟨qn, ⟨qa0, _⟩, ⟨qb0, _⟩⟩
      exact ⟨v4, h, ⟨qn, ⟨qa0, trivial⟩, ⟨qb0, trivial⟩⟩⟩
  · rintro v1 h e hp
    exact retE (enc := spec_l3Shift.enc) h rfl
def spec_l3Make.enc (r : List impl_Node) : Res := ([(.own true 7 (r.map impl_Node.e))], [])
def spec_l3Make.l0 (a1 : List (List impl_Node)) (K : Nat) : Nat → Int → impl_Node → (List impl_Node) → Option (impl_Node × List impl_Node)
  | 0, _, _, _ => none
  | k + 1, v3, v4, v5 => if v3 < (a1.length : Int) then (jn (fun (v9, v10) => spec_l3Make.l0 a1 K k (w64 (v3 + 1)) v9 v10) (fun j => (at_ a1 v3).bind fun x11 => ((spec_l3Shift.f K x11 (v5.length : Int)).bind fun y12 => (gd ((v5.length + y12.length) * 72 ≤ 140737488355328) (if v3 = 0 then (j ((⟨v4.Kind, (w64 (((v5 ++ y12).length : Int) - 1)), v4.B, v4.C, v4.N, v4.Name, v4.Other⟩ : impl_Node), (v5 ++ y12))) else (if v3 = 1 then (j ((⟨v4.Kind, v4.A, (w64 (((v5 ++ y12).length : Int) - 1)), v4.C, v4.N, v4.Name, v4.Other⟩ : impl_Node), (v5 ++ y12))) else (j ((⟨v4.Kind, v4.A, v4.B, (w64 (((v5 ++ y12).length : Int) - 1)), v4.N, v4.Name, v4.Other⟩ : impl_Node), (v5 ++ y12))))))))) else (some (v4, v5))
def spec_l3Make.f  (K : Nat) (a0 : impl_Node) (a1 : List (List impl_Node)) : Option (List impl_Node) := jn (fun (v1, v2) => gd ((v2.length + 1) * 72 ≤ 140737488355328) (some (v2 ++ ([v1] : List impl_Node)))) (fun j => (spec_l3Make.l0 a1 K K 0 a0 ([] : List impl_Node)).bind fun (v6, v7) => j (v6, v7))
theorem spec_l3Make.ev   {K : Nat} {a0 : impl_Node} {a1 : List (List impl_Node)} {r : List impl_Node} (h : spec_l3Make.f  K a0 a1 = some r) : E 58 [(.agg (a0.e.map .d)), (.d (.l false 1 (a1.map (eL true 7 impl_Node.e))))] = some ([(.own true 7 (r.map impl_Node.e))], []) := by
  refine Ev_intro (fn := Tryz.f58) rfl (by kernel_rfl) (c := _) rfl ⟨rfl, by simp⟩ rfl (evP_spec _ ?_)
  unfold spec_l3Make.f at h
  refine eqM (([] : List impl_Node).map impl_Node.e) rfl ?_
  refine seqJ h 44 (fun x => [(2, (.ptr 2 0 2 0)), (5, (.own 5 1 2))]) (fun x => [(2, 0, 2, (some (.box [(.d (.p (.int .i64 x.1.Kind))), (.d (.p (.int .i64 x.1.A))), (.d (.p (.int .i64 x.1.B))), (.d (.p (.int .i64 x.1.C))), (.d (.p (.int .i64 x.1.N))), (.d (.p (.string x.1.Name))), (.d (.p (.string x.1.Other)))]))), (5, 1, 2, (some (.row true true 7 (x.2.map impl_Node.e))))]) (fun J h => ?_) ?_
  · refine loopX (α := Int × impl_Node × List impl_Node) (a := (0, a0, ([] : List impl_Node))) 44 (fun x => [(1, (.d (.l false 1 (a1.map (eL true 7 impl_Node.e))))), (2, (.ptr 2 0 2 0)), (5, (.own 5 1 2)), (6, (.d (.p (.int .i64 x.1))))]) (fun x => [(2, 0, 2, (some (.box [(.d (.p (.int .i64 x.2.1.Kind))), (.d (.p (.int .i64 x.2.1.A))), (.d (.p (.int .i64 x.2.1.B))), (.d (.p (.int .i64 x.2.1.C))), (.d (.p (.int .i64 x.2.1.N))), (.d (.p (.string x.2.1.Name))), (.d (.p (.string x.2.1.Other)))]))), (5, 1, 2, (some (.row true true 7 (x.2.2.map impl_Node.e))))]) (fun k x => spec_l3Make.l0 a1 K k x.1 x.2.1 x.2.2) 0 (fun x => [(2, (.ptr 2 0 2 0)), (5, (.own 5 1 2))]) (fun x => [(2, 0, 2, (some (.box [(.d (.p (.int .i64 x.1.Kind))), (.d (.p (.int .i64 x.1.A))), (.d (.p (.int .i64 x.1.B))), (.d (.p (.int .i64 x.1.C))), (.d (.p (.int .i64 x.1.N))), (.d (.p (.string x.1.Name))), (.d (.p (.string x.1.Other)))]))), (5, 1, 2, (some (.row true true 7 (x.2.map impl_Node.e))))]) h (fun _ => rfl) ?_ ⟨rfl, ⟨rfl, rfl, rfl, rfl, trivial⟩, ⟨rfl, rfl, trivial⟩⟩ ?_
    · rintro k ⟨v3, v4, v5⟩ r h e hp
      replace h : spec_l3Make.l0 a1 K (k + 1) v3 v4 v5 = some r := h
      unfold spec_l3Make.l0 at h
      refine goS ?_
      refine eqM ((a1.length : Int) : Int) (mLen rfl) ?_
      refine iteF h (fun c8 h => ?_) (fun c8 h => ?_)
      · refine seqJ h 44 (fun x => [(1, (.d (.l false 1 (a1.map (eL true 7 impl_Node.e))))), (2, (.ptr 2 0 2 0)), (5, (.own 5 1 2)), (6, (.d (.p (.int .i64 v3))))]) (fun x => [(2, 0, 2, (some (.box [(.d (.p (.int .i64 x.1.Kind))), (.d (.p (.int .i64 x.1.A))), (.d (.p (.int .i64 x.1.B))), (.d (.p (.int .i64 x.1.C))), (.d (.p (.int .i64 x.1.N))), (.d (.p (.string x.1.Name))), (.d (.p (.string x.1.Other)))]))), (5, 1, 2, (some (.row true true 7 (x.2.map impl_Node.e))))]) (fun J h => ?_) ?_
        · refine bindG h fun x11 hx11 h => ?_
          refine anM (at_ix rfl hx11) ?_
          refine exM ((eL true 7 impl_Node.e) x11) (at_get rfl hx11) ?_
          refine eqM ((v5.length : Int) : Int) (mLen rfl) ?_
          refine bindG h fun y12 hy13 h => ?_
          refine exM ([(.own true 7 (y12.map impl_Node.e))], []) ?_ ?_
          · exact spec_l3Shift.ev hy13
          refine gdG h fun hc h => ?_
          refine anM (apB hc) ?_
          refine eqM ((v5 ++ y12).map impl_Node.e) (mApp rfl rfl) ?_
          refine iteF h (fun c14 h => ?_) (fun c14 h => ?_)
          · refine eqM (((v5 ++ y12).length : Int) : Int) (mLen rfl) ?_
            exact ⟨((⟨v4.Kind, (w64 (((v5 ++ y12).length : Int) - 1)), v4.B, v4.C, v4.N, v4.Name, v4.Other⟩ : impl_Node), (v5 ++ y12)), h, ⟨rfl, ⟨rfl, rfl, rfl, rfl, trivial⟩, ⟨rfl, rfl, trivial⟩⟩⟩
          · try ((with_reducible apply cdX); exact rfl)
            refine iteF h (fun c15 h => ?_) (fun c15 h => ?_)
            · refine eqM (((v5 ++ y12).length : Int) : Int) (mLen rfl) ?_
              exact ⟨((⟨v4.Kind, v4.A, (w64 (((v5 ++ y12).length : Int) - 1)), v4.C, v4.N, v4.Name, v4.Other⟩ : impl_Node), (v5 ++ y12)), h, ⟨rfl, ⟨rfl, rfl, rfl, rfl, trivial⟩, ⟨rfl, rfl, trivial⟩⟩⟩
            · refine eqM (((v5 ++ y12).length : Int) : Int) (mLen rfl) ?_
              exact ⟨((⟨v4.Kind, v4.A, v4.B, (w64 (((v5 ++ y12).length : Int) - 1)), v4.N, v4.Name, v4.Other⟩ : impl_Node), (v5 ++ y12)), h, ⟨rfl, ⟨rfl, rfl, rfl, rfl, trivial⟩, ⟨rfl, rfl, trivial⟩⟩⟩
        · rintro ⟨v9, v10⟩ h e hp
          exact ⟨((w64 (v3 + 1)), v9, v10), h, ⟨rfl, ⟨rfl, rfl, rfl, rfl, trivial⟩, ⟨rfl, rfl, trivial⟩⟩⟩
      · refine exQ h ?_
        exact ⟨rfl, ⟨rfl, rfl, trivial⟩, ⟨rfl, rfl, trivial⟩⟩
    · rintro ⟨v6, v7⟩ S' h ⟨qn, ⟨qa0, qa1, _⟩, ⟨qb0, qb1, _⟩⟩
      exact ⟨(v6, v7), h, ⟨qn, ⟨qa0, qa1, trivial⟩, ⟨qb0, qb1, trivial⟩⟩⟩
  · rintro ⟨v1, v2⟩ h e hp
    refine eqM (([v1] : List impl_Node).map impl_Node.e) rfl ?_
    refine gdG h fun hc h => ?_
    refine anM (apB hc) ?_
    refine eqM ((v2 ++ ([v1] : List impl_Node)).map impl_Node.e) (mApp rfl rfl) ?_
    exact retE (enc := spec_l3Make.enc) h rfl
def spec_l13Part.enc (r : List impl_Node × Int) : Res := ([(.own true 7 (r.1.map impl_Node.e)), (.d (.p (.int .i64 r.2)))], [])
def spec_l13Part.l1 (a0 : List impl_Node) (K : Nat) : Nat → Int → Option (Int)
  | 0, _ => none
  | k + 1, v40 => (spec_FreshName.f K v40).bind fun y42 => ((spec_l13Used.f K a0 y42).bind fun y44 => (if y44 = true then (spec_l13Part.l1 a0 K k (w64 (v40 + 1))) else (some v40)))
def spec_l13Part.l0 (r_spec_l13Part : (List impl_Node) → Int → Int → Option (List impl_Node × Int)) (a0 : List impl_Node) (y5 : List Int) (y7 : List Int) (K : Nat) : Nat → Int → Int → (List (List impl_Node)) → (List (List impl_Node)) → (List ByteArray) → Option (Int × List (List impl_Node) × List (List impl_Node) × List ByteArray)
  | 0, _, _, _, _, _ => none
  | k + 1, v13, v14, v15, v16, v17 => if v14 < (y7.length : Int) then ((at_ y7 v14).bind fun x23 => ((r_spec_l13Part a0 x23 v13).bind fun (y24, y25) => (jn (fun (v27, v28, v29, v30) => gd ((v15.length + 1) * 24 ≤ 140737488355328) (spec_l13Part.l0 r_spec_l13Part a0 y5 y7 K k v27 (w64 (v14 + 1)) (v15 ++ ([v30] : List (List impl_Node))) v28 v29)) (fun j => jn (fun (v31 : Bool) => if v31 = true then (jn (fun (v39 : Int) => gd ((v16.length + 1) * 24 ≤ 140737488355328) ((spec_FreshName.f K v39).bind fun y47 => (gd ((v17.length + 1) * 16 ≤ 140737488355328) ((spec_FreshName.f K v39).bind fun y49 => ((spec_l3Var.f K y49).bind fun y51 => (j ((w64 (v39 + 1)), (v16 ++ ([y24] : List (List impl_Node))), (v17 ++ ([y47] : List ByteArray)), y51))))))) (fun j => (spec_l13Part.l1 a0 K K y25).bind fun (v41 : Int) => j v41)) else (j (y25, v16, v17, y24))) (fun j => (spec_l4Has.f K y5 x23).bind fun y32 => (if y32 = true then ((at_ a0 x23).bind fun x35 => ((spec_IsAtom.f K x35).bind fun y36 => (j (!y36)))) else (j false))))))) else (some (v13, v15, v16, v17))
def spec_l13Part.l2 (v11 : List (List impl_Node)) (v12 : List ByteArray) (K : Nat) : Nat → Int → (List impl_Node) → Option (List impl_Node)
  | 0, _, _ => none
  | k + 1, v69, v70 => if v69 ≥ 0 then ((at_ v12 v69).bind fun x73 => ((at_ v11 v69).bind fun x74 => ((spec_l3Make.f K (⟨5, 0, 0, 0, 0, x73, (⟨#[]⟩ : ByteArray)⟩ : impl_Node) ([x74, v70] : List (List impl_Node))).bind fun y75 => (spec_l13Part.l2 v11 v12 K k (w64 (v69 - 1)) y75)))) else (some v70)
def spec_l13Part.b (r_spec_l13Part : (List impl_Node) → Int → Int → Option (List impl_Node × Int)) (K : Nat) (a0 : List impl_Node) (a1 : Int) (a2 : Int) : Option (List impl_Node × Int) := (at_ a0 a1).bind fun x1 => ((spec_Arity.f K x1.Kind).bind fun y2 => (if y2 = 0 then (some (([x1] : List impl_Node), a2)) else ((spec_l13Args.f K x1).bind fun y5 => ((spec_Kids.f K x1).bind fun y7 => (jn (fun (v9, v10, v11, v12) => jn (fun (v53 : List impl_Node) => jn (fun (v68 : List impl_Node) => some (v68, v9)) (fun j => (spec_l13Part.l2 v11 v12 K K (w64 ((v11.length : Int) - 1)) v53).bind fun (v71 : List impl_Node) => j v71)) (fun j => if (v10.length : Int) = 1 then ((at_ v10 0).bind fun x55 => ((spec_l3Make.f K (⟨x1.Kind, 0, 0, 0, x1.N, x1.Name, x1.Other⟩ : impl_Node) ([x55] : List (List impl_Node))).bind fun y56 => (j y56))) else (if (v10.length : Int) = 2 then ((at_ v10 0).bind fun x59 => ((at_ v10 1).bind fun x60 => ((spec_l3Make.f K (⟨x1.Kind, 0, 0, 0, x1.N, x1.Name, x1.Other⟩ : impl_Node) ([x59, x60] : List (List impl_Node))).bind fun y61 => (j y61)))) else ((at_ v10 0).bind fun x63 => ((at_ v10 1).bind fun x64 => ((at_ v10 2).bind fun x65 => ((spec_l3Make.f K (⟨x1.Kind, 0, 0, 0, x1.N, x1.Name, x1.Other⟩ : impl_Node) ([x63, x64, x65] : List (List impl_Node))).bind fun y66 => (j y66)))))))) (fun j => (spec_l13Part.l0 r_spec_l13Part a0 y5 y7 K K a2 0 ([] : List (List impl_Node)) ([] : List (List impl_Node)) ([] : List ByteArray)).bind fun (v18, v19, v20, v21) => j (v18, v19, v20, v21)))))))
theorem spec_l13Part.b_ev {r_spec_l13Part : (List impl_Node) → Int → Int → Option (List impl_Node × Int)} (hr_spec_l13Part : ∀ {a0 : List impl_Node} {a1 : Int} {a2 : Int} {r : List impl_Node × Int}, r_spec_l13Part a0 a1 a2 = some r → E 25 [(.d (.l true 7 (a0.map impl_Node.e))), (.d (.p (.int .i64 a1))), (.d (.p (.int .i64 a2)))] = some ([(.own true 7 (r.1.map impl_Node.e)), (.d (.p (.int .i64 r.2)))], [])) {K : Nat} {a0 : List impl_Node} {a1 : Int} {a2 : Int} {r : List impl_Node × Int} (h : spec_l13Part.b r_spec_l13Part K a0 a1 a2 = some r) : E 25 [(.d (.l true 7 (a0.map impl_Node.e))), (.d (.p (.int .i64 a1))), (.d (.p (.int .i64 a2)))] = some ([(.own true 7 (r.1.map impl_Node.e)), (.d (.p (.int .i64 r.2)))], []) := by
  refine Ev_intro (fn := Tryz.f25) rfl (by kernel_rfl) (c := _) rfl ⟨rfl, by simp⟩ rfl (evP_spec _ ?_)
  unfold spec_l13Part.b at h
  refine goS ?_
  refine bindG h fun x1 hx1 h => ?_
  refine anM (at_ix rfl hx1) ?_
  refine exM (impl_Node.e x1) (at_get rfl hx1) ?_
  refine goS ?_
  refine bindG h fun y2 hy3 h => ?_
  refine exM ([(.d (.p (.int .i64 y2)))], []) ?_ ?_
  · exact spec_Arity.ev hy3
  refine iteF h (fun c4 h => ?_) (fun c4 h => ?_)
  · refine eqM (([x1] : List impl_Node).map impl_Node.e) rfl ?_
    exact retE (enc := spec_l13Part.enc) h rfl
  · refine bindG h fun y5 hy6 h => ?_
    refine exM ([(.own true 1 (y5.map eI))], []) ?_ ?_
    · exact spec_l13Args.ev hy6
    refine eqM (([] : List (List impl_Node)).map (eL true 7 impl_Node.e)) rfl ?_
    refine eqM (([] : List (List impl_Node)).map (eL true 7 impl_Node.e)) rfl ?_
    refine eqM (([] : List ByteArray).map eS) rfl ?_
    refine bindG h fun y7 hy8 h => ?_
    refine exM ([(.own true 1 (y7.map eI))], []) ?_ ?_
    · exact spec_Kids.ev hy8
    refine seqJ h 153 (fun x => [(2, (.d (.p (.int .i64 x.1)))), (8, (.ptr 8 0 2 0)), (10, (.own 10 1 2)), (11, (.own 11 1 2)), (12, (.own 12 1 2))]) (fun x => [(8, 0, 2, (some (.box [(.d (.p (.int .i64 x1.Kind))), (.d (.p (.int .i64 x1.A))), (.d (.p (.int .i64 x1.B))), (.d (.p (.int .i64 x1.C))), (.d (.p (.int .i64 x1.N))), (.d (.p (.string x1.Name))), (.d (.p (.string x1.Other)))]))), (10, 1, 2, (some (.row true false 1 (x.2.1.map (eL true 7 impl_Node.e))))), (11, 1, 2, (some (.row true false 1 (x.2.2.1.map (eL true 7 impl_Node.e))))), (12, 1, 2, (some (.row true true 1 (x.2.2.2.map eS))))]) (fun J h => ?_) ?_
    · refine loopX (α := Int × Int × List (List impl_Node) × List (List impl_Node) × List ByteArray) (a := (a2, 0, ([] : List (List impl_Node)), ([] : List (List impl_Node)), ([] : List ByteArray))) 153 (fun x => [(0, (.d (.l true 7 (a0.map impl_Node.e)))), (2, (.d (.p (.int .i64 x.1)))), (8, (.ptr 8 0 2 0)), (9, (.own 9 1 2)), (10, (.own 10 1 2)), (11, (.own 11 1 2)), (12, (.own 12 1 2)), (13, (.own 13 1 2)), (14, (.d (.p (.int .i64 x.2.1))))]) (fun x => [(8, 0, 2, (some (.box [(.d (.p (.int .i64 x1.Kind))), (.d (.p (.int .i64 x1.A))), (.d (.p (.int .i64 x1.B))), (.d (.p (.int .i64 x1.C))), (.d (.p (.int .i64 x1.N))), (.d (.p (.string x1.Name))), (.d (.p (.string x1.Other)))]))), (9, 1, 2, (some (.row true true 1 (y5.map eI)))), (10, 1, 2, (some (.row true false 1 (x.2.2.1.map (eL true 7 impl_Node.e))))), (11, 1, 2, (some (.row true false 1 (x.2.2.2.1.map (eL true 7 impl_Node.e))))), (12, 1, 2, (some (.row true true 1 (x.2.2.2.2.map eS)))), (13, 1, 2, (some (.row true true 1 (y7.map eI))))]) (fun k x => spec_l13Part.l0 r_spec_l13Part a0 y5 y7 K k x.1 x.2.1 x.2.2.1 x.2.2.2.1 x.2.2.2.2) 0 (fun x => [(2, (.d (.p (.int .i64 x.1)))), (8, (.ptr 8 0 2 0)), (10, (.own 10 1 2)), (11, (.own 11 1 2)), (12, (.own 12 1 2))]) (fun x => [(8, 0, 2, (some (.box [(.d (.p (.int .i64 x1.Kind))), (.d (.p (.int .i64 x1.A))), (.d (.p (.int .i64 x1.B))), (.d (.p (.int .i64 x1.C))), (.d (.p (.int .i64 x1.N))), (.d (.p (.string x1.Name))), (.d (.p (.string x1.Other)))]))), (10, 1, 2, (some (.row true false 1 (x.2.1.map (eL true 7 impl_Node.e))))), (11, 1, 2, (some (.row true false 1 (x.2.2.1.map (eL true 7 impl_Node.e))))), (12, 1, 2, (some (.row true true 1 (x.2.2.2.map eS))))]) h (fun _ => rfl) ?_ ⟨rfl, ⟨rfl, rfl, rfl, rfl, rfl, rfl, rfl, rfl, rfl, trivial⟩, ⟨rfl, rfl, rfl, rfl, rfl, rfl, trivial⟩⟩ ?_
      · rintro k ⟨v13, v14, v15, v16, v17⟩ r h e hp
        replace h : spec_l13Part.l0 r_spec_l13Part a0 y5 y7 K (k + 1) v13 v14 v15 v16 v17 = some r := h
        unfold spec_l13Part.l0 at h
        refine goS ?_
        refine eqM ((y7.length : Int) : Int) (mLen rfl) ?_
        refine iteF h (fun c22 h => ?_) (fun c22 h => ?_)
        · refine goS ?_
          refine bindG h fun x23 hx23 h => ?_
          refine anM (at_ix rfl hx23) ?_
          refine exM (eI x23) (at_get rfl hx23) ?_
          refine bindG h ?_
          rintro ⟨y24, y25⟩ hy26 h
          refine exM ([(.own true 7 (y24.map impl_Node.e)), (.d (.p (.int .i64 y25)))], []) ?_ ?_
          · exact hr_spec_l13Part hy26
          refine seqJ h 153 (fun x => [(0, (.d (.l true 7 (a0.map impl_Node.e)))), (2, (.d (.p (.int .i64 x.1)))), (8, (.ptr 8 0 2 0)), (9, (.own 9 1 2)), (10, (.own 10 1 2)), (11, (.own 11 1 2)), (12, (.own 12 1 2)), (13, (.own 13 1 2)), (14, (.d (.p (.int .i64 v14)))), (15, (.own 15 1 2))]) (fun x => [(8, 0, 2, (some (.box [(.d (.p (.int .i64 x1.Kind))), (.d (.p (.int .i64 x1.A))), (.d (.p (.int .i64 x1.B))), (.d (.p (.int .i64 x1.C))), (.d (.p (.int .i64 x1.N))), (.d (.p (.string x1.Name))), (.d (.p (.string x1.Other)))]))), (9, 1, 2, (some (.row true true 1 (y5.map eI)))), (10, 1, 2, (some (.row true false 1 (v15.map (eL true 7 impl_Node.e))))), (11, 1, 2, (some (.row true false 1 (x.2.1.map (eL true 7 impl_Node.e))))), (12, 1, 2, (some (.row true true 1 (x.2.2.1.map eS)))), (13, 1, 2, (some (.row true true 1 (y7.map eI)))), (15, 1, 2, (some (.row true true 7 (x.2.2.2.map impl_Node.e))))]) (fun J h => ?_) ?_
          · refine seqJ h 153 (fun x => [(0, (.d (.l true 7 (a0.map impl_Node.e)))), (2, (.d (.p (.int .i64 y25)))), (8, (.ptr 8 0 2 0)), (9, (.own 9 1 2)), (10, (.own 10 1 2)), (11, (.own 11 1 2)), (12, (.own 12 1 2)), (13, (.own 13 1 2)), (14, (.d (.p (.int .i64 v14)))), (15, (.own 15 1 2)), (70, (.d (.p (.bool x))))]) (fun x => [(8, 0, 2, (some (.box [(.d (.p (.int .i64 x1.Kind))), (.d (.p (.int .i64 x1.A))), (.d (.p (.int .i64 x1.B))), (.d (.p (.int .i64 x1.C))), (.d (.p (.int .i64 x1.N))), (.d (.p (.string x1.Name))), (.d (.p (.string x1.Other)))]))), (9, 1, 2, (some (.row true true 1 (y5.map eI)))), (10, 1, 2, (some (.row true false 1 (v15.map (eL true 7 impl_Node.e))))), (11, 1, 2, (some (.row true false 1 (v16.map (eL true 7 impl_Node.e))))), (12, 1, 2, (some (.row true true 1 (v17.map eS)))), (13, 1, 2, (some (.row true true 1 (y7.map eI)))), (15, 1, 2, (some (.row true true 7 (y24.map impl_Node.e))))]) (fun J h => ?_) ?_
            · refine anM (at_ix rfl hx23) ?_
              refine exM (eI x23) (at_get rfl hx23) ?_
              refine bindG h fun y32 hy33 h => ?_
              refine exM ([(.d (.p (.bool y32)))], []) ?_ ?_
              · exact spec_l4Has.ev hy33
              refine ifB h (fun c34 h => ?_) (fun c34 h => ?_)
              · refine Ask.T rfl ?_
                refine Ask.T rfl ?_
                refine Ask.T rfl ?_
                refine anM (at_ix rfl hx23) ?_
                refine Ask.T rfl ?_
                refine exM (eI x23) (at_get rfl hx23) ?_
                refine Ask.T rfl ?_
                refine bindG h fun x35 hx35 h => ?_
                refine anM (at_ix rfl hx35) ?_
                refine Ask.T rfl ?_
                refine exM (impl_Node.e x35) (at_get rfl hx35) ?_
                refine Ask.T rfl ?_
                refine bindG h fun y36 hy37 h => ?_
                refine exM ([(.d (.p (.bool y36)))], []) ?_ ?_
                · exact spec_IsAtom.ev hy37
                refine Ask.T rfl ?_
                refine Ask.T rfl ?_
                exact ⟨(!y36), h, ⟨rfl, ⟨rfl, rfl, rfl, rfl, rfl, rfl, rfl, rfl, rfl, rfl, rfl, trivial⟩, ⟨rfl, rfl, rfl, rfl, rfl, rfl, rfl, trivial⟩⟩⟩
              · refine Ask.F rfl ?_
                refine Ask.F rfl ?_
                refine Ask.F rfl ?_
                refine Ask.F rfl ?_
                refine Ask.F rfl ?_
                refine Ask.F rfl ?_
                refine Ask.F rfl ?_
                refine Ask.F rfl ?_
                refine Ask.F rfl ?_
                exact ⟨false, h, ⟨rfl, ⟨rfl, rfl, rfl, rfl, rfl, rfl, rfl, rfl, rfl, rfl, rfl, trivial⟩, ⟨rfl, rfl, rfl, rfl, rfl, rfl, rfl, trivial⟩⟩⟩
            · rintro v31 h e hp
              try ((with_reducible apply cdX); exact rfl)
              refine ifB h (fun c38 h => ?_) (fun c38 h => ?_)
              · refine seqJ h 153 (fun x => [(0, (.d (.l true 7 (a0.map impl_Node.e)))), (2, (.d (.p (.int .i64 x)))), (8, (.ptr 8 0 2 0)), (9, (.own 9 1 2)), (10, (.own 10 1 2)), (11, (.own 11 1 2)), (12, (.own 12 1 2)), (13, (.own 13 1 2)), (14, (.d (.p (.int .i64 v14)))), (15, (.own 15 1 2))]) (fun x => [(8, 0, 2, (some (.box [(.d (.p (.int .i64 x1.Kind))), (.d (.p (.int .i64 x1.A))), (.d (.p (.int .i64 x1.B))), (.d (.p (.int .i64 x1.C))), (.d (.p (.int .i64 x1.N))), (.d (.p (.string x1.Name))), (.d (.p (.string x1.Other)))]))), (9, 1, 2, (some (.row true true 1 (y5.map eI)))), (10, 1, 2, (some (.row true false 1 (v15.map (eL true 7 impl_Node.e))))), (11, 1, 2, (some (.row true false 1 (v16.map (eL true 7 impl_Node.e))))), (12, 1, 2, (some (.row true true 1 (v17.map eS)))), (13, 1, 2, (some (.row true true 1 (y7.map eI)))), (15, 1, 2, (some (.row true true 7 (y24.map impl_Node.e))))]) (fun J h => ?_) ?_
                · refine loopX (α := Int) (a := y25) 153 (fun x => [(0, (.d (.l true 7 (a0.map impl_Node.e)))), (2, (.d (.p (.int .i64 x)))), (8, (.ptr 8 0 2 0)), (9, (.own 9 1 2)), (10, (.own 10 1 2)), (11, (.own 11 1 2)), (12, (.own 12 1 2)), (13, (.own 13 1 2)), (14, (.d (.p (.int .i64 v14)))), (15, (.own 15 1 2))]) (fun x => [(8, 0, 2, (some (.box [(.d (.p (.int .i64 x1.Kind))), (.d (.p (.int .i64 x1.A))), (.d (.p (.int .i64 x1.B))), (.d (.p (.int .i64 x1.C))), (.d (.p (.int .i64 x1.N))), (.d (.p (.string x1.Name))), (.d (.p (.string x1.Other)))]))), (9, 1, 2, (some (.row true true 1 (y5.map eI)))), (10, 1, 2, (some (.row true false 1 (v15.map (eL true 7 impl_Node.e))))), (11, 1, 2, (some (.row true false 1 (v16.map (eL true 7 impl_Node.e))))), (12, 1, 2, (some (.row true true 1 (v17.map eS)))), (13, 1, 2, (some (.row true true 1 (y7.map eI)))), (15, 1, 2, (some (.row true true 7 (y24.map impl_Node.e))))]) (fun k x => spec_l13Part.l1 a0 K k x) 2 (fun x => [(0, (.d (.l true 7 (a0.map impl_Node.e)))), (2, (.d (.p (.int .i64 x)))), (8, (.ptr 8 0 2 0)), (9, (.own 9 1 2)), (10, (.own 10 1 2)), (11, (.own 11 1 2)), (12, (.own 12 1 2)), (13, (.own 13 1 2)), (14, (.d (.p (.int .i64 v14)))), (15, (.own 15 1 2))]) (fun x => [(8, 0, 2, (some (.box [(.d (.p (.int .i64 x1.Kind))), (.d (.p (.int .i64 x1.A))), (.d (.p (.int .i64 x1.B))), (.d (.p (.int .i64 x1.C))), (.d (.p (.int .i64 x1.N))), (.d (.p (.string x1.Name))), (.d (.p (.string x1.Other)))]))), (9, 1, 2, (some (.row true true 1 (y5.map eI)))), (10, 1, 2, (some (.row true false 1 (v15.map (eL true 7 impl_Node.e))))), (11, 1, 2, (some (.row true false 1 (v16.map (eL true 7 impl_Node.e))))), (12, 1, 2, (some (.row true true 1 (v17.map eS)))), (13, 1, 2, (some (.row true true 1 (y7.map eI)))), (15, 1, 2, (some (.row true true 7 (y24.map impl_Node.e))))]) h (fun _ => rfl) ?_ ⟨rfl, ⟨rfl, rfl, rfl, rfl, rfl, rfl, rfl, rfl, rfl, rfl, trivial⟩, ⟨rfl, rfl, rfl, rfl, rfl, rfl, rfl, trivial⟩⟩ ?_
                  · rintro k v40 r h e hp
                    replace h : spec_l13Part.l1 a0 K (k + 1) v40 = some r := h
                    unfold spec_l13Part.l1 at h
                    refine goS ?_
                    refine bindG h fun y42 hy43 h => ?_
                    refine exM ([(.d (.p (.string y42)))], []) ?_ ?_
                    · exact spec_FreshName.ev hy43
                    refine bindG h fun y44 hy45 h => ?_
                    refine exM ([(.d (.p (.bool y44)))], []) ?_ ?_
                    · exact spec_l13Used.ev hy45
                    refine ifB h (fun c46 h => ?_) (fun c46 h => ?_)
                    · exact ⟨(w64 (v40 + 1)), h, ⟨rfl, ⟨rfl, rfl, rfl, rfl, rfl, rfl, rfl, rfl, rfl, rfl, trivial⟩, ⟨rfl, rfl, rfl, rfl, rfl, rfl, rfl, trivial⟩⟩⟩
                    · refine exQ h ?_
                      exact ⟨rfl, ⟨rfl, rfl, rfl, rfl, rfl, rfl, rfl, rfl, rfl, rfl, trivial⟩, ⟨rfl, rfl, rfl, rfl, rfl, rfl, rfl, trivial⟩⟩
                  · rintro v41 S' h ⟨qn, ⟨qa0, qa1, qa2, qa3, qa4, qa5, qa6, qa7, qa8, qa9, _⟩, ⟨qb0, qb1, qb2, qb3, qb4, qb5, qb6, _⟩⟩
                    exact ⟨v41, h, ⟨qn, ⟨qa0, qa1, qa2, qa3, qa4, qa5, qa6, qa7, qa8, qa9, trivial⟩, ⟨qb0, qb1, qb2, qb3, qb4, qb5, qb6, trivial⟩⟩⟩
                · rintro v39 h e hp
                  refine eqM (([y24] : List (List impl_Node)).map (eL true 7 impl_Node.e)) rfl ?_
                  refine gdG h fun hc h => ?_
                  refine anM (apB hc) ?_
                  refine eqM ((v16 ++ ([y24] : List (List impl_Node))).map (eL true 7 impl_Node.e)) (mApp rfl rfl) ?_
                  refine bindG h fun y47 hy48 h => ?_
                  refine exM ([(.d (.p (.string y47)))], []) ?_ ?_
                  · exact spec_FreshName.ev hy48
                  refine eqM (([y47] : List ByteArray).map eS) rfl ?_
                  refine gdG h fun hc h => ?_
                  refine anM (apB hc) ?_
                  refine eqM ((v17 ++ ([y47] : List ByteArray)).map eS) (mApp rfl rfl) ?_
                  refine bindG h fun y49 hy50 h => ?_
                  refine exM ([(.d (.p (.string y49)))], []) ?_ ?_
                  · exact spec_FreshName.ev hy50
                  refine bindG h fun y51 hy52 h => ?_
                  refine exM ([(.own true 7 (y51.map impl_Node.e))], []) ?_ ?_
                  · exact spec_l3Var.ev hy52
                  exact ⟨((w64 (v39 + 1)), (v16 ++ ([y24] : List (List impl_Node))), (v17 ++ ([y47] : List ByteArray)), y51), h, ⟨rfl, ⟨rfl, rfl, rfl, rfl, rfl, rfl, rfl, rfl, rfl, rfl, trivial⟩, ⟨rfl, rfl, rfl, rfl, rfl, rfl, rfl, trivial⟩⟩⟩
              · exact ⟨(y25, v16, v17, y24), h, ⟨rfl, ⟨rfl, rfl, rfl, rfl, rfl, rfl, rfl, rfl, rfl, rfl, trivial⟩, ⟨rfl, rfl, rfl, rfl, rfl, rfl, rfl, trivial⟩⟩⟩
          · rintro ⟨v27, v28, v29, v30⟩ h e hp
            refine eqM (([v30] : List (List impl_Node)).map (eL true 7 impl_Node.e)) rfl ?_
            refine gdG h fun hc h => ?_
            refine anM (apB hc) ?_
            refine eqM ((v15 ++ ([v30] : List (List impl_Node))).map (eL true 7 impl_Node.e)) (mApp rfl rfl) ?_
            exact ⟨(v27, (w64 (v14 + 1)), (v15 ++ ([v30] : List (List impl_Node))), v28, v29), h, ⟨rfl, ⟨rfl, rfl, rfl, rfl, rfl, rfl, rfl, rfl, rfl, trivial⟩, ⟨rfl, rfl, rfl, rfl, rfl, rfl, trivial⟩⟩⟩
        · refine exQ h ?_
          exact ⟨rfl, ⟨rfl, rfl, rfl, rfl, rfl, trivial⟩, ⟨rfl, rfl, rfl, rfl, trivial⟩⟩
      · rintro ⟨v18, v19, v20, v21⟩ S' h ⟨qn, ⟨qa0, qa1, qa2, qa3, qa4, _⟩, ⟨qb0, qb1, qb2, qb3, _⟩⟩
        exact ⟨(v18, v19, v20, v21), h, ⟨qn, ⟨qa0, qa1, qa2, qa3, qa4, trivial⟩, ⟨qb0, qb1, qb2, qb3, trivial⟩⟩⟩
    · rintro ⟨v9, v10, v11, v12⟩ h e hp
      refine goS ?_
      refine goS ?_
      refine goR ?_
      refine Re.mk 153 [(2, (.d (.p (.int .i64 v9)))), (8, (.ptr 8 0 2 0)), (10, (.own 10 1 2)), (11, (.own 11 1 2)), (12, (.own 12 1 2))] [(8, 0, 2, (some (.box [(.d (.p (.int .i64 x1.Kind))), (.d (.p (.int .i64 0))), (.d (.p (.int .i64 0))), (.d (.p (.int .i64 0))), (.d (.p (.int .i64 x1.N))), (.d (.p (.string x1.Name))), (.d (.p (.string x1.Other)))]))), (10, 1, 2, (some (.row true false 1 (v10.map (eL true 7 impl_Node.e))))), (11, 1, 2, (some (.row true false 1 (v11.map (eL true 7 impl_Node.e))))), (12, 1, 2, (some (.row true true 1 (v12.map eS))))] (by exact ⟨rfl, ⟨rfl, rfl, rfl, rfl, rfl, trivial⟩, ⟨rfl, rfl, rfl, rfl, trivial⟩⟩) ?_
      intro e hp
      refine eqM (([] : List impl_Node).map impl_Node.e) rfl ?_
      refine seqJ h 153 (fun x => [(2, (.d (.p (.int .i64 v9)))), (11, (.own 11 1 2)), (12, (.own 12 1 2)), (17, (.own 17 1 2))]) (fun x => [(11, 1, 2, (some (.row true false 1 (v11.map (eL true 7 impl_Node.e))))), (12, 1, 2, (some (.row true true 1 (v12.map eS)))), (17, 1, 2, (some (.row true true 7 (x.map impl_Node.e))))]) (fun J h => ?_) ?_
      · refine eqM ((v10.length : Int) : Int) (mLen rfl) ?_
        refine iteF h (fun c54 h => ?_) (fun c54 h => ?_)
        · refine ⟨[[117, 118, 119], [], [115], [115], [115], [], []], [], by kernel_rfl, ?_⟩
          refine bindG h fun x55 hx55 h => ?_
          refine anM (at_ix rfl hx55) ?_
          refine exM ((eL true 7 impl_Node.e) x55) (at_get rfl hx55) ?_
          refine eqM (([x55] : List (List impl_Node)).map (eL true 7 impl_Node.e)) rfl ?_
          refine bindG h fun y56 hy57 h => ?_
          refine exM ([(.own true 7 (y56.map impl_Node.e))], []) ?_ ?_
          · exact spec_l3Make.ev hy57
          exact ⟨y56, h, ⟨rfl, ⟨rfl, rfl, rfl, rfl, trivial⟩, ⟨rfl, rfl, rfl, trivial⟩⟩⟩
        · try ((with_reducible apply cdX); exact rfl)
          refine iteF h (fun c58 h => ?_) (fun c58 h => ?_)
          · refine ⟨[[125, 126, 128, 129, 130], [], [123, 128, 129], [123, 128, 129], [], [123, 125, 126], [123, 125, 126], [123], [], []], [], by kernel_rfl, ?_⟩
            refine bindG h fun x59 hx59 h => ?_
            refine anM (at_ix rfl hx59) ?_
            refine exM ((eL true 7 impl_Node.e) x59) (at_get rfl hx59) ?_
            refine bindG h fun x60 hx60 h => ?_
            refine anM (at_ix rfl hx60) ?_
            refine exM ((eL true 7 impl_Node.e) x60) (at_get rfl hx60) ?_
            refine eqM (([x59, x60] : List (List impl_Node)).map (eL true 7 impl_Node.e)) rfl ?_
            refine bindG h fun y61 hy62 h => ?_
            refine exM ([(.own true 7 (y61.map impl_Node.e))], []) ?_ ?_
            · exact spec_l3Make.ev hy62
            exact ⟨y61, h, ⟨rfl, ⟨rfl, rfl, rfl, rfl, trivial⟩, ⟨rfl, rfl, rfl, trivial⟩⟩⟩
          · refine ⟨[[103, 104, 106, 107, 109, 110, 111], [], [101, 106, 107, 109, 110], [101, 106, 107, 109, 110], [], [101, 103, 104, 109, 110], [101, 103, 104, 109, 110], [], [101, 103, 104, 106, 107], [101, 103, 104, 106, 107], [101], [], []], [], by kernel_rfl, ?_⟩
            refine bindG h fun x63 hx63 h => ?_
            refine anM (at_ix rfl hx63) ?_
            refine exM ((eL true 7 impl_Node.e) x63) (at_get rfl hx63) ?_
            refine bindG h fun x64 hx64 h => ?_
            refine anM (at_ix rfl hx64) ?_
            refine exM ((eL true 7 impl_Node.e) x64) (at_get rfl hx64) ?_
            refine bindG h fun x65 hx65 h => ?_
            refine anM (at_ix rfl hx65) ?_
            refine exM ((eL true 7 impl_Node.e) x65) (at_get rfl hx65) ?_
            refine eqM (([x63, x64, x65] : List (List impl_Node)).map (eL true 7 impl_Node.e)) rfl ?_
            refine bindG h fun y66 hy67 h => ?_
            refine exM ([(.own true 7 (y66.map impl_Node.e))], []) ?_ ?_
            · exact spec_l3Make.ev hy67
            exact ⟨y66, h, ⟨rfl, ⟨rfl, rfl, rfl, rfl, trivial⟩, ⟨rfl, rfl, rfl, trivial⟩⟩⟩
      · rintro v53 h e hp
        refine seqJ h 153 (fun x => [(2, (.d (.p (.int .i64 v9)))), (17, (.own 17 1 2))]) (fun x => [(17, 1, 2, (some (.row true true 7 (x.map impl_Node.e))))]) (fun J h => ?_) ?_
        · refine eqM ((v11.length : Int) : Int) (mLen rfl) ?_
          refine loopX (α := Int × List impl_Node) (a := ((w64 ((v11.length : Int) - 1)), v53)) 153 (fun x => [(2, (.d (.p (.int .i64 v9)))), (11, (.own 11 1 2)), (12, (.own 12 1 2)), (17, (.own 17 1 2)), (18, (.d (.p (.int .i64 x.1))))]) (fun x => [(11, 1, 2, (some (.row true false 1 (v11.map (eL true 7 impl_Node.e))))), (12, 1, 2, (some (.row true true 1 (v12.map eS)))), (17, 1, 2, (some (.row true true 7 (x.2.map impl_Node.e))))]) (fun k x => spec_l13Part.l2 v11 v12 K k x.1 x.2) 5 (fun x => [(2, (.d (.p (.int .i64 v9)))), (17, (.own 17 1 2))]) (fun x => [(17, 1, 2, (some (.row true true 7 (x.map impl_Node.e))))]) h (fun _ => rfl) ?_ ⟨rfl, ⟨rfl, rfl, rfl, rfl, rfl, trivial⟩, ⟨rfl, rfl, rfl, trivial⟩⟩ ?_
          · rintro k ⟨v69, v70⟩ r h e hp
            replace h : spec_l13Part.l2 v11 v12 K (k + 1) v69 v70 = some r := h
            unfold spec_l13Part.l2 at h
            refine goS ?_
            try ((with_reducible apply cdX); exact rfl)
            refine iteF h (fun c72 h => ?_) (fun c72 h => ?_)
            · refine goS ?_
              refine ⟨[[], [], [146, 147, 149], [146, 147, 149], [], [], [], [141, 142], [141, 142], [], [141, 142], [], []], [], by kernel_rfl, ?_⟩
              refine bindG h fun x73 hx73 h => ?_
              refine anM (at_ix rfl hx73) ?_
              refine exM (eS x73) (at_get rfl hx73) ?_
              refine bindG h fun x74 hx74 h => ?_
              refine anM (at_ix rfl hx74) ?_
              refine exM ((eL true 7 impl_Node.e) x74) (at_get rfl hx74) ?_
              refine eqM (([x74, v70] : List (List impl_Node)).map (eL true 7 impl_Node.e)) rfl ?_
              refine bindG h fun y75 hy76 h => ?_
              refine exM ([(.own true 7 (y75.map impl_Node.e))], []) ?_ ?_
              · exact spec_l3Make.ev hy76
              exact ⟨((w64 (v69 - 1)), y75), h, ⟨rfl, ⟨rfl, rfl, rfl, rfl, rfl, trivial⟩, ⟨rfl, rfl, rfl, trivial⟩⟩⟩
            · refine exQ h ?_
              exact ⟨rfl, ⟨rfl, rfl, trivial⟩, ⟨rfl, trivial⟩⟩
          · rintro v71 S' h ⟨qn, ⟨qa0, qa1, _⟩, ⟨qb0, _⟩⟩
            exact ⟨v71, h, ⟨qn, ⟨qa0, qa1, trivial⟩, ⟨qb0, trivial⟩⟩⟩
        · rintro v68 h e hp
          exact retE (enc := spec_l13Part.enc) h rfl
def spec_l13Part.r (K : Nat) : Nat → (List impl_Node) → Int → Int → Option (List impl_Node × Int)
  | 0, _, _, _ => none
  | d + 1, a0, a1, a2 => spec_l13Part.b (spec_l13Part.r K d) K a0 a1 a2
theorem spec_l13Part.r_ev {K : Nat} : ∀ (d : Nat) {a0 : List impl_Node} {a1 : Int} {a2 : Int} {r : List impl_Node × Int}, spec_l13Part.r K d a0 a1 a2 = some r → E 25 [(.d (.l true 7 (a0.map impl_Node.e))), (.d (.p (.int .i64 a1))), (.d (.p (.int .i64 a2)))] = some ([(.own true 7 (r.1.map impl_Node.e)), (.d (.p (.int .i64 r.2)))], []) := by
  intro d
  induction d with
  | zero => intro a0 a1 a2 r h; cases h
  | succ d ih => intro a0 a1 a2 r h; exact spec_l13Part.b_ev ih h
def spec_l13Part.f (K : Nat) (a0 : List impl_Node) (a1 : Int) (a2 : Int) : Option (List impl_Node × Int) := spec_l13Part.r K K a0 a1 a2
theorem spec_l13Part.ev {K : Nat} {a0 : List impl_Node} {a1 : Int} {a2 : Int} {r : List impl_Node × Int} (h : spec_l13Part.f K a0 a1 a2 = some r) : E 25 [(.d (.l true 7 (a0.map impl_Node.e))), (.d (.p (.int .i64 a1))), (.d (.p (.int .i64 a2)))] = some ([(.own true 7 (r.1.map impl_Node.e)), (.d (.p (.int .i64 r.2)))], []) := spec_l13Part.r_ev K h
def spec_ParentOf.enc (r : Int) : Res := ([(.d (.p (.int .i64 r)))], [])
def spec_ParentOf.en (a0 : List impl_Node) (a1 : Int) (r : Int) (S : St) : Prop := endV tb md 106 Tryz.f106 [(.d (.l true 7 (a0.map impl_Node.e))), (.d (.p (.int .i64 a1)))] .ret S = some (spec_ParentOf.enc r)
def spec_ParentOf.l0 (a0 : List impl_Node) (a1 : Int) (K : Nat) : Nat → Int → Option (Int ⊕ Unit)
  | 0, _ => none
  | k + 1, v4 => if v4 < (a0.length : Int) then ((at_ a0 v4).bind fun x6 => ((spec_Kids.f K x6).bind fun y7 => ((spec_l4Has.f K y7 a1).bind fun y9 => (if y9 = true then (some (.inl v4)) else (spec_ParentOf.l0 a0 a1 K k (w64 (v4 + 1))))))) else (some (.inr ()))
def spec_ParentOf.f  (K : Nat) (a0 : List impl_Node) (a1 : Int) : Option (Int) := (spec_NodesOk.f K a0).bind fun y1 => (if (!y1) = true then (some (-1)) else (jn (fun (_ : Unit) => some (-1)) (fun j => lb (spec_ParentOf.l0 a0 a1 K K 0) (fun r => some r) (fun (_ : Unit) => j ()))))
theorem spec_ParentOf.ev   {K : Nat} {a0 : List impl_Node} {a1 : Int} {r : Int} (h : spec_ParentOf.f  K a0 a1 = some r) : E 106 [(.d (.l true 7 (a0.map impl_Node.e))), (.d (.p (.int .i64 a1)))] = some ([(.d (.p (.int .i64 r)))], []) := by
  refine Ev_intro (fn := Tryz.f106) rfl (by kernel_rfl) (c := _) rfl ⟨rfl, by simp⟩ rfl (evP_spec _ ?_)
  unfold spec_ParentOf.f at h
  refine goS ?_
  refine bindG h fun y1 hy2 h => ?_
  refine exM ([(.d (.p (.bool y1)))], []) ?_ ?_
  · exact spec_NodesOk.ev hy2
  refine ifB h (fun c3 h => ?_) (fun c3 h => ?_)
  · exact retE (enc := spec_ParentOf.enc) h rfl
  · refine seqJ h 23 (fun x => []) (fun x => []) (fun J h => ?_) ?_
    · refine loopB (α := Int) (a := 0) 23 (fun x => [(0, (.d (.l true 7 (a0.map impl_Node.e)))), (1, (.d (.p (.int .i64 a1)))), (5, (.d (.p (.int .i64 x))))]) (fun x => []) (fun k x => spec_ParentOf.l0 a0 a1 K k x) (spec_ParentOf.en a0 a1) 0 (fun x => []) (fun x => []) h (fun _ => rfl) ?_ ⟨rfl, ⟨rfl, rfl, rfl, trivial⟩, trivial⟩ ?_ ?_
      · rintro k v4 r h e hp
        replace h : spec_ParentOf.l0 a0 a1 K (k + 1) v4 = some r := h
        unfold spec_ParentOf.l0 at h
        refine goS ?_
        refine eqM ((a0.length : Int) : Int) (mLen rfl) ?_
        refine iteF h (fun c5 h => ?_) (fun c5 h => ?_)
        · refine goS ?_
          refine bindG h fun x6 hx6 h => ?_
          refine anM (at_ix rfl hx6) ?_
          refine exM (impl_Node.e x6) (at_get rfl hx6) ?_
          refine bindG h fun y7 hy8 h => ?_
          refine exM ([(.own true 1 (y7.map eI))], []) ?_ ?_
          · exact spec_Kids.ev hy8
          refine bindG h fun y9 hy10 h => ?_
          refine exM ([(.d (.p (.bool y9)))], []) ?_ ?_
          · exact spec_l4Has.ev hy10
          refine ifB h (fun c11 h => ?_) (fun c11 h => ?_)
          · exact lqL h rfl
          · exact ⟨(w64 (v4 + 1)), h, ⟨rfl, ⟨rfl, rfl, rfl, trivial⟩, trivial⟩⟩
        · refine lqR h ?_
          exact ⟨rfl, trivial, trivial⟩
      · intro r' S' h q
        exact retE (enc := spec_ParentOf.enc) h q
      · rintro _ S' h ⟨qn, ⟨_⟩, ⟨_⟩⟩
        exact ⟨(), h, ⟨qn, trivial, trivial⟩⟩
    · rintro _ h e hp
      exact retE (enc := spec_ParentOf.enc) h rfl
def spec_l6Bound.enc (r : List ByteArray × List Int) : Res := ([(.own true 1 (r.1.map eS)), (.own true 1 (r.2.map eI))], [])
def spec_l6Bound.f  (K : Nat) (a0 : impl_Node) (a1 : Int) : Option (List ByteArray × List Int) := jn (fun (_ : Unit) => some (([] : List ByteArray), ([] : List Int))) (fun j => if a0.Kind = 3 then (some (([a0.Name] : List ByteArray), ([0] : List Int))) else (jn (fun (v2 : Bool) => if v2 = true then (if a1 = a0.B then (some (([a0.Name] : List ByteArray), ([0] : List Int))) else (j ())) else (if a0.Kind = 6 then (if a1 = a0.A then (some (([a0.Other, a0.Name] : List ByteArray), ([1, 0] : List Int))) else (some (([a0.Name] : List ByteArray), ([0] : List Int)))) else (if a0.Kind = 14 then (if a1 = a0.C then (some (([a0.Other, a0.Name] : List ByteArray), ([1, 0] : List Int))) else (j ())) else (j ())))) (fun j => if a0.Kind = 5 then (j true) else (j (decide (a0.Kind = 19))))))
theorem spec_l6Bound.ev   {K : Nat} {a0 : impl_Node} {a1 : Int} {r : List ByteArray × List Int} (h : spec_l6Bound.f  K a0 a1 = some r) : E 107 [(.agg (a0.e.map .d)), (.d (.p (.int .i64 a1)))] = some ([(.own true 1 (r.1.map eS)), (.own true 1 (r.2.map eI))], []) := by
  refine Ev_intro (fn := Tryz.f107) rfl (by kernel_rfl) (c := _) rfl ⟨rfl, by simp⟩ rfl (evP_spec _ ?_)
  unfold spec_l6Bound.f at h
  refine seqJ h 55 (fun x => []) (fun x => []) (fun J h => ?_) ?_
  · try ((with_reducible apply cdX); exact rfl)
    refine iteF h (fun c1 h => ?_) (fun c1 h => ?_)
    · refine eqM (([a0.Name] : List ByteArray).map eS) rfl ?_
      refine eqM (([0] : List Int).map eI) rfl ?_
      exact retE (enc := spec_l6Bound.enc) h rfl
    · refine seqJ h 55 (fun x => [(1, (.d (.p (.int .i64 a1)))), (2, (.ptr 2 0 2 0)), (7, (.d (.p (.int .i64 a0.Kind)))), (14, (.d (.p (.bool x))))]) (fun x => [(2, 0, 2, (some (.box [(.d (.p (.int .i64 a0.Kind))), (.d (.p (.int .i64 a0.A))), (.d (.p (.int .i64 a0.B))), (.d (.p (.int .i64 a0.C))), (.d (.p (.int .i64 a0.N))), (.d (.p (.string a0.Name))), (.d (.p (.string a0.Other)))])))]) (fun J h => ?_) ?_
      · try ((with_reducible apply cdX); exact rfl)
        refine iteF h (fun c3 h => ?_) (fun c3 h => ?_)
        · exact ⟨true, h, ⟨rfl, ⟨rfl, rfl, rfl, rfl, trivial⟩, ⟨rfl, trivial⟩⟩⟩
        · exact ⟨(decide (a0.Kind = 19)), h, ⟨rfl, ⟨rfl, rfl, rfl, rfl, trivial⟩, ⟨rfl, trivial⟩⟩⟩
      · rintro v2 h e hp
        try ((with_reducible apply cdX); exact rfl)
        refine ifB h (fun c4 h => ?_) (fun c4 h => ?_)
        · try ((with_reducible apply cdX); exact rfl)
          refine iteF h (fun c5 h => ?_) (fun c5 h => ?_)
          · refine eqM (([a0.Name] : List ByteArray).map eS) rfl ?_
            refine eqM (([0] : List Int).map eI) rfl ?_
            exact retE (enc := spec_l6Bound.enc) h rfl
          · exact ⟨(), h, ⟨rfl, trivial, trivial⟩⟩
        · try ((with_reducible apply cdX); exact rfl)
          refine iteF h (fun c6 h => ?_) (fun c6 h => ?_)
          · refine goS ?_
            try ((with_reducible apply cdX); exact rfl)
            refine iteF h (fun c7 h => ?_) (fun c7 h => ?_)
            · refine eqM (([a0.Other, a0.Name] : List ByteArray).map eS) rfl ?_
              refine eqM (([1, 0] : List Int).map eI) rfl ?_
              exact retE (enc := spec_l6Bound.enc) h rfl
            · refine eqM (([a0.Name] : List ByteArray).map eS) rfl ?_
              refine eqM (([0] : List Int).map eI) rfl ?_
              exact retE (enc := spec_l6Bound.enc) h rfl
          · try ((with_reducible apply cdX); exact rfl)
            refine iteF h (fun c8 h => ?_) (fun c8 h => ?_)
            · try ((with_reducible apply cdX); exact rfl)
              refine iteF h (fun c9 h => ?_) (fun c9 h => ?_)
              · refine eqM (([a0.Other, a0.Name] : List ByteArray).map eS) rfl ?_
                refine eqM (([1, 0] : List Int).map eI) rfl ?_
                exact retE (enc := spec_l6Bound.enc) h rfl
              · exact ⟨(), h, ⟨rfl, trivial, trivial⟩⟩
            · exact ⟨(), h, ⟨rfl, trivial, trivial⟩⟩
  · rintro _ h e hp
    refine eqM (([] : List ByteArray).map eS) rfl ?_
    refine eqM (([] : List Int).map eI) rfl ?_
    exact retE (enc := spec_l6Bound.enc) h rfl
def spec_BinderOf.enc (r : impl_Bind) : Res := ([(.agg (r.e.map .d))], [])
def spec_BinderOf.en (a0 : List impl_Node) (a1 : Int) (r : impl_Bind) (S : St) : Prop := endV tb md 90 Tryz.f90 [(.d (.l true 7 (a0.map impl_Node.e))), (.d (.p (.int .i64 a1)))] .ret S = some (spec_BinderOf.enc r)
def spec_BinderOf.l1 (a0 : List impl_Node) (a1 : Int) (v13 : Int) (y16 : List ByteArray) (y17 : List Int) (K : Nat) : Nat → Int → Option (impl_Bind ⊕ Unit)
  | 0, _ => none
  | k + 1, v19 => if v19 < (y16.length : Int) then ((at_ y16 v19).bind fun x21 => ((at_ a0 a1).bind fun x22 => (if (x21.toList == x22.Name.toList) = true then ((at_ y17 v19).bind fun x24 => (some (.inl (⟨v13, x24⟩ : impl_Bind)))) else (spec_BinderOf.l1 a0 a1 v13 y16 y17 K k (w64 (v19 + 1)))))) else (some (.inr ()))
def spec_BinderOf.l0 (a0 : List impl_Node) (a1 : Int) (K : Nat) : Nat → Int → Int → Option (impl_Bind ⊕ Unit)
  | 0, _, _ => none
  | k + 1, v12, v13 => if v13 ≥ 0 then ((at_ a0 v13).bind fun x15 => ((spec_l6Bound.f K x15 v12).bind fun (y16, y17) => (jn (fun (_ : Unit) => (spec_ParentOf.f K a0 v13).bind fun y25 => (spec_BinderOf.l0 a0 a1 K k v13 y25)) (fun j => lb (spec_BinderOf.l1 a0 a1 v13 y16 y17 K K 0) (fun r => some (.inl r)) (fun (_ : Unit) => j ()))))) else (some (.inr ()))
def spec_BinderOf.f  (K : Nat) (a0 : List impl_Node) (a1 : Int) : Option (impl_Bind) := jn (fun (v1 : Bool) => if v1 = true then (some (⟨(-1), (-1)⟩ : impl_Bind)) else (jn (fun (_ : Unit) => some (⟨(-1), (-1)⟩ : impl_Bind)) (fun j => (spec_ParentOf.f K a0 a1).bind fun y10 => (lb (spec_BinderOf.l0 a0 a1 K K a1 y10) (fun r => some r) (fun (_ : Unit) => j ()))))) (fun j => (spec_NodesOk.f K a0).bind fun y2 => (if (!y2) = true then (j true) else ((spec_l1In.f K a1 0 (w64 ((a0.length : Int) - 1))).bind fun y5 => (if (!y5) = true then (j true) else ((at_ a0 a1).bind fun x8 => (j (!(decide (x8.Kind = 1)))))))))
theorem spec_BinderOf.ev   {K : Nat} {a0 : List impl_Node} {a1 : Int} {r : impl_Bind} (h : spec_BinderOf.f  K a0 a1 = some r) : E 90 [(.d (.l true 7 (a0.map impl_Node.e))), (.d (.p (.int .i64 a1)))] = some ([(.agg (r.e.map .d))], []) := by
  refine Ev_intro (fn := Tryz.f90) rfl (by kernel_rfl) (c := _) rfl ⟨rfl, by simp⟩ rfl (evP_spec _ ?_)
  unfold spec_BinderOf.f at h
  refine goS ?_
  refine goS ?_
  refine seqJ h 74 (fun x => [(0, (.d (.l true 7 (a0.map impl_Node.e)))), (1, (.d (.p (.int .i64 a1)))), (4, (.ptr 4 0 2 0)), (5, (.ptr 5 0 2 0)), (30, (.d (.p (.bool x))))]) (fun x => [(4, 0, 2, (some (.box [(.d (.p (.int .i64 0))), (.d (.p (.int .i64 0)))]))), (5, 0, 2, (some (.box [(.d (.p (.int .i64 (-1)))), (.d (.p (.int .i64 (-1))))])))]) (fun J h => ?_) ?_
  · refine bindG h fun y2 hy3 h => ?_
    refine exM ([(.d (.p (.bool y2)))], []) ?_ ?_
    · exact spec_NodesOk.ev hy3
    refine ifB h (fun c4 h => ?_) (fun c4 h => ?_)
    · refine Ask.T rfl ?_
      refine Ask.T rfl ?_
      refine Ask.T rfl ?_
      refine Ask.T rfl ?_
      refine Ask.T rfl ?_
      refine Ask.T rfl ?_
      refine Ask.T rfl ?_
      refine Ask.T rfl ?_
      refine Ask.T rfl ?_
      refine Ask.T rfl ?_
      refine Ask.T rfl ?_
      refine Ask.T rfl ?_
      refine Ask.T rfl ?_
      exact ⟨true, h, ⟨rfl, ⟨rfl, rfl, rfl, rfl, rfl, trivial⟩, ⟨rfl, rfl, trivial⟩⟩⟩
    · refine Ask.F rfl ?_
      refine Ask.F rfl ?_
      refine eqM ((a0.length : Int) : Int) (mLen rfl) ?_
      refine Ask.F rfl ?_
      refine Ask.F rfl ?_
      refine bindG h fun y5 hy6 h => ?_
      refine exM ([(.d (.p (.bool y5)))], []) ?_ ?_
      · exact spec_l1In.ev hy6
      refine Ask.F rfl ?_
      refine Ask.F rfl ?_
      refine ifB h (fun c7 h => ?_) (fun c7 h => ?_)
      · refine Ask.T rfl ?_
        refine Ask.T rfl ?_
        refine Ask.T rfl ?_
        refine Ask.T rfl ?_
        refine Ask.T rfl ?_
        refine Ask.T rfl ?_
        exact ⟨true, h, ⟨rfl, ⟨rfl, rfl, rfl, rfl, rfl, trivial⟩, ⟨rfl, rfl, trivial⟩⟩⟩
      · refine Ask.F rfl ?_
        refine Ask.F rfl ?_
        refine bindG h fun x8 hx8 h => ?_
        refine anM (at_ix rfl hx8) ?_
        refine Ask.F rfl ?_
        refine Ask.F rfl ?_
        refine exM (impl_Node.e x8) (at_get rfl hx8) ?_
        refine Ask.F rfl ?_
        refine Ask.F rfl ?_
        exact ⟨(!(decide (x8.Kind = 1))), h, ⟨rfl, ⟨rfl, rfl, rfl, rfl, rfl, trivial⟩, ⟨rfl, rfl, trivial⟩⟩⟩
  · rintro v1 h e hp
    try ((with_reducible apply cdX); exact rfl)
    refine ifB h (fun c9 h => ?_) (fun c9 h => ?_)
    · refine goS ?_
      exact retE (enc := spec_BinderOf.enc) h rfl
    · refine seqJ h 74 (fun x => [(4, (.ptr 4 0 2 0)), (5, (.ptr 5 0 2 0))]) (fun x => [(4, 0, 2, (some (.box [(.d (.p (.int .i64 0))), (.d (.p (.int .i64 0)))]))), (5, 0, 2, (some (.box [(.d (.p (.int .i64 (-1)))), (.d (.p (.int .i64 (-1))))])))]) (fun J h => ?_) ?_
      · refine bindG h fun y10 hy11 h => ?_
        refine exM ([(.d (.p (.int .i64 y10)))], []) ?_ ?_
        · exact spec_ParentOf.ev hy11
        refine loopB (α := Int × Int) (a := (a1, y10)) 74 (fun x => [(0, (.d (.l true 7 (a0.map impl_Node.e)))), (1, (.d (.p (.int .i64 a1)))), (4, (.ptr 4 0 2 0)), (5, (.ptr 5 0 2 0)), (6, (.d (.p (.int .i64 x.1)))), (7, (.d (.p (.int .i64 x.2))))]) (fun x => [(4, 0, 2, (some (.box [(.d (.p (.int .i64 0))), (.d (.p (.int .i64 0)))]))), (5, 0, 2, (some (.box [(.d (.p (.int .i64 (-1)))), (.d (.p (.int .i64 (-1))))])))]) (fun k x => spec_BinderOf.l0 a0 a1 K k x.1 x.2) (spec_BinderOf.en a0 a1) 0 (fun x => [(4, (.ptr 4 0 2 0)), (5, (.ptr 5 0 2 0))]) (fun x => [(4, 0, 2, (some (.box [(.d (.p (.int .i64 0))), (.d (.p (.int .i64 0)))]))), (5, 0, 2, (some (.box [(.d (.p (.int .i64 (-1)))), (.d (.p (.int .i64 (-1))))])))]) h (fun _ => rfl) ?_ ⟨rfl, ⟨rfl, rfl, rfl, rfl, rfl, rfl, trivial⟩, ⟨rfl, rfl, trivial⟩⟩ ?_ ?_
        · rintro k ⟨v12, v13⟩ r h e hp
          replace h : spec_BinderOf.l0 a0 a1 K (k + 1) v12 v13 = some r := h
          unfold spec_BinderOf.l0 at h
          refine goS ?_
          try ((with_reducible apply cdX); exact rfl)
          refine iteF h (fun c14 h => ?_) (fun c14 h => ?_)
          · refine goS ?_
            refine bindG h fun x15 hx15 h => ?_
            refine anM (at_ix rfl hx15) ?_
            refine exM (impl_Node.e x15) (at_get rfl hx15) ?_
            refine bindG h ?_
            rintro ⟨y16, y17⟩ hy18 h
            refine exM ([(.own true 1 (y16.map eS)), (.own true 1 (y17.map eI))], []) ?_ ?_
            · exact spec_l6Bound.ev hy18
            refine seqJ h 74 (fun x => [(0, (.d (.l true 7 (a0.map impl_Node.e)))), (1, (.d (.p (.int .i64 a1)))), (4, (.ptr 4 0 2 0)), (5, (.ptr 5 0 2 0)), (7, (.d (.p (.int .i64 v13))))]) (fun x => [(4, 0, 2, (some (.box [(.d (.p (.int .i64 0))), (.d (.p (.int .i64 0)))]))), (5, 0, 2, (some (.box [(.d (.p (.int .i64 (-1)))), (.d (.p (.int .i64 (-1))))])))]) (fun J h => ?_) ?_
            · refine loopB (α := Int) (a := 0) 74 (fun x => [(0, (.d (.l true 7 (a0.map impl_Node.e)))), (1, (.d (.p (.int .i64 a1)))), (4, (.ptr 4 0 2 0)), (5, (.ptr 5 0 2 0)), (7, (.d (.p (.int .i64 v13)))), (8, (.own 8 1 2)), (9, (.own 9 1 2)), (10, (.d (.p (.int .i64 x))))]) (fun x => [(4, 0, 2, (some (.box [(.d (.p (.int .i64 0))), (.d (.p (.int .i64 0)))]))), (5, 0, 2, (some (.box [(.d (.p (.int .i64 (-1)))), (.d (.p (.int .i64 (-1))))]))), (8, 1, 2, (some (.row true true 1 (y16.map eS)))), (9, 1, 2, (some (.row true true 1 (y17.map eI))))]) (fun k x => spec_BinderOf.l1 a0 a1 v13 y16 y17 K k x) (spec_BinderOf.en a0 a1) 2 (fun x => [(0, (.d (.l true 7 (a0.map impl_Node.e)))), (1, (.d (.p (.int .i64 a1)))), (4, (.ptr 4 0 2 0)), (5, (.ptr 5 0 2 0)), (7, (.d (.p (.int .i64 v13))))]) (fun x => [(4, 0, 2, (some (.box [(.d (.p (.int .i64 0))), (.d (.p (.int .i64 0)))]))), (5, 0, 2, (some (.box [(.d (.p (.int .i64 (-1)))), (.d (.p (.int .i64 (-1))))])))]) h (fun _ => rfl) ?_ ⟨rfl, ⟨rfl, rfl, rfl, rfl, rfl, rfl, rfl, rfl, trivial⟩, ⟨rfl, rfl, rfl, rfl, trivial⟩⟩ ?_ ?_
              · rintro k v19 r h e hp
                replace h : spec_BinderOf.l1 a0 a1 v13 y16 y17 K (k + 1) v19 = some r := h
                unfold spec_BinderOf.l1 at h
                refine goS ?_
                refine eqM ((y16.length : Int) : Int) (mLen rfl) ?_
                refine iteF h (fun c20 h => ?_) (fun c20 h => ?_)
                · refine goS ?_
                  refine ⟨[[], [], [62, 63, 64], [62, 63, 64], [], [], [58, 59], [58, 59], [58, 59], []], [], by kernel_rfl, ?_⟩
                  refine bindG h fun x21 hx21 h => ?_
                  refine anM (at_ix rfl hx21) ?_
                  refine exM (eS x21) (at_get rfl hx21) ?_
                  refine bindG h fun x22 hx22 h => ?_
                  refine anM (at_ix rfl hx22) ?_
                  refine exM (impl_Node.e x22) (at_get rfl hx22) ?_
                  refine ifB h (fun c23 h => ?_) (fun c23 h => ?_)
                  · refine goS ?_
                    refine bindG h fun x24 hx24 h => ?_
                    refine anM (at_ix rfl hx24) ?_
                    refine exM (eI x24) (at_get rfl hx24) ?_
                    exact lqL h rfl
                  · exact ⟨(w64 (v19 + 1)), h, ⟨rfl, ⟨rfl, rfl, rfl, rfl, rfl, rfl, rfl, rfl, trivial⟩, ⟨rfl, rfl, rfl, rfl, trivial⟩⟩⟩
                · refine lqR h ?_
                  exact ⟨rfl, ⟨rfl, rfl, rfl, rfl, rfl, trivial⟩, ⟨rfl, rfl, trivial⟩⟩
              · intro r' S' h q
                exact lqL h q
              · rintro _ S' h ⟨qn, ⟨qa0, qa1, qa2, qa3, qa4, _⟩, ⟨qb0, qb1, _⟩⟩
                exact ⟨(), h, ⟨qn, ⟨qa0, qa1, qa2, qa3, qa4, trivial⟩, ⟨qb0, qb1, trivial⟩⟩⟩
            · rintro _ h e hp
              refine bindG h fun y25 hy26 h => ?_
              refine exM ([(.d (.p (.int .i64 y25)))], []) ?_ ?_
              · exact spec_ParentOf.ev hy26
              exact ⟨(v13, y25), h, ⟨rfl, ⟨rfl, rfl, rfl, rfl, rfl, rfl, trivial⟩, ⟨rfl, rfl, trivial⟩⟩⟩
          · refine lqR h ?_
            exact ⟨rfl, ⟨rfl, rfl, trivial⟩, ⟨rfl, rfl, trivial⟩⟩
        · intro r' S' h q
          exact retE (enc := spec_BinderOf.enc) h q
        · rintro _ S' h ⟨qn, ⟨qa0, qa1, _⟩, ⟨qb0, qb1, _⟩⟩
          exact ⟨(), h, ⟨qn, ⟨qa0, qa1, trivial⟩, ⟨qb0, qb1, trivial⟩⟩⟩
      · rintro _ h e hp
        refine goS ?_
        exact retE (enc := spec_BinderOf.enc) h rfl
def spec_l6Sort.enc (r : List ByteArray) : Res := ([(.d (.l true 1 (r.map eS)))], [])
def spec_l6Sort.en (a0 : List ByteArray) (a1 : ByteArray) (r : List ByteArray) (S : St) : Prop := endV tb md 91 Tryz.f91 [(.d (.l true 1 (a0.map eS))), (.d (.p (.string a1)))] .ret S = some (spec_l6Sort.enc r)
def spec_l6Sort.l0 (a0 : List ByteArray) (a1 : ByteArray) (K : Nat) : Nat → Bool → Int → (List ByteArray) → Option ((List ByteArray) ⊕ (Bool × List ByteArray))
  | 0, _, _, _ => none
  | k + 1, v3, v4, v5 => if v4 < (a0.length : Int) then ((at_ a0 v4).bind fun x9 => (if (x9.toList == a1.toList) = true then (some (.inl a0)) else (jn (fun (v11, v12) => gd ((v12.length + 1) * 16 ≤ 140737488355328) (spec_l6Sort.l0 a0 a1 K k v11 (w64 (v4 + 1)) (v12 ++ ([x9] : List ByteArray)))) (fun j => jn (fun (v13 : Bool) => if v13 = true then (gd ((v5.length + 1) * 16 ≤ 140737488355328) (j (true, (v5 ++ ([a1] : List ByteArray))))) else (j (v3, v5))) (fun j => if (!v3) = true then (j (!(Op.bytesLess x9.toList a1.toList || x9.toList == a1.toList))) else (j false)))))) else (some (.inr (v3, v5)))
def spec_l6Sort.f  (K : Nat) (a0 : List ByteArray) (a1 : ByteArray) : Option (List ByteArray) := jn (fun (v1, v2) => jn (fun (v16 : List ByteArray) => some v16) (fun j => if (!v1) = true then (gd ((v2.length + 1) * 16 ≤ 140737488355328) (j (v2 ++ ([a1] : List ByteArray)))) else (j v2))) (fun j => lb (spec_l6Sort.l0 a0 a1 K K false 0 ([] : List ByteArray)) (fun r => some r) (fun (v6, v7) => j (v6, v7)))
theorem spec_l6Sort.ev   {K : Nat} {a0 : List ByteArray} {a1 : ByteArray} {r : List ByteArray} (h : spec_l6Sort.f  K a0 a1 = some r) : E 91 [(.d (.l true 1 (a0.map eS))), (.d (.p (.string a1)))] = some ([(.d (.l true 1 (r.map eS)))], []) := by
  refine Ev_intro (fn := Tryz.f91) rfl (by kernel_rfl) (c := _) rfl ⟨rfl, by simp⟩ rfl (evP_spec _ ?_)
  unfold spec_l6Sort.f at h
  refine eqM (([] : List ByteArray).map eS) rfl ?_
  refine seqJ h 50 (fun x => [(1, (.d (.p (.string a1)))), (5, (.own 5 1 2)), (6, (.d (.p (.bool x.1))))]) (fun x => [(5, 1, 2, (some (.row true true 1 (x.2.map eS))))]) (fun J h => ?_) ?_
  · refine loopB (α := Bool × Int × List ByteArray) (a := (false, 0, ([] : List ByteArray))) 50 (fun x => [(0, (.d (.l true 1 (a0.map eS)))), (1, (.d (.p (.string a1)))), (5, (.own 5 1 2)), (6, (.d (.p (.bool x.1)))), (7, (.d (.p (.int .i64 x.2.1))))]) (fun x => [(5, 1, 2, (some (.row true true 1 (x.2.2.map eS))))]) (fun k x => spec_l6Sort.l0 a0 a1 K k x.1 x.2.1 x.2.2) (spec_l6Sort.en a0 a1) 0 (fun x => [(1, (.d (.p (.string a1)))), (5, (.own 5 1 2)), (6, (.d (.p (.bool x.1))))]) (fun x => [(5, 1, 2, (some (.row true true 1 (x.2.map eS))))]) h (fun _ => rfl) ?_ ⟨rfl, ⟨rfl, rfl, rfl, rfl, rfl, trivial⟩, ⟨rfl, trivial⟩⟩ ?_ ?_
    · rintro k ⟨v3, v4, v5⟩ r h e hp
      replace h : spec_l6Sort.l0 a0 a1 K (k + 1) v3 v4 v5 = some r := h
      unfold spec_l6Sort.l0 at h
      refine goS ?_
      refine eqM ((a0.length : Int) : Int) (mLen rfl) ?_
      refine iteF h (fun c8 h => ?_) (fun c8 h => ?_)
      · refine goS ?_
        refine goS ?_
        refine bindG h fun x9 hx9 h => ?_
        refine anM (at_ix rfl hx9) ?_
        refine exM (eS x9) (at_get rfl hx9) ?_
        refine ifB h (fun c10 h => ?_) (fun c10 h => ?_)
        · exact lqL h rfl
        · refine seqJ h 50 (fun x => [(0, (.d (.l true 1 (a0.map eS)))), (1, (.d (.p (.string a1)))), (5, (.own 5 1 2)), (6, (.d (.p (.bool x.1)))), (7, (.d (.p (.int .i64 v4))))]) (fun x => [(5, 1, 2, (some (.row true true 1 (x.2.map eS))))]) (fun J h => ?_) ?_
          · refine seqJ h 50 (fun x => [(0, (.d (.l true 1 (a0.map eS)))), (1, (.d (.p (.string a1)))), (5, (.own 5 1 2)), (6, (.d (.p (.bool v3)))), (7, (.d (.p (.int .i64 v4)))), (31, (.d (.p (.bool x))))]) (fun x => [(5, 1, 2, (some (.row true true 1 (v5.map eS))))]) (fun J h => ?_) ?_
            · try ((with_reducible apply cdX); exact rfl)
              refine ifB h (fun c14 h => ?_) (fun c14 h => ?_)
              · refine Ask.T rfl ?_
                refine Ask.T rfl ?_
                refine anM (at_ix rfl hx9) ?_
                refine Ask.T rfl ?_
                refine exM (eS x9) (at_get rfl hx9) ?_
                refine Ask.T rfl ?_
                refine Ask.T rfl ?_
                refine Ask.T rfl ?_
                exact ⟨(!(Op.bytesLess x9.toList a1.toList || x9.toList == a1.toList)), h, ⟨rfl, ⟨rfl, rfl, rfl, rfl, rfl, rfl, trivial⟩, ⟨rfl, trivial⟩⟩⟩
              · refine Ask.F rfl ?_
                refine Ask.F rfl ?_
                refine Ask.F rfl ?_
                refine Ask.F rfl ?_
                refine Ask.F rfl ?_
                refine Ask.F rfl ?_
                exact ⟨false, h, ⟨rfl, ⟨rfl, rfl, rfl, rfl, rfl, rfl, trivial⟩, ⟨rfl, trivial⟩⟩⟩
            · rintro v13 h e hp
              try ((with_reducible apply cdX); exact rfl)
              refine ifB h (fun c15 h => ?_) (fun c15 h => ?_)
              · refine eqM (([a1] : List ByteArray).map eS) rfl ?_
                refine gdG h fun hc h => ?_
                refine anM (apB hc) ?_
                refine eqM ((v5 ++ ([a1] : List ByteArray)).map eS) (mApp rfl rfl) ?_
                exact ⟨(true, (v5 ++ ([a1] : List ByteArray))), h, ⟨rfl, ⟨rfl, rfl, rfl, rfl, rfl, trivial⟩, ⟨rfl, trivial⟩⟩⟩
              · exact ⟨(v3, v5), h, ⟨rfl, ⟨rfl, rfl, rfl, rfl, rfl, trivial⟩, ⟨rfl, trivial⟩⟩⟩
          · rintro ⟨v11, v12⟩ h e hp
            refine anM (at_ix rfl hx9) ?_
            refine exM (eS x9) (at_get rfl hx9) ?_
            refine eqM (([x9] : List ByteArray).map eS) rfl ?_
            refine gdG h fun hc h => ?_
            refine anM (apB hc) ?_
            refine eqM ((v12 ++ ([x9] : List ByteArray)).map eS) (mApp rfl rfl) ?_
            exact ⟨(v11, (w64 (v4 + 1)), (v12 ++ ([x9] : List ByteArray))), h, ⟨rfl, ⟨rfl, rfl, rfl, rfl, rfl, trivial⟩, ⟨rfl, trivial⟩⟩⟩
      · refine lqR h ?_
        exact ⟨rfl, ⟨rfl, rfl, rfl, trivial⟩, ⟨rfl, trivial⟩⟩
    · intro r' S' h q
      exact retE (enc := spec_l6Sort.enc) h q
    · rintro ⟨v6, v7⟩ S' h ⟨qn, ⟨qa0, qa1, qa2, _⟩, ⟨qb0, _⟩⟩
      exact ⟨(v6, v7), h, ⟨qn, ⟨qa0, qa1, qa2, trivial⟩, ⟨qb0, trivial⟩⟩⟩
  · rintro ⟨v1, v2⟩ h e hp
    refine seqJ h 50 (fun x => [(5, (.own 5 1 2))]) (fun x => [(5, 1, 2, (some (.row true true 1 (x.map eS))))]) (fun J h => ?_) ?_
    · try ((with_reducible apply cdX); exact rfl)
      refine ifB h (fun c17 h => ?_) (fun c17 h => ?_)
      · refine eqM (([a1] : List ByteArray).map eS) rfl ?_
        refine gdG h fun hc h => ?_
        refine anM (apB hc) ?_
        refine eqM ((v2 ++ ([a1] : List ByteArray)).map eS) (mApp rfl rfl) ?_
        exact ⟨(v2 ++ ([a1] : List ByteArray)), h, ⟨rfl, ⟨rfl, trivial⟩, ⟨rfl, trivial⟩⟩⟩
      · exact ⟨v2, h, ⟨rfl, ⟨rfl, trivial⟩, ⟨rfl, trivial⟩⟩⟩
    · rintro v16 h e hp
      exact retE (enc := spec_l6Sort.enc) h rfl
def spec_FreeNames.enc (r : List ByteArray) : Res := ([(.d (.l true 1 (r.map eS)))], [])
def spec_FreeNames.l0 (a0 : List impl_Node) (K : Nat) : Nat → (List ByteArray) → Int → Option (List ByteArray)
  | 0, _, _ => none
  | k + 1, v2, v3 => jn (fun (v5 : Bool) => if v5 = true then (jn (fun (v10 : List ByteArray) => spec_FreeNames.l0 a0 K k v10 (w64 (v3 + 1))) (fun j => jn (fun (v11 : Bool) => if v11 = true then ((at_ a0 v3).bind fun x17 => ((spec_l6Sort.f K v2 x17.Name).bind fun y18 => (j y18))) else (j v2)) (fun j => (at_ a0 v3).bind fun x12 => (if x12.Kind = 1 then ((spec_BinderOf.f K a0 v3).bind fun y14 => (j (decide (y14.Node < 0)))) else (j false))))) else (some v2)) (fun j => if v3 < (a0.length : Int) then ((spec_NodesOk.f K a0).bind fun y7 => (j y7)) else (j false))
def spec_FreeNames.f  (K : Nat) (a0 : List impl_Node) : Option (List ByteArray) := jn (fun (v1 : List ByteArray) => some v1) (fun j => (spec_FreeNames.l0 a0 K K ([] : List ByteArray) 0).bind fun (v4 : List ByteArray) => j v4)
theorem spec_FreeNames.ev   {K : Nat} {a0 : List impl_Node} {r : List ByteArray} (h : spec_FreeNames.f  K a0 = some r) : E 59 [(.d (.l true 7 (a0.map impl_Node.e)))] = some ([(.d (.l true 1 (r.map eS)))], []) := by
  refine Ev_intro (fn := Tryz.f59) rfl (by kernel_rfl) (c := _) rfl ⟨rfl, by simp⟩ rfl (evP_spec _ ?_)
  unfold spec_FreeNames.f at h
  refine eqM (([] : List ByteArray).map eS) rfl ?_
  refine seqJ h 37 (fun x => [(3, (.d (.l true 1 (x.map eS))))]) (fun x => []) (fun J h => ?_) ?_
  · refine loopX (α := List ByteArray × Int) (a := (([] : List ByteArray), 0)) 37 (fun x => [(0, (.d (.l true 7 (a0.map impl_Node.e)))), (3, (.d (.l true 1 (x.1.map eS)))), (4, (.d (.p (.int .i64 x.2))))]) (fun x => []) (fun k x => spec_FreeNames.l0 a0 K k x.1 x.2) 0 (fun x => [(3, (.d (.l true 1 (x.map eS))))]) (fun x => []) h (fun _ => rfl) ?_ ⟨rfl, ⟨rfl, rfl, rfl, trivial⟩, trivial⟩ ?_
    · rintro k ⟨v2, v3⟩ r h e hp
      replace h : spec_FreeNames.l0 a0 K (k + 1) v2 v3 = some r := h
      unfold spec_FreeNames.l0 at h
      refine goS ?_
      refine seqJ h 37 (fun x => [(0, (.d (.l true 7 (a0.map impl_Node.e)))), (3, (.d (.l true 1 (v2.map eS)))), (4, (.d (.p (.int .i64 v3)))), (13, (.d (.p (.bool x))))]) (fun x => []) (fun J h => ?_) ?_
      · refine eqM ((a0.length : Int) : Int) (mLen rfl) ?_
        refine iteF h (fun c6 h => ?_) (fun c6 h => ?_)
        · refine Ask.T rfl ?_
          refine bindG h fun y7 hy8 h => ?_
          refine exM ([(.d (.p (.bool y7)))], []) ?_ ?_
          · exact spec_NodesOk.ev hy8
          refine Ask.T rfl ?_
          exact ⟨y7, h, ⟨rfl, ⟨rfl, rfl, rfl, rfl, trivial⟩, trivial⟩⟩
        · refine Ask.F rfl ?_
          refine Ask.F rfl ?_
          exact ⟨false, h, ⟨rfl, ⟨rfl, rfl, rfl, rfl, trivial⟩, trivial⟩⟩
      · rintro v5 h e hp
        try ((with_reducible apply cdX); exact rfl)
        refine ifB h (fun c9 h => ?_) (fun c9 h => ?_)
        · refine seqJ h 37 (fun x => [(0, (.d (.l true 7 (a0.map impl_Node.e)))), (3, (.d (.l true 1 (x.map eS)))), (4, (.d (.p (.int .i64 v3))))]) (fun x => []) (fun J h => ?_) ?_
          · refine seqJ h 37 (fun x => [(0, (.d (.l true 7 (a0.map impl_Node.e)))), (3, (.d (.l true 1 (v2.map eS)))), (4, (.d (.p (.int .i64 v3)))), (28, (.d (.p (.bool x))))]) (fun x => []) (fun J h => ?_) ?_
            · refine bindG h fun x12 hx12 h => ?_
              refine anM (at_ix rfl hx12) ?_
              refine exM (impl_Node.e x12) (at_get rfl hx12) ?_
              refine iteF h (fun c13 h => ?_) (fun c13 h => ?_)
              · refine Ask.T rfl ?_
                refine Ask.T rfl ?_
                refine bindG h fun y14 hy15 h => ?_
                refine exM ([(.agg (y14.e.map .d))], []) ?_ ?_
                · exact spec_BinderOf.ev hy15
                refine Ask.T rfl ?_
                refine Ask.T rfl ?_
                refine Ask.T rfl ?_
                exact ⟨(decide (y14.Node < 0)), h, ⟨rfl, ⟨rfl, rfl, rfl, rfl, trivial⟩, trivial⟩⟩
              · refine Ask.F rfl ?_
                refine Ask.F rfl ?_
                refine Ask.F rfl ?_
                refine Ask.F rfl ?_
                refine Ask.F rfl ?_
                exact ⟨false, h, ⟨rfl, ⟨rfl, rfl, rfl, rfl, trivial⟩, trivial⟩⟩
            · rintro v11 h e hp
              try ((with_reducible apply cdX); exact rfl)
              refine ifB h (fun c16 h => ?_) (fun c16 h => ?_)
              · refine bindG h fun x17 hx17 h => ?_
                refine anM (at_ix rfl hx17) ?_
                refine exM (impl_Node.e x17) (at_get rfl hx17) ?_
                refine bindG h fun y18 hy19 h => ?_
                refine exM ([(.d (.l true 1 (y18.map eS)))], []) ?_ ?_
                · exact spec_l6Sort.ev hy19
                exact ⟨y18, h, ⟨rfl, ⟨rfl, rfl, rfl, trivial⟩, trivial⟩⟩
              · exact ⟨v2, h, ⟨rfl, ⟨rfl, rfl, rfl, trivial⟩, trivial⟩⟩
          · rintro v10 h e hp
            exact ⟨(v10, (w64 (v3 + 1))), h, ⟨rfl, ⟨rfl, rfl, rfl, trivial⟩, trivial⟩⟩
        · refine exQ h ?_
          exact ⟨rfl, ⟨rfl, trivial⟩, trivial⟩
    · rintro v4 S' h ⟨qn, ⟨qa0, _⟩, ⟨_⟩⟩
      exact ⟨v4, h, ⟨qn, ⟨qa0, trivial⟩, trivial⟩⟩
  · rintro v1 h e hp
    exact retE (enc := spec_FreeNames.enc) h rfl
def spec_Sites.enc (r : List impl_Bind) : Res := ([(.own true 2 (r.map impl_Bind.e))], [])
def spec_Sites.l0 (a0 : List impl_Node) (K : Nat) : Nat → Int → (List impl_Bind) → Option (List impl_Bind)
  | 0, _, _ => none
  | k + 1, v2, v3 => jn (fun (v5 : Bool) => if v5 = true then (jn (fun (v10 : List impl_Bind) => spec_Sites.l0 a0 K k (w64 (v2 + 1)) v10) (fun j => (at_ a0 v2).bind fun x11 => (jn (fun (v12 : Bool) => if v12 = true then (gd ((v3.length + 1) * 16 ≤ 140737488355328) (j (v3 ++ ([(⟨v2, 0⟩ : impl_Bind)] : List impl_Bind)))) else (jn (fun (v16 : Bool) => if v16 = true then (gd ((v3.length + 2) * 16 ≤ 140737488355328) (j (v3 ++ ([(⟨v2, 0⟩ : impl_Bind), (⟨v2, 1⟩ : impl_Bind)] : List impl_Bind)))) else (j v3)) (fun j => if x11.Kind = 6 then (j true) else (j (decide (x11.Kind = 14)))))) (fun j => if x11.Kind = 3 then (j true) else (if x11.Kind = 5 then (j true) else (j (decide (x11.Kind = 19)))))))) else (some v3)) (fun j => if v2 < (a0.length : Int) then ((spec_NodesOk.f K a0).bind fun y7 => (j y7)) else (j false))
def spec_Sites.f  (K : Nat) (a0 : List impl_Node) : Option (List impl_Bind) := jn (fun (v1 : List impl_Bind) => some v1) (fun j => (spec_Sites.l0 a0 K K 0 ([] : List impl_Bind)).bind fun (v4 : List impl_Bind) => j v4)
theorem spec_Sites.ev   {K : Nat} {a0 : List impl_Node} {r : List impl_Bind} (h : spec_Sites.f  K a0 = some r) : E 60 [(.d (.l true 7 (a0.map impl_Node.e)))] = some ([(.own true 2 (r.map impl_Bind.e))], []) := by
  refine Ev_intro (fn := Tryz.f60) rfl (by kernel_rfl) (c := _) rfl ⟨rfl, by simp⟩ rfl (evP_spec _ ?_)
  unfold spec_Sites.f at h
  refine eqM (([] : List impl_Bind).map impl_Bind.e) rfl ?_
  refine seqJ h 41 (fun x => [(3, (.own 3 1 2))]) (fun x => [(3, 1, 2, (some (.row true true 2 (x.map impl_Bind.e))))]) (fun J h => ?_) ?_
  · refine loopX (α := Int × List impl_Bind) (a := (0, ([] : List impl_Bind))) 41 (fun x => [(0, (.d (.l true 7 (a0.map impl_Node.e)))), (3, (.own 3 1 2)), (4, (.d (.p (.int .i64 x.1))))]) (fun x => [(3, 1, 2, (some (.row true true 2 (x.2.map impl_Bind.e))))]) (fun k x => spec_Sites.l0 a0 K k x.1 x.2) 0 (fun x => [(3, (.own 3 1 2))]) (fun x => [(3, 1, 2, (some (.row true true 2 (x.map impl_Bind.e))))]) h (fun _ => rfl) ?_ ⟨rfl, ⟨rfl, rfl, rfl, trivial⟩, ⟨rfl, trivial⟩⟩ ?_
    · rintro k ⟨v2, v3⟩ r h e hp
      replace h : spec_Sites.l0 a0 K (k + 1) v2 v3 = some r := h
      unfold spec_Sites.l0 at h
      refine goS ?_
      refine seqJ h 41 (fun x => [(0, (.d (.l true 7 (a0.map impl_Node.e)))), (3, (.own 3 1 2)), (4, (.d (.p (.int .i64 v2)))), (13, (.d (.p (.bool x))))]) (fun x => [(3, 1, 2, (some (.row true true 2 (v3.map impl_Bind.e))))]) (fun J h => ?_) ?_
      · refine eqM ((a0.length : Int) : Int) (mLen rfl) ?_
        refine iteF h (fun c6 h => ?_) (fun c6 h => ?_)
        · refine Ask.T rfl ?_
          refine bindG h fun y7 hy8 h => ?_
          refine exM ([(.d (.p (.bool y7)))], []) ?_ ?_
          · exact spec_NodesOk.ev hy8
          refine Ask.T rfl ?_
          exact ⟨y7, h, ⟨rfl, ⟨rfl, rfl, rfl, rfl, trivial⟩, ⟨rfl, trivial⟩⟩⟩
        · refine Ask.F rfl ?_
          refine Ask.F rfl ?_
          exact ⟨false, h, ⟨rfl, ⟨rfl, rfl, rfl, rfl, trivial⟩, ⟨rfl, trivial⟩⟩⟩
      · rintro v5 h e hp
        try ((with_reducible apply cdX); exact rfl)
        refine ifB h (fun c9 h => ?_) (fun c9 h => ?_)
        · refine seqJ h 41 (fun x => [(0, (.d (.l true 7 (a0.map impl_Node.e)))), (3, (.own 3 1 2)), (4, (.d (.p (.int .i64 v2))))]) (fun x => [(3, 1, 2, (some (.row true true 2 (x.map impl_Bind.e))))]) (fun J h => ?_) ?_
          · refine bindG h fun x11 hx11 h => ?_
            refine anM (at_ix rfl hx11) ?_
            refine exM (impl_Node.e x11) (at_get rfl hx11) ?_
            refine seqJ h 41 (fun x => [(0, (.d (.l true 7 (a0.map impl_Node.e)))), (3, (.own 3 1 2)), (4, (.d (.p (.int .i64 v2)))), (20, (.d (.p (.int .i64 x11.Kind)))), (21, (.d (.p (.bool x))))]) (fun x => [(3, 1, 2, (some (.row true true 2 (v3.map impl_Bind.e))))]) (fun J h => ?_) ?_
            · try ((with_reducible apply cdX); exact rfl)
              refine iteF h (fun c13 h => ?_) (fun c13 h => ?_)
              · exact ⟨true, h, ⟨rfl, ⟨rfl, rfl, rfl, rfl, rfl, trivial⟩, ⟨rfl, trivial⟩⟩⟩
              · try ((with_reducible apply cdX); exact rfl)
                refine iteF h (fun c14 h => ?_) (fun c14 h => ?_)
                · exact ⟨true, h, ⟨rfl, ⟨rfl, rfl, rfl, rfl, rfl, trivial⟩, ⟨rfl, trivial⟩⟩⟩
                · exact ⟨(decide (x11.Kind = 19)), h, ⟨rfl, ⟨rfl, rfl, rfl, rfl, rfl, trivial⟩, ⟨rfl, trivial⟩⟩⟩
            · rintro v12 h e hp
              try ((with_reducible apply cdX); exact rfl)
              refine ifB h (fun c15 h => ?_) (fun c15 h => ?_)
              · refine eqM (([(⟨v2, 0⟩ : impl_Bind)] : List impl_Bind).map impl_Bind.e) rfl ?_
                refine gdG h fun hc h => ?_
                refine anM (apB hc) ?_
                refine eqM ((v3 ++ ([(⟨v2, 0⟩ : impl_Bind)] : List impl_Bind)).map impl_Bind.e) (mApp rfl rfl) ?_
                exact ⟨(v3 ++ ([(⟨v2, 0⟩ : impl_Bind)] : List impl_Bind)), h, ⟨rfl, ⟨rfl, rfl, rfl, trivial⟩, ⟨rfl, trivial⟩⟩⟩
              · refine seqJ h 41 (fun x => [(0, (.d (.l true 7 (a0.map impl_Node.e)))), (3, (.own 3 1 2)), (4, (.d (.p (.int .i64 v2)))), (30, (.d (.p (.bool x))))]) (fun x => [(3, 1, 2, (some (.row true true 2 (v3.map impl_Bind.e))))]) (fun J h => ?_) ?_
                · try ((with_reducible apply cdX); exact rfl)
                  refine iteF h (fun c17 h => ?_) (fun c17 h => ?_)
                  · exact ⟨true, h, ⟨rfl, ⟨rfl, rfl, rfl, rfl, trivial⟩, ⟨rfl, trivial⟩⟩⟩
                  · exact ⟨(decide (x11.Kind = 14)), h, ⟨rfl, ⟨rfl, rfl, rfl, rfl, trivial⟩, ⟨rfl, trivial⟩⟩⟩
                · rintro v16 h e hp
                  try ((with_reducible apply cdX); exact rfl)
                  refine ifB h (fun c18 h => ?_) (fun c18 h => ?_)
                  · refine eqM (([(⟨v2, 0⟩ : impl_Bind), (⟨v2, 1⟩ : impl_Bind)] : List impl_Bind).map impl_Bind.e) rfl ?_
                    refine gdG h fun hc h => ?_
                    refine anM (apB hc) ?_
                    refine eqM ((v3 ++ ([(⟨v2, 0⟩ : impl_Bind), (⟨v2, 1⟩ : impl_Bind)] : List impl_Bind)).map impl_Bind.e) (mApp rfl rfl) ?_
                    exact ⟨(v3 ++ ([(⟨v2, 0⟩ : impl_Bind), (⟨v2, 1⟩ : impl_Bind)] : List impl_Bind)), h, ⟨rfl, ⟨rfl, rfl, rfl, trivial⟩, ⟨rfl, trivial⟩⟩⟩
                  · exact ⟨v3, h, ⟨rfl, ⟨rfl, rfl, rfl, trivial⟩, ⟨rfl, trivial⟩⟩⟩
          · rintro v10 h e hp
            exact ⟨((w64 (v2 + 1)), v10), h, ⟨rfl, ⟨rfl, rfl, rfl, trivial⟩, ⟨rfl, trivial⟩⟩⟩
        · refine exQ h ?_
          exact ⟨rfl, ⟨rfl, trivial⟩, ⟨rfl, trivial⟩⟩
    · rintro v4 S' h ⟨qn, ⟨qa0, _⟩, ⟨qb0, _⟩⟩
      exact ⟨v4, h, ⟨qn, ⟨qa0, trivial⟩, ⟨qb0, trivial⟩⟩⟩
  · rintro v1 h e hp
    exact retE (enc := spec_Sites.enc) h rfl
def spec_l7HasText.enc (r : Bool) : Res := ([(.d (.p (.bool r)))], [])
def spec_l7HasText.en (a0 : List ByteArray) (a1 : ByteArray) (r : Bool) (S : St) : Prop := endV tb md 61 Tryz.f61 [(.d (.l true 1 (a0.map eS))), (.d (.p (.string a1)))] .ret S = some (spec_l7HasText.enc r)
def spec_l7HasText.l0 (a0 : List ByteArray) (a1 : ByteArray) (K : Nat) : Nat → Int → Option (Bool ⊕ Unit)
  | 0, _ => none
  | k + 1, v1 => if v1 < (a0.length : Int) then ((at_ a0 v1).bind fun x3 => (if (x3.toList == a1.toList) = true then (some (.inl true)) else (spec_l7HasText.l0 a0 a1 K k (w64 (v1 + 1))))) else (some (.inr ()))
def spec_l7HasText.f  (K : Nat) (a0 : List ByteArray) (a1 : ByteArray) : Option (Bool) := jn (fun (_ : Unit) => some false) (fun j => lb (spec_l7HasText.l0 a0 a1 K K 0) (fun r => some r) (fun (_ : Unit) => j ()))
theorem spec_l7HasText.ev   {K : Nat} {a0 : List ByteArray} {a1 : ByteArray} {r : Bool} (h : spec_l7HasText.f  K a0 a1 = some r) : E 61 [(.d (.l true 1 (a0.map eS))), (.d (.p (.string a1)))] = some ([(.d (.p (.bool r)))], []) := by
  refine Ev_intro (fn := Tryz.f61) rfl (by kernel_rfl) (c := _) rfl ⟨rfl, by simp⟩ rfl (evP_spec _ ?_)
  unfold spec_l7HasText.f at h
  refine seqJ h 18 (fun x => []) (fun x => []) (fun J h => ?_) ?_
  · refine loopB (α := Int) (a := 0) 18 (fun x => [(0, (.d (.l true 1 (a0.map eS)))), (1, (.d (.p (.string a1)))), (5, (.d (.p (.int .i64 x))))]) (fun x => []) (fun k x => spec_l7HasText.l0 a0 a1 K k x) (spec_l7HasText.en a0 a1) 0 (fun x => []) (fun x => []) h (fun _ => rfl) ?_ ⟨rfl, ⟨rfl, rfl, rfl, trivial⟩, trivial⟩ ?_ ?_
    · rintro k v1 r h e hp
      replace h : spec_l7HasText.l0 a0 a1 K (k + 1) v1 = some r := h
      unfold spec_l7HasText.l0 at h
      refine goS ?_
      refine eqM ((a0.length : Int) : Int) (mLen rfl) ?_
      refine iteF h (fun c2 h => ?_) (fun c2 h => ?_)
      · refine goS ?_
        refine bindG h fun x3 hx3 h => ?_
        refine anM (at_ix rfl hx3) ?_
        refine exM (eS x3) (at_get rfl hx3) ?_
        refine ifB h (fun c4 h => ?_) (fun c4 h => ?_)
        · exact lqL h rfl
        · exact ⟨(w64 (v1 + 1)), h, ⟨rfl, ⟨rfl, rfl, rfl, trivial⟩, trivial⟩⟩
      · refine lqR h ?_
        exact ⟨rfl, trivial, trivial⟩
    · intro r' S' h q
      exact retE (enc := spec_l7HasText.enc) h q
    · rintro _ S' h ⟨qn, ⟨_⟩, ⟨_⟩⟩
      exact ⟨(), h, ⟨qn, trivial, trivial⟩⟩
  · rintro _ h e hp
    exact retE (enc := spec_l7HasText.enc) h rfl
def spec_UsesOf.enc (r : List Int) : Res := ([(.own true 1 (r.map eI))], [])
def spec_UsesOf.l0 (a0 : List impl_Node) (a1 : impl_Bind) (K : Nat) : Nat → Int → (List Int) → Option (List Int)
  | 0, _, _ => none
  | k + 1, v2, v3 => jn (fun (v5 : Bool) => if v5 = true then (jn (fun (v11 : List Int) => spec_UsesOf.l0 a0 a1 K k (w64 (v2 + 1)) v11) (fun j => jn (fun (v12 : Bool) => if v12 = true then (gd ((v3.length + 1) * 8 ≤ 140737488355328) (j (v3 ++ ([v2] : List Int)))) else (j v3)) (fun j => (at_ a0 v2).bind fun x13 => (if x13.Kind = 1 then ((spec_BinderOf.f K a0 v2).bind fun y15 => (j ((decide (y15.Node = a1.Node)) && ((decide (y15.Role = a1.Role)) && true)))) else (j false))))) else (some v3)) (fun j => if v2 < (a0.length : Int) then ((spec_NodesOk.f K a0).bind fun y7 => (if y7 = true then (j (decide (a1.Node ≥ 0))) else (j false))) else (j false))
def spec_UsesOf.f  (K : Nat) (a0 : List impl_Node) (a1 : impl_Bind) : Option (List Int) := jn (fun (v1 : List Int) => some v1) (fun j => (spec_UsesOf.l0 a0 a1 K K 0 ([] : List Int)).bind fun (v4 : List Int) => j v4)
theorem spec_UsesOf.ev   {K : Nat} {a0 : List impl_Node} {a1 : impl_Bind} {r : List Int} (h : spec_UsesOf.f  K a0 a1 = some r) : E 63 [(.d (.l true 7 (a0.map impl_Node.e))), (.agg (a1.e.map .d))] = some ([(.own true 1 (r.map eI))], []) := by
  refine Ev_intro (fn := Tryz.f63) rfl (by kernel_rfl) (c := _) rfl ⟨rfl, by simp⟩ rfl (evP_spec _ ?_)
  unfold spec_UsesOf.f at h
  refine eqM (([] : List Int).map eI) rfl ?_
  refine seqJ h 41 (fun x => [(5, (.own 5 1 2))]) (fun x => [(5, 1, 2, (some (.row true true 1 (x.map eI))))]) (fun J h => ?_) ?_
  · refine loopX (α := Int × List Int) (a := (0, ([] : List Int))) 41 (fun x => [(0, (.d (.l true 7 (a0.map impl_Node.e)))), (3, (.ptr 3 0 2 0)), (5, (.own 5 1 2)), (6, (.d (.p (.int .i64 x.1))))]) (fun x => [(3, 0, 2, (some (.box [(.d (.p (.int .i64 a1.Node))), (.d (.p (.int .i64 a1.Role)))]))), (5, 1, 2, (some (.row true true 1 (x.2.map eI))))]) (fun k x => spec_UsesOf.l0 a0 a1 K k x.1 x.2) 0 (fun x => [(5, (.own 5 1 2))]) (fun x => [(5, 1, 2, (some (.row true true 1 (x.map eI))))]) h (fun _ => rfl) ?_ ⟨rfl, ⟨rfl, rfl, rfl, rfl, trivial⟩, ⟨rfl, rfl, trivial⟩⟩ ?_
    · rintro k ⟨v2, v3⟩ r h e hp
      replace h : spec_UsesOf.l0 a0 a1 K (k + 1) v2 v3 = some r := h
      unfold spec_UsesOf.l0 at h
      refine goS ?_
      refine seqJ h 41 (fun x => [(0, (.d (.l true 7 (a0.map impl_Node.e)))), (3, (.ptr 3 0 2 0)), (5, (.own 5 1 2)), (6, (.d (.p (.int .i64 v2)))), (20, (.d (.p (.bool x))))]) (fun x => [(3, 0, 2, (some (.box [(.d (.p (.int .i64 a1.Node))), (.d (.p (.int .i64 a1.Role)))]))), (5, 1, 2, (some (.row true true 1 (v3.map eI))))]) (fun J h => ?_) ?_
      · refine eqM ((a0.length : Int) : Int) (mLen rfl) ?_
        refine iteF h (fun c6 h => ?_) (fun c6 h => ?_)
        · refine Ask.T rfl ?_
          refine bindG h fun y7 hy8 h => ?_
          refine exM ([(.d (.p (.bool y7)))], []) ?_ ?_
          · exact spec_NodesOk.ev hy8
          refine Ask.T rfl ?_
          refine ifB h (fun c9 h => ?_) (fun c9 h => ?_)
          · refine Ask.T rfl ?_
            refine Ask.T rfl ?_
            refine Ask.T rfl ?_
            exact ⟨(decide (a1.Node ≥ 0)), h, ⟨rfl, ⟨rfl, rfl, rfl, rfl, rfl, trivial⟩, ⟨rfl, rfl, trivial⟩⟩⟩
          · refine Ask.F rfl ?_
            refine Ask.F rfl ?_
            refine Ask.F rfl ?_
            exact ⟨false, h, ⟨rfl, ⟨rfl, rfl, rfl, rfl, rfl, trivial⟩, ⟨rfl, rfl, trivial⟩⟩⟩
        · refine Ask.F rfl ?_
          refine Ask.F rfl ?_
          refine Ask.F rfl ?_
          refine Ask.F rfl ?_
          refine Ask.F rfl ?_
          refine Ask.F rfl ?_
          exact ⟨false, h, ⟨rfl, ⟨rfl, rfl, rfl, rfl, rfl, trivial⟩, ⟨rfl, rfl, trivial⟩⟩⟩
      · rintro v5 h e hp
        try ((with_reducible apply cdX); exact rfl)
        refine ifB h (fun c10 h => ?_) (fun c10 h => ?_)
        · refine seqJ h 41 (fun x => [(0, (.d (.l true 7 (a0.map impl_Node.e)))), (3, (.ptr 3 0 2 0)), (5, (.own 5 1 2)), (6, (.d (.p (.int .i64 v2))))]) (fun x => [(3, 0, 2, (some (.box [(.d (.p (.int .i64 a1.Node))), (.d (.p (.int .i64 a1.Role)))]))), (5, 1, 2, (some (.row true true 1 (x.map eI))))]) (fun J h => ?_) ?_
          · refine seqJ h 41 (fun x => [(0, (.d (.l true 7 (a0.map impl_Node.e)))), (3, (.ptr 3 0 2 0)), (5, (.own 5 1 2)), (6, (.d (.p (.int .i64 v2)))), (35, (.d (.p (.bool x))))]) (fun x => [(3, 0, 2, (some (.box [(.d (.p (.int .i64 a1.Node))), (.d (.p (.int .i64 a1.Role)))]))), (5, 1, 2, (some (.row true true 1 (v3.map eI))))]) (fun J h => ?_) ?_
            · refine ⟨[[], [], [], [], [], [], [], [], [], [33], [32], [], []], [], by kernel_rfl, ?_⟩
              refine bindG h fun x13 hx13 h => ?_
              refine anM (at_ix rfl hx13) ?_
              refine exM (impl_Node.e x13) (at_get rfl hx13) ?_
              refine iteF h (fun c14 h => ?_) (fun c14 h => ?_)
              · refine Ask.T rfl ?_
                refine Ask.T rfl ?_
                refine bindG h fun y15 hy16 h => ?_
                refine exM ([(.agg (y15.e.map .d))], []) ?_ ?_
                · exact spec_BinderOf.ev hy16
                refine Ask.T rfl ?_
                refine Ask.T rfl ?_
                refine anM eqT106 ?_
                refine Ask.T rfl ?_
                exact ⟨((decide (y15.Node = a1.Node)) && ((decide (y15.Role = a1.Role)) && true)), h, ⟨rfl, ⟨rfl, rfl, rfl, rfl, rfl, trivial⟩, ⟨rfl, rfl, trivial⟩⟩⟩
              · refine Ask.F rfl ?_
                refine Ask.F rfl ?_
                refine Ask.F rfl ?_
                refine Ask.F rfl ?_
                refine Ask.F rfl ?_
                exact ⟨false, h, ⟨rfl, ⟨rfl, rfl, rfl, rfl, rfl, trivial⟩, ⟨rfl, rfl, trivial⟩⟩⟩
            · rintro v12 h e hp
              try ((with_reducible apply cdX); exact rfl)
              refine ifB h (fun c17 h => ?_) (fun c17 h => ?_)
              · refine eqM (([v2] : List Int).map eI) rfl ?_
                refine gdG h fun hc h => ?_
                refine anM (apB hc) ?_
                refine eqM ((v3 ++ ([v2] : List Int)).map eI) (mApp rfl rfl) ?_
                exact ⟨(v3 ++ ([v2] : List Int)), h, ⟨rfl, ⟨rfl, rfl, rfl, rfl, trivial⟩, ⟨rfl, rfl, trivial⟩⟩⟩
              · exact ⟨v3, h, ⟨rfl, ⟨rfl, rfl, rfl, rfl, trivial⟩, ⟨rfl, rfl, trivial⟩⟩⟩
          · rintro v11 h e hp
            exact ⟨((w64 (v2 + 1)), v11), h, ⟨rfl, ⟨rfl, rfl, rfl, rfl, trivial⟩, ⟨rfl, rfl, trivial⟩⟩⟩
        · refine exQ h ?_
          exact ⟨rfl, ⟨rfl, trivial⟩, ⟨rfl, trivial⟩⟩
    · rintro v4 S' h ⟨qn, ⟨qa0, _⟩, ⟨qb0, _⟩⟩
      exact ⟨v4, h, ⟨qn, ⟨qa0, trivial⟩, ⟨qb0, trivial⟩⟩⟩
  · rintro v1 h e hp
    exact retE (enc := spec_UsesOf.enc) h rfl
def spec_l7Set.enc (r : List impl_Node) : Res := ([(.own true 7 (r.map impl_Node.e))], [])
def spec_l7Set.l0 (a1 : List Int) (a3 : ByteArray) (K : Nat) : Nat → Int → (List impl_Node) → Option (List impl_Node)
  | 0, _, _ => none
  | k + 1, v6, v7 => if v6 < (a1.length : Int) then ((at_ a1 v6).bind fun x10 => ((at_ v7 x10).bind fun x11 => (spec_l7Set.l0 a1 a3 K k (w64 (v6 + 1)) (v7.set (x10).toNat (⟨x11.Kind, x11.A, x11.B, x11.C, x11.N, a3, x11.Other⟩ : impl_Node))))) else (some v7)
def spec_l7Set.f  (K : Nat) (a0 : List impl_Node) (a1 : List Int) (a2 : impl_Bind) (a3 : ByteArray) : Option (List impl_Node) := jn (fun (v1 : List impl_Node) => jn (fun (v5 : List impl_Node) => some v5) (fun j => (spec_l7Set.l0 a1 a3 K K 0 v1).bind fun (v8 : List impl_Node) => j v8)) (fun j => if a2.Role = 0 then ((at_ a0 a2.Node).bind fun x3 => (j (a0.set (a2.Node).toNat (⟨x3.Kind, x3.A, x3.B, x3.C, x3.N, a3, x3.Other⟩ : impl_Node)))) else ((at_ a0 a2.Node).bind fun x4 => (j (a0.set (a2.Node).toNat (⟨x4.Kind, x4.A, x4.B, x4.C, x4.N, x4.Name, a3⟩ : impl_Node)))))
theorem spec_l7Set.ev   {K : Nat} {a0 : List impl_Node} {a1 : List Int} {a2 : impl_Bind} {a3 : ByteArray} {r : List impl_Node} (h : spec_l7Set.f  K a0 a1 a2 a3 = some r) : E 62 [(.own true 7 (a0.map impl_Node.e)), (.d (.l true 1 (a1.map eI))), (.agg (a2.e.map .d)), (.d (.p (.string a3)))] = some ([(.own true 7 (r.map impl_Node.e))], []) := by
  refine Ev_intro (fn := Tryz.f62) rfl (by kernel_rfl) (c := _) rfl ⟨rfl, by simp⟩ rfl (evP_spec _ ?_)
  unfold spec_l7Set.f at h
  refine seqJ h 40 (fun x => [(0, (.own 0 1 2)), (1, (.d (.l true 1 (a1.map eI)))), (3, (.d (.p (.string a3))))]) (fun x => [(0, 1, 2, (some (.row true true 7 (x.map impl_Node.e))))]) (fun J h => ?_) ?_
  · try ((with_reducible apply cdX); exact rfl)
    refine iteF h (fun c2 h => ?_) (fun c2 h => ?_)
    · refine bindG h fun x3 hx3 h => ?_
      refine anM (at_ix rfl hx3) ?_
      refine anM (at_lt rfl hx3) ?_
      refine exM (impl_Node.e x3) (at_get rfl hx3) ?_
      refine eqM ((a0.set (a2.Node).toNat (⟨x3.Kind, x3.A, x3.B, x3.C, x3.N, a3, x3.Other⟩ : impl_Node)).map impl_Node.e) (mSet rfl rfl) ?_
      exact ⟨(a0.set (a2.Node).toNat (⟨x3.Kind, x3.A, x3.B, x3.C, x3.N, a3, x3.Other⟩ : impl_Node)), h, ⟨rfl, ⟨rfl, rfl, rfl, trivial⟩, ⟨rfl, trivial⟩⟩⟩
    · refine bindG h fun x4 hx4 h => ?_
      refine anM (at_ix rfl hx4) ?_
      refine anM (at_lt rfl hx4) ?_
      refine exM (impl_Node.e x4) (at_get rfl hx4) ?_
      refine eqM ((a0.set (a2.Node).toNat (⟨x4.Kind, x4.A, x4.B, x4.C, x4.N, x4.Name, a3⟩ : impl_Node)).map impl_Node.e) (mSet rfl rfl) ?_
      exact ⟨(a0.set (a2.Node).toNat (⟨x4.Kind, x4.A, x4.B, x4.C, x4.N, x4.Name, a3⟩ : impl_Node)), h, ⟨rfl, ⟨rfl, rfl, rfl, trivial⟩, ⟨rfl, trivial⟩⟩⟩
  · rintro v1 h e hp
    refine seqJ h 40 (fun x => [(0, (.own 0 1 2))]) (fun x => [(0, 1, 2, (some (.row true true 7 (x.map impl_Node.e))))]) (fun J h => ?_) ?_
    · refine loopX (α := Int × List impl_Node) (a := (0, v1)) 40 (fun x => [(0, (.own 0 1 2)), (1, (.d (.l true 1 (a1.map eI)))), (3, (.d (.p (.string a3)))), (9, (.d (.p (.int .i64 x.1))))]) (fun x => [(0, 1, 2, (some (.row true true 7 (x.2.map impl_Node.e))))]) (fun k x => spec_l7Set.l0 a1 a3 K k x.1 x.2) 0 (fun x => [(0, (.own 0 1 2))]) (fun x => [(0, 1, 2, (some (.row true true 7 (x.map impl_Node.e))))]) h (fun _ => rfl) ?_ ⟨rfl, ⟨rfl, rfl, rfl, rfl, trivial⟩, ⟨rfl, trivial⟩⟩ ?_
      · rintro k ⟨v6, v7⟩ r h e hp
        replace h : spec_l7Set.l0 a1 a3 K (k + 1) v6 v7 = some r := h
        unfold spec_l7Set.l0 at h
        refine goS ?_
        refine eqM ((a1.length : Int) : Int) (mLen rfl) ?_
        refine iteF h (fun c9 h => ?_) (fun c9 h => ?_)
        · refine goS ?_
          refine bindG h fun x10 hx10 h => ?_
          refine anM (at_ix rfl hx10) ?_
          refine exM (eI x10) (at_get rfl hx10) ?_
          refine bindG h fun x11 hx11 h => ?_
          refine anM (at_ix rfl hx11) ?_
          refine anM (at_lt rfl hx11) ?_
          refine exM (impl_Node.e x11) (at_get rfl hx11) ?_
          refine eqM ((v7.set (x10).toNat (⟨x11.Kind, x11.A, x11.B, x11.C, x11.N, a3, x11.Other⟩ : impl_Node)).map impl_Node.e) (mSet rfl rfl) ?_
          exact ⟨((w64 (v6 + 1)), (v7.set (x10).toNat (⟨x11.Kind, x11.A, x11.B, x11.C, x11.N, a3, x11.Other⟩ : impl_Node))), h, ⟨rfl, ⟨rfl, rfl, rfl, rfl, trivial⟩, ⟨rfl, trivial⟩⟩⟩
        · refine exQ h ?_
          exact ⟨rfl, ⟨rfl, trivial⟩, ⟨rfl, trivial⟩⟩
      · rintro v8 S' h ⟨qn, ⟨qa0, _⟩, ⟨qb0, _⟩⟩
        exact ⟨v8, h, ⟨qn, ⟨qa0, trivial⟩, ⟨qb0, trivial⟩⟩⟩
    · rintro v5 h e hp
      exact retE (enc := spec_l7Set.enc) h rfl
def spec_Canon.enc (r : List impl_Node) : Res := ([(.own true 7 (r.map impl_Node.e))], [])
def spec_Canon.l1 (y4 : List ByteArray) (K : Nat) : Nat → Int → Option (Int)
  | 0, _ => none
  | k + 1, v15 => (spec_FreshName.f K v15).bind fun y17 => ((spec_l7HasText.f K y4 y17).bind fun y19 => (if y19 = true then (spec_Canon.l1 y4 K k (w64 (v15 + 1))) else (some v15)))
def spec_Canon.l0 (a0 : List impl_Node) (y4 : List ByteArray) (y6 : List impl_Bind) (K : Nat) : Nat → Int → Int → (List impl_Node) → Option (List impl_Node)
  | 0, _, _, _ => none
  | k + 1, v9, v10, v11 => if v10 < (y6.length : Int) then (jn (fun (v14 : Int) => (at_ y6 v10).bind fun x22 => ((spec_UsesOf.f K a0 x22).bind fun y23 => ((spec_FreshName.f K v14).bind fun y25 => ((spec_l7Set.f K v11 y23 x22 y25).bind fun y27 => (spec_Canon.l0 a0 y4 y6 K k (w64 (v14 + 1)) (w64 (v10 + 1)) y27))))) (fun j => (spec_Canon.l1 y4 K K v9).bind fun (v16 : Int) => j v16)) else (some v11)
def spec_Canon.f  (K : Nat) (a0 : List impl_Node) : Option (List impl_Node) := gd ((0 + a0.length) * 72 ≤ 140737488355328) ((spec_NodesOk.f K a0).bind fun y1 => (if (!y1) = true then (some ([] : List impl_Node)) else ((spec_FreeNames.f K a0).bind fun y4 => ((spec_Sites.f K a0).bind fun y6 => (jn (fun (v8 : List impl_Node) => some v8) (fun j => (spec_Canon.l0 a0 y4 y6 K K 0 0 (([] : List impl_Node) ++ a0)).bind fun (v12 : List impl_Node) => j v12))))))
theorem spec_Canon.ev   {K : Nat} {a0 : List impl_Node} {r : List impl_Node} (h : spec_Canon.f  K a0 = some r) : E 26 [(.d (.l true 7 (a0.map impl_Node.e)))] = some ([(.own true 7 (r.map impl_Node.e))], []) := by
  refine Ev_intro (fn := Tryz.f26) rfl (by kernel_rfl) (c := _) rfl ⟨rfl, by simp⟩ rfl (evP_spec _ ?_)
  unfold spec_Canon.f at h
  refine eqM (([] : List impl_Node).map impl_Node.e) rfl ?_
  refine gdG h fun hc h => ?_
  refine anM (apB hc) ?_
  refine eqM ((([] : List impl_Node) ++ a0).map impl_Node.e) (mApp rfl rfl) ?_
  refine goS ?_
  refine bindG h fun y1 hy2 h => ?_
  refine exM ([(.d (.p (.bool y1)))], []) ?_ ?_
  · exact spec_NodesOk.ev hy2
  refine ifB h (fun c3 h => ?_) (fun c3 h => ?_)
  · refine eqM (([] : List impl_Node).map impl_Node.e) rfl ?_
    exact retE (enc := spec_Canon.enc) h rfl
  · refine bindG h fun y4 hy5 h => ?_
    refine exM ([(.d (.l true 1 (y4.map eS)))], []) ?_ ?_
    · exact spec_FreeNames.ev hy5
    refine bindG h fun y6 hy7 h => ?_
    refine exM ([(.own true 2 (y6.map impl_Bind.e))], []) ?_ ?_
    · exact spec_Sites.ev hy7
    refine seqJ h 48 (fun x => [(3, (.own 3 1 2))]) (fun x => [(3, 1, 2, (some (.row true true 7 (x.map impl_Node.e))))]) (fun J h => ?_) ?_
    · refine loopX (α := Int × Int × List impl_Node) (a := (0, 0, (([] : List impl_Node) ++ a0))) 48 (fun x => [(0, (.d (.l true 7 (a0.map impl_Node.e)))), (3, (.own 3 1 2)), (4, (.d (.l true 1 (y4.map eS)))), (5, (.own 5 1 2)), (6, (.d (.p (.int .i64 x.1)))), (7, (.d (.p (.int .i64 x.2.1))))]) (fun x => [(3, 1, 2, (some (.row true true 7 (x.2.2.map impl_Node.e)))), (5, 1, 2, (some (.row true true 2 (y6.map impl_Bind.e))))]) (fun k x => spec_Canon.l0 a0 y4 y6 K k x.1 x.2.1 x.2.2) 0 (fun x => [(3, (.own 3 1 2))]) (fun x => [(3, 1, 2, (some (.row true true 7 (x.map impl_Node.e))))]) h (fun _ => rfl) ?_ ⟨rfl, ⟨rfl, rfl, rfl, rfl, rfl, rfl, trivial⟩, ⟨rfl, rfl, trivial⟩⟩ ?_
      · rintro k ⟨v9, v10, v11⟩ r h e hp
        replace h : spec_Canon.l0 a0 y4 y6 K (k + 1) v9 v10 v11 = some r := h
        unfold spec_Canon.l0 at h
        refine goS ?_
        refine eqM ((y6.length : Int) : Int) (mLen rfl) ?_
        refine iteF h (fun c13 h => ?_) (fun c13 h => ?_)
        · refine goS ?_
          refine seqJ h 48 (fun x => [(0, (.d (.l true 7 (a0.map impl_Node.e)))), (3, (.own 3 1 2)), (4, (.d (.l true 1 (y4.map eS)))), (5, (.own 5 1 2)), (6, (.d (.p (.int .i64 x)))), (7, (.d (.p (.int .i64 v10))))]) (fun x => [(3, 1, 2, (some (.row true true 7 (v11.map impl_Node.e)))), (5, 1, 2, (some (.row true true 2 (y6.map impl_Bind.e))))]) (fun J h => ?_) ?_
          · refine loopX (α := Int) (a := v9) 48 (fun x => [(0, (.d (.l true 7 (a0.map impl_Node.e)))), (3, (.own 3 1 2)), (4, (.d (.l true 1 (y4.map eS)))), (5, (.own 5 1 2)), (6, (.d (.p (.int .i64 x)))), (7, (.d (.p (.int .i64 v10))))]) (fun x => [(3, 1, 2, (some (.row true true 7 (v11.map impl_Node.e)))), (5, 1, 2, (some (.row true true 2 (y6.map impl_Bind.e))))]) (fun k x => spec_Canon.l1 y4 K k x) 2 (fun x => [(0, (.d (.l true 7 (a0.map impl_Node.e)))), (3, (.own 3 1 2)), (4, (.d (.l true 1 (y4.map eS)))), (5, (.own 5 1 2)), (6, (.d (.p (.int .i64 x)))), (7, (.d (.p (.int .i64 v10))))]) (fun x => [(3, 1, 2, (some (.row true true 7 (v11.map impl_Node.e)))), (5, 1, 2, (some (.row true true 2 (y6.map impl_Bind.e))))]) h (fun _ => rfl) ?_ ⟨rfl, ⟨rfl, rfl, rfl, rfl, rfl, rfl, trivial⟩, ⟨rfl, rfl, trivial⟩⟩ ?_
            · rintro k v15 r h e hp
              replace h : spec_Canon.l1 y4 K (k + 1) v15 = some r := h
              unfold spec_Canon.l1 at h
              refine goS ?_
              refine bindG h fun y17 hy18 h => ?_
              refine exM ([(.d (.p (.string y17)))], []) ?_ ?_
              · exact spec_FreshName.ev hy18
              refine bindG h fun y19 hy20 h => ?_
              refine exM ([(.d (.p (.bool y19)))], []) ?_ ?_
              · exact spec_l7HasText.ev hy20
              refine ifB h (fun c21 h => ?_) (fun c21 h => ?_)
              · exact ⟨(w64 (v15 + 1)), h, ⟨rfl, ⟨rfl, rfl, rfl, rfl, rfl, rfl, trivial⟩, ⟨rfl, rfl, trivial⟩⟩⟩
              · refine exQ h ?_
                exact ⟨rfl, ⟨rfl, rfl, rfl, rfl, rfl, rfl, trivial⟩, ⟨rfl, rfl, trivial⟩⟩
            · rintro v16 S' h ⟨qn, ⟨qa0, qa1, qa2, qa3, qa4, qa5, _⟩, ⟨qb0, qb1, _⟩⟩
              exact ⟨v16, h, ⟨qn, ⟨qa0, qa1, qa2, qa3, qa4, qa5, trivial⟩, ⟨qb0, qb1, trivial⟩⟩⟩
          · rintro v14 h e hp
            refine ⟨[[], [], [], [], [40, 41], [40, 41], [40, 41], [], [], [35, 36, 37, 43], [35, 36, 37, 43], [], [40, 41], [], []], [], by kernel_rfl, ?_⟩
            refine bindG h fun x22 hx22 h => ?_
            refine anM (at_ix rfl hx22) ?_
            refine exM (impl_Bind.e x22) (at_get rfl hx22) ?_
            refine bindG h fun y23 hy24 h => ?_
            refine exM ([(.own true 1 (y23.map eI))], []) ?_ ?_
            · exact spec_UsesOf.ev hy24
            refine anM (at_ix rfl hx22) ?_
            refine exM (impl_Bind.e x22) (at_get rfl hx22) ?_
            refine bindG h fun y25 hy26 h => ?_
            refine exM ([(.d (.p (.string y25)))], []) ?_ ?_
            · exact spec_FreshName.ev hy26
            refine bindG h fun y27 hy28 h => ?_
            refine exM ([(.own true 7 (y27.map impl_Node.e))], []) ?_ ?_
            · exact spec_l7Set.ev hy28
            exact ⟨((w64 (v14 + 1)), (w64 (v10 + 1)), y27), h, ⟨rfl, ⟨rfl, rfl, rfl, rfl, rfl, rfl, trivial⟩, ⟨rfl, rfl, trivial⟩⟩⟩
        · refine exQ h ?_
          exact ⟨rfl, ⟨rfl, trivial⟩, ⟨rfl, trivial⟩⟩
      · rintro v12 S' h ⟨qn, ⟨qa0, _⟩, ⟨qb0, _⟩⟩
        exact ⟨v12, h, ⟨qn, ⟨qa0, trivial⟩, ⟨qb0, trivial⟩⟩⟩
    · rintro v8 h e hp
      exact retE (enc := spec_Canon.enc) h rfl
def spec_Anf.enc (r : List impl_Node × Bool) : Res := ([(.own true 7 (r.1.map impl_Node.e)), (.d (.p (.bool r.2)))], [])
def spec_Anf.f  (K : Nat) (a0 : List impl_Node) : Option (List impl_Node × Bool) := (spec_NodesOk.f K a0).bind fun y1 => (if (!y1) = true then (some (([] : List impl_Node), false)) else ((spec_l13Part.f K a0 (w64 ((a0.length : Int) - 1)) 0).bind fun (y4, y5) => ((spec_NodesOk.f K y4).bind fun y7 => (if (!y7) = true then (some (([] : List impl_Node), false)) else ((spec_Canon.f K y4).bind fun y10 => (some (y10, true)))))))
theorem spec_Anf.ev   {K : Nat} {a0 : List impl_Node} {r : List impl_Node × Bool} (h : spec_Anf.f  K a0 = some r) : E 12 [(.d (.l true 7 (a0.map impl_Node.e)))] = some ([(.own true 7 (r.1.map impl_Node.e)), (.d (.p (.bool r.2)))], []) := by
  refine Ev_intro (fn := Tryz.f12) rfl (by kernel_rfl) (c := _) rfl ⟨rfl, by simp⟩ rfl (evP_spec _ ?_)
  unfold spec_Anf.f at h
  refine goS ?_
  refine bindG h fun y1 hy2 h => ?_
  refine exM ([(.d (.p (.bool y1)))], []) ?_ ?_
  · exact spec_NodesOk.ev hy2
  refine ifB h (fun c3 h => ?_) (fun c3 h => ?_)
  · refine eqM (([] : List impl_Node).map impl_Node.e) rfl ?_
    exact retE (enc := spec_Anf.enc) h rfl
  · refine eqM ((a0.length : Int) : Int) (mLen rfl) ?_
    refine bindG h ?_
    rintro ⟨y4, y5⟩ hy6 h
    refine exM ([(.own true 7 (y4.map impl_Node.e)), (.d (.p (.int .i64 y5)))], []) ?_ ?_
    · exact spec_l13Part.ev hy6
    refine goS ?_
    refine bindG h fun y7 hy8 h => ?_
    refine exM ([(.d (.p (.bool y7)))], []) ?_ ?_
    · exact spec_NodesOk.ev hy8
    refine ifB h (fun c9 h => ?_) (fun c9 h => ?_)
    · refine eqM (([] : List impl_Node).map impl_Node.e) rfl ?_
      exact retE (enc := spec_Anf.enc) h rfl
    · refine bindG h fun y10 hy11 h => ?_
      refine exM ([(.own true 7 (y10.map impl_Node.e))], []) ?_ ?_
      · exact spec_Canon.ev hy11
      exact retE (enc := spec_Anf.enc) h rfl
def impl_in.enc (r : Bool) : Res := ([(.d (.p (.bool r)))], [])
def impl_in.f  (K : Nat) (a0 : Int) (a1 : Int) (a2 : Int) : Option (Bool) := if a0 ≥ a1 then (some (decide (a0 ≤ a2))) else (some false)
theorem impl_in.ev   {K : Nat} {a0 : Int} {a1 : Int} {a2 : Int} {r : Bool} (h : impl_in.f  K a0 a1 a2 = some r) : E 64 [(.d (.p (.int .i64 a0))), (.d (.p (.int .i64 a1))), (.d (.p (.int .i64 a2)))] = some ([(.d (.p (.bool r)))], []) := by
  refine Ev_intro (fn := Tryz.f64) rfl (by kernel_rfl) (c := _) rfl ⟨rfl, by simp⟩ rfl (evP_spec _ ?_)
  unfold impl_in.f at h
  refine goS ?_
  try ((with_reducible apply cdX); exact rfl)
  refine iteF h (fun c1 h => ?_) (fun c1 h => ?_)
  · refine Ask.T rfl ?_
    refine Ask.T rfl ?_
    refine Ask.T rfl ?_
    exact retE (enc := impl_in.enc) h rfl
  · refine Ask.F rfl ?_
    refine Ask.F rfl ?_
    refine Ask.F rfl ?_
    exact retE (enc := impl_in.enc) h rfl
def impl_namesOf.enc (r : Int) : Res := ([(.d (.p (.int .i64 r)))], [])
def impl_namesOf.f  (K : Nat) (a0 : Int) : Option (Int) := jn (fun (v1 : Bool) => if v1 = true then (some 1) else (jn (fun (v6 : Bool) => if v6 = true then (some 2) else (some 0)) (fun j => if a0 = 6 then (j true) else (j (decide (a0 = 14)))))) (fun j => if a0 = 1 then (j true) else (if a0 = 3 then (j true) else (if a0 = 5 then (j true) else (j (decide (a0 = 19))))))
theorem impl_namesOf.ev   {K : Nat} {a0 : Int} {r : Int} (h : impl_namesOf.f  K a0 = some r) : E 93 [(.d (.p (.int .i64 a0)))] = some ([(.d (.p (.int .i64 r)))], []) := by
  refine Ev_intro (fn := Tryz.f93) rfl (by kernel_rfl) (c := _) rfl ⟨rfl, by simp⟩ rfl (evP_spec _ ?_)
  unfold impl_namesOf.f at h
  refine goS ?_
  refine seqJ h 12 (fun x => [(3, (.d (.p (.int .i64 a0)))), (4, (.d (.p (.bool x))))]) (fun x => []) (fun J h => ?_) ?_
  · try ((with_reducible apply cdX); exact rfl)
    refine iteF h (fun c2 h => ?_) (fun c2 h => ?_)
    · exact ⟨true, h, ⟨rfl, ⟨rfl, rfl, trivial⟩, trivial⟩⟩
    · try ((with_reducible apply cdX); exact rfl)
      refine iteF h (fun c3 h => ?_) (fun c3 h => ?_)
      · exact ⟨true, h, ⟨rfl, ⟨rfl, rfl, trivial⟩, trivial⟩⟩
      · try ((with_reducible apply cdX); exact rfl)
        refine iteF h (fun c4 h => ?_) (fun c4 h => ?_)
        · exact ⟨true, h, ⟨rfl, ⟨rfl, rfl, trivial⟩, trivial⟩⟩
        · exact ⟨(decide (a0 = 19)), h, ⟨rfl, ⟨rfl, rfl, trivial⟩, trivial⟩⟩
  · rintro v1 h e hp
    try ((with_reducible apply cdX); exact rfl)
    refine ifB h (fun c5 h => ?_) (fun c5 h => ?_)
    · exact retE (enc := impl_namesOf.enc) h rfl
    · refine seqJ h 12 (fun x => [(9, (.d (.p (.bool x))))]) (fun x => []) (fun J h => ?_) ?_
      · try ((with_reducible apply cdX); exact rfl)
        refine iteF h (fun c7 h => ?_) (fun c7 h => ?_)
        · exact ⟨true, h, ⟨rfl, ⟨rfl, trivial⟩, trivial⟩⟩
        · exact ⟨(decide (a0 = 14)), h, ⟨rfl, ⟨rfl, trivial⟩, trivial⟩⟩
      · rintro v6 h e hp
        try ((with_reducible apply cdX); exact rfl)
        refine ifB h (fun c8 h => ?_) (fun c8 h => ?_)
        · exact retE (enc := impl_namesOf.enc) h rfl
        · exact retE (enc := impl_namesOf.enc) h rfl
def impl_IsWord.enc (r : Bool) : Res := ([(.d (.p (.bool r)))], [])
def impl_IsWord.en (a0 : ByteArray) (r : Bool) (S : St) : Prop := endV tb md 84 Tryz.f84 [(.d (.p (.string a0)))] .ret S = some (impl_IsWord.enc r)
def impl_IsWord.l0 (a0 : ByteArray) (K : Nat) : Nat → Int → Option (Bool ⊕ Unit)
  | 0, _ => none
  | k + 1, v1 => if v1 < (a0.size : Int) then (jn (fun (v3 : Bool) => if v3 = true then (some (.inl false)) else (impl_IsWord.l0 a0 K k (w64 (v1 + 1)))) (fun j => (atS a0 v1).bind fun x4 => (if (x4.toNat : Int) < 97 then (j true) else ((atS a0 v1).bind fun x6 => (j (decide ((x6.toNat : Int) > 122))))))) else (some (.inr ()))
def impl_IsWord.f  (K : Nat) (a0 : ByteArray) : Option (Bool) := jn (fun (_ : Unit) => (impl_in.f K (a0.size : Int) 1 8).bind fun y8 => (some y8)) (fun j => lb (impl_IsWord.l0 a0 K K 0) (fun r => some r) (fun (_ : Unit) => j ()))
theorem impl_IsWord.ev   {K : Nat} {a0 : ByteArray} {r : Bool} (h : impl_IsWord.f  K a0 = some r) : E 84 [(.d (.p (.string a0)))] = some ([(.d (.p (.bool r)))], []) := by
  refine Ev_intro (fn := Tryz.f84) rfl (by kernel_rfl) (c := _) rfl ⟨rfl, by simp⟩ rfl (evP_spec _ ?_)
  unfold impl_IsWord.f at h
  refine seqJ h 23 (fun x => [(0, (.d (.p (.string a0))))]) (fun x => []) (fun J h => ?_) ?_
  · refine loopB (α := Int) (a := 0) 23 (fun x => [(0, (.d (.p (.string a0)))), (3, (.d (.p (.int .i64 x))))]) (fun x => []) (fun k x => impl_IsWord.l0 a0 K k x) (impl_IsWord.en a0) 0 (fun x => [(0, (.d (.p (.string a0))))]) (fun x => []) h (fun _ => rfl) ?_ ⟨rfl, ⟨rfl, rfl, trivial⟩, trivial⟩ ?_ ?_
    · rintro k v1 r h e hp
      replace h : impl_IsWord.l0 a0 K (k + 1) v1 = some r := h
      unfold impl_IsWord.l0 at h
      refine goS ?_
      try ((with_reducible apply cdX); exact rfl)
      refine iteF h (fun c2 h => ?_) (fun c2 h => ?_)
      · refine goS ?_
        refine seqJ h 23 (fun x => [(0, (.d (.p (.string a0)))), (3, (.d (.p (.int .i64 v1)))), (19, (.d (.p (.bool x))))]) (fun x => []) (fun J h => ?_) ?_
        · refine bindG h fun x4 hx4 h => ?_
          refine exM x4 hx4 ?_
          refine iteF h (fun c5 h => ?_) (fun c5 h => ?_)
          · refine Ask.T rfl ?_
            refine Ask.T rfl ?_
            refine Ask.T rfl ?_
            refine Ask.T rfl ?_
            exact ⟨true, h, ⟨rfl, ⟨rfl, rfl, rfl, trivial⟩, trivial⟩⟩
          · refine Ask.F rfl ?_
            refine Ask.F rfl ?_
            refine bindG h fun x6 hx6 h => ?_
            refine exM x6 hx6 ?_
            refine Ask.F rfl ?_
            refine Ask.F rfl ?_
            exact ⟨(decide ((x6.toNat : Int) > 122)), h, ⟨rfl, ⟨rfl, rfl, rfl, trivial⟩, trivial⟩⟩
        · rintro v3 h e hp
          try ((with_reducible apply cdX); exact rfl)
          refine ifB h (fun c7 h => ?_) (fun c7 h => ?_)
          · exact lqL h rfl
          · exact ⟨(w64 (v1 + 1)), h, ⟨rfl, ⟨rfl, rfl, trivial⟩, trivial⟩⟩
      · refine lqR h ?_
        exact ⟨rfl, ⟨rfl, trivial⟩, trivial⟩
    · intro r' S' h q
      exact retE (enc := impl_IsWord.enc) h q
    · rintro _ S' h ⟨qn, ⟨qa0, _⟩, ⟨_⟩⟩
      exact ⟨(), h, ⟨qn, ⟨qa0, trivial⟩, trivial⟩⟩
  · rintro _ h e hp
    refine bindG h fun y8 hy9 h => ?_
    refine exM ([(.d (.p (.bool y8)))], []) ?_ ?_
    · exact impl_in.ev hy9
    exact retE (enc := impl_IsWord.enc) h rfl
def impl_IsKey.enc (r : Bool) : Res := ([(.d (.p (.bool r)))], [])
def impl_IsKey.en (a0 : ByteArray) (r : Bool) (S : St) : Prop := endV tb md 48 Tryz.f48 [(.d (.p (.string a0)))] .ret S = some (impl_IsKey.enc r)
def impl_IsKey.l0 (a0 : ByteArray) (y1 : List ByteArray) (K : Nat) : Nat → Int → Option (Bool ⊕ Unit)
  | 0, _ => none
  | k + 1, v3 => if v3 < (y1.length : Int) then ((at_ y1 v3).bind fun x5 => (if (x5.toList == a0.toList) = true then (some (.inl true)) else (impl_IsKey.l0 a0 y1 K k (w64 (v3 + 1))))) else (some (.inr ()))
def impl_IsKey.f  (K : Nat) (a0 : ByteArray) : Option (Bool) := jn (fun (_ : Unit) => some false) (fun j => (strings_Split.f (⟨#[102, 117, 110, 32, 97, 112, 112, 32, 108, 101, 116, 32, 114, 101, 99, 32, 105, 102, 32, 97, 100, 100, 32, 115, 117, 98, 32, 108, 101, 115, 115, 32, 115, 97, 109, 101, 32, 112, 97, 105, 114, 32, 102, 115, 116, 32, 115, 110, 100, 32, 110, 105, 108, 32, 99, 111, 110, 115, 32, 109, 97, 116, 99, 104, 32, 114, 101, 102, 32, 103, 101, 116, 32, 115, 101, 116, 32, 114, 97, 105, 115, 101, 32, 116, 114, 121]⟩ : ByteArray) (⟨#[32]⟩ : ByteArray)).bind fun y1 => (lb (impl_IsKey.l0 a0 y1 K K 0) (fun r => some r) (fun (_ : Unit) => j ())))
theorem impl_IsKey.ev   {K : Nat} {a0 : ByteArray} {r : Bool} (h : impl_IsKey.f  K a0 = some r) : E 48 [(.d (.p (.string a0)))] = some ([(.d (.p (.bool r)))], []) := by
  refine Ev_intro (fn := Tryz.f48) rfl (by kernel_rfl) (c := _) rfl ⟨rfl, by simp⟩ rfl (evP_spec _ ?_)
  unfold impl_IsKey.f at h
  refine seqJ h 15 (fun x => []) (fun x => []) (fun J h => ?_) ?_
  · refine bindG h fun y1 hy2 h => ?_
    refine exM ([(.own true 1 (y1.map eS))], []) ?_ ?_
    · exact strings_Split.ev hy2
    refine eqM ((y1.length : Int) : Int) (mLen rfl) ?_
    refine loopB (α := Int) (a := 0) 15 (fun x => [(0, (.d (.p (.string a0)))), (5, (.own 5 0 2)), (6, (.d (.p (.int .i64 (y1.length : Int))))), (7, (.d (.p (.int .i64 x))))]) (fun x => [(5, 0, 2, (some (.row true true 1 (y1.map eS))))]) (fun k x => impl_IsKey.l0 a0 y1 K k x) (impl_IsKey.en a0) 0 (fun x => []) (fun x => []) h (fun _ => rfl) ?_ ⟨rfl, ⟨rfl, rfl, rfl, rfl, trivial⟩, ⟨rfl, trivial⟩⟩ ?_ ?_
    · rintro k v3 r h e hp
      replace h : impl_IsKey.l0 a0 y1 K (k + 1) v3 = some r := h
      unfold impl_IsKey.l0 at h
      refine goS ?_
      try ((with_reducible apply cdX); exact rfl)
      refine iteF h (fun c4 h => ?_) (fun c4 h => ?_)
      · refine goS ?_
        refine bindG h fun x5 hx5 h => ?_
        refine anM (at_ix rfl hx5) ?_
        refine exM (eS x5) (at_get rfl hx5) ?_
        refine ifB h (fun c6 h => ?_) (fun c6 h => ?_)
        · exact lqL h rfl
        · exact ⟨(w64 (v3 + 1)), h, ⟨rfl, ⟨rfl, rfl, rfl, rfl, trivial⟩, ⟨rfl, trivial⟩⟩⟩
      · refine lqR h ?_
        exact ⟨rfl, trivial, trivial⟩
    · intro r' S' h q
      exact retE (enc := impl_IsKey.enc) h q
    · rintro _ S' h ⟨qn, ⟨_⟩, ⟨_⟩⟩
      exact ⟨(), h, ⟨qn, trivial, trivial⟩⟩
  · rintro _ h e hp
    exact retE (enc := impl_IsKey.enc) h rfl
def impl_isName.enc (r : Bool) : Res := ([(.d (.p (.bool r)))], [])
def impl_isName.f  (K : Nat) (a0 : ByteArray) : Option (Bool) := (impl_IsWord.f K a0).bind fun y1 => (if y1 = true then ((impl_IsKey.f K a0).bind fun y4 => (some (!y4))) else (some false))
theorem impl_isName.ev   {K : Nat} {a0 : ByteArray} {r : Bool} (h : impl_isName.f  K a0 = some r) : E 108 [(.d (.p (.string a0)))] = some ([(.d (.p (.bool r)))], []) := by
  refine Ev_intro (fn := Tryz.f108) rfl (by kernel_rfl) (c := _) rfl ⟨rfl, by simp⟩ rfl (evP_spec _ ?_)
  unfold impl_isName.f at h
  refine goS ?_
  refine bindG h fun y1 hy2 h => ?_
  refine exM ([(.d (.p (.bool y1)))], []) ?_ ?_
  · exact impl_IsWord.ev hy2
  refine ifB h (fun c3 h => ?_) (fun c3 h => ?_)
  · refine Ask.T rfl ?_
    refine bindG h fun y4 hy5 h => ?_
    refine exM ([(.d (.p (.bool y4)))], []) ?_ ?_
    · exact impl_IsKey.ev hy5
    refine Ask.T rfl ?_
    refine Ask.T rfl ?_
    exact retE (enc := impl_isName.enc) h rfl
  · refine Ask.F rfl ?_
    refine Ask.F rfl ?_
    refine Ask.F rfl ?_
    exact retE (enc := impl_isName.enc) h rfl
def impl_nameFits.enc (r : Bool) : Res := ([(.d (.p (.bool r)))], [])
def impl_nameFits.f  (K : Nat) (a0 : ByteArray) (a1 : Bool) : Option (Bool) := if a1 = true then ((impl_isName.f K a0).bind fun y2 => (some y2)) else (some (a0.toList == (⟨#[]⟩ : ByteArray).toList))
theorem impl_nameFits.ev   {K : Nat} {a0 : ByteArray} {a1 : Bool} {r : Bool} (h : impl_nameFits.f  K a0 a1 = some r) : E 92 [(.d (.p (.string a0))), (.d (.p (.bool a1)))] = some ([(.d (.p (.bool r)))], []) := by
  refine Ev_intro (fn := Tryz.f92) rfl (by kernel_rfl) (c := _) rfl ⟨rfl, by simp⟩ rfl (evP_spec _ ?_)
  unfold impl_nameFits.f at h
  refine goS ?_
  try ((with_reducible apply cdX); exact rfl)
  refine ifB h (fun c1 h => ?_) (fun c1 h => ?_)
  · refine bindG h fun y2 hy3 h => ?_
    refine exM ([(.d (.p (.bool y2)))], []) ?_ ?_
    · exact impl_isName.ev hy3
    exact retE (enc := impl_nameFits.enc) h rfl
  · exact retE (enc := impl_nameFits.enc) h rfl
def impl_Arity.enc (r : Int) : Res := ([(.d (.p (.int .i64 r)))], [])
def impl_Arity.f  (K : Nat) (a0 : Int) : Option (Int) := jn (fun (v1 : Bool) => if v1 = true then (some 1) else (jn (fun (v8 : Bool) => if v8 = true then (some 2) else (jn (fun (v17 : Bool) => if v17 = true then (some 3) else (some 0)) (fun j => if a0 = 7 then (j true) else (j (decide (a0 = 14)))))) (fun j => if a0 = 4 then (j true) else (if a0 = 5 then (j true) else (if a0 = 6 then (j true) else (if a0 = 8 then (j true) else (if a0 = 9 then (j true) else (if a0 = 13 then (j true) else (if a0 = 17 then (j true) else (j (decide (a0 = 19)))))))))))) (fun j => if a0 = 3 then (j true) else (if a0 = 10 then (j true) else (if a0 = 11 then (j true) else (if a0 = 15 then (j true) else (if a0 = 16 then (j true) else (j (decide (a0 = 18))))))))
theorem impl_Arity.ev   {K : Nat} {a0 : Int} {r : Int} (h : impl_Arity.f  K a0 = some r) : E 94 [(.d (.p (.int .i64 a0)))] = some ([(.d (.p (.int .i64 r)))], []) := by
  refine Ev_intro (fn := Tryz.f94) rfl (by kernel_rfl) (c := _) rfl ⟨rfl, by simp⟩ rfl (evP_spec _ ?_)
  unfold impl_Arity.f at h
  refine goS ?_
  refine seqJ h 23 (fun x => [(3, (.d (.p (.int .i64 a0)))), (4, (.d (.p (.bool x))))]) (fun x => []) (fun J h => ?_) ?_
  · try ((with_reducible apply cdX); exact rfl)
    refine iteF h (fun c2 h => ?_) (fun c2 h => ?_)
    · exact ⟨true, h, ⟨rfl, ⟨rfl, rfl, trivial⟩, trivial⟩⟩
    · try ((with_reducible apply cdX); exact rfl)
      refine iteF h (fun c3 h => ?_) (fun c3 h => ?_)
      · exact ⟨true, h, ⟨rfl, ⟨rfl, rfl, trivial⟩, trivial⟩⟩
      · try ((with_reducible apply cdX); exact rfl)
        refine iteF h (fun c4 h => ?_) (fun c4 h => ?_)
        · exact ⟨true, h, ⟨rfl, ⟨rfl, rfl, trivial⟩, trivial⟩⟩
        · try ((with_reducible apply cdX); exact rfl)
          refine iteF h (fun c5 h => ?_) (fun c5 h => ?_)
          · exact ⟨true, h, ⟨rfl, ⟨rfl, rfl, trivial⟩, trivial⟩⟩
          · try ((with_reducible apply cdX); exact rfl)
            refine iteF h (fun c6 h => ?_) (fun c6 h => ?_)
            · exact ⟨true, h, ⟨rfl, ⟨rfl, rfl, trivial⟩, trivial⟩⟩
            · exact ⟨(decide (a0 = 18)), h, ⟨rfl, ⟨rfl, rfl, trivial⟩, trivial⟩⟩
  · rintro v1 h e hp
    try ((with_reducible apply cdX); exact rfl)
    refine ifB h (fun c7 h => ?_) (fun c7 h => ?_)
    · exact retE (enc := impl_Arity.enc) h rfl
    · refine seqJ h 23 (fun x => [(3, (.d (.p (.int .i64 a0)))), (11, (.d (.p (.bool x))))]) (fun x => []) (fun J h => ?_) ?_
      · try ((with_reducible apply cdX); exact rfl)
        refine iteF h (fun c9 h => ?_) (fun c9 h => ?_)
        · exact ⟨true, h, ⟨rfl, ⟨rfl, rfl, trivial⟩, trivial⟩⟩
        · try ((with_reducible apply cdX); exact rfl)
          refine iteF h (fun c10 h => ?_) (fun c10 h => ?_)
          · exact ⟨true, h, ⟨rfl, ⟨rfl, rfl, trivial⟩, trivial⟩⟩
          · try ((with_reducible apply cdX); exact rfl)
            refine iteF h (fun c11 h => ?_) (fun c11 h => ?_)
            · exact ⟨true, h, ⟨rfl, ⟨rfl, rfl, trivial⟩, trivial⟩⟩
            · try ((with_reducible apply cdX); exact rfl)
              refine iteF h (fun c12 h => ?_) (fun c12 h => ?_)
              · exact ⟨true, h, ⟨rfl, ⟨rfl, rfl, trivial⟩, trivial⟩⟩
              · try ((with_reducible apply cdX); exact rfl)
                refine iteF h (fun c13 h => ?_) (fun c13 h => ?_)
                · exact ⟨true, h, ⟨rfl, ⟨rfl, rfl, trivial⟩, trivial⟩⟩
                · try ((with_reducible apply cdX); exact rfl)
                  refine iteF h (fun c14 h => ?_) (fun c14 h => ?_)
                  · exact ⟨true, h, ⟨rfl, ⟨rfl, rfl, trivial⟩, trivial⟩⟩
                  · try ((with_reducible apply cdX); exact rfl)
                    refine iteF h (fun c15 h => ?_) (fun c15 h => ?_)
                    · exact ⟨true, h, ⟨rfl, ⟨rfl, rfl, trivial⟩, trivial⟩⟩
                    · exact ⟨(decide (a0 = 19)), h, ⟨rfl, ⟨rfl, rfl, trivial⟩, trivial⟩⟩
      · rintro v8 h e hp
        try ((with_reducible apply cdX); exact rfl)
        refine ifB h (fun c16 h => ?_) (fun c16 h => ?_)
        · exact retE (enc := impl_Arity.enc) h rfl
        · refine seqJ h 23 (fun x => [(20, (.d (.p (.bool x))))]) (fun x => []) (fun J h => ?_) ?_
          · try ((with_reducible apply cdX); exact rfl)
            refine iteF h (fun c18 h => ?_) (fun c18 h => ?_)
            · exact ⟨true, h, ⟨rfl, ⟨rfl, trivial⟩, trivial⟩⟩
            · exact ⟨(decide (a0 = 14)), h, ⟨rfl, ⟨rfl, trivial⟩, trivial⟩⟩
          · rintro v17 h e hp
            try ((with_reducible apply cdX); exact rfl)
            refine ifB h (fun c19 h => ?_) (fun c19 h => ?_)
            · exact retE (enc := impl_Arity.enc) h rfl
            · exact retE (enc := impl_Arity.enc) h rfl
def impl_fieldsOk.enc (r : Bool) : Res := ([(.d (.p (.bool r)))], [])
def impl_fieldsOk.en (a0 : impl_Node) (r : Bool) (S : St) : Prop := endV tb md 65 Tryz.f65 [(.agg (a0.e.map .d))] .ret S = some (impl_fieldsOk.enc r)
def impl_fieldsOk.l0 (a0 : impl_Node) (K : Nat) : Nat → Int → Option (Bool ⊕ Unit)
  | 0, _ => none
  | k + 1, v15 => if v15 < 3 then ((at_ ([a0.A, a0.B, a0.C] : List Int) v15).bind fun x17 => (jn (fun (v18 : Bool) => if v18 = true then (some (.inl false)) else (impl_fieldsOk.l0 a0 K k (w64 (v15 + 1)))) (fun j => (impl_Arity.f K a0.Kind).bind fun y19 => (if v15 ≥ y19 then (j (!(decide (x17 = 0)))) else (j false))))) else (some (.inr ()))
def impl_fieldsOk.f  (K : Nat) (a0 : impl_Node) : Option (Bool) := jn (fun (v1 : Bool) => if v1 = true then (some false) else (jn (fun (_ : Unit) => if a0.Kind = 2 then ((impl_in.f K a0.N 0 65535).bind fun y24 => (some y24)) else (if a0.Kind = 8 then ((impl_in.f K a0.N 0 3).bind fun y27 => (some y27)) else (some (decide (a0.N = 0))))) (fun j => lb (impl_fieldsOk.l0 a0 K K 0) (fun r => some r) (fun (_ : Unit) => j ())))) (fun j => (impl_in.f K a0.Kind 1 19).bind fun y2 => (if (!y2) = true then (j true) else ((impl_namesOf.f K a0.Kind).bind fun y5 => ((impl_nameFits.f K a0.Name (decide (y5 > 0))).bind fun y7 => (if (!y7) = true then (j true) else ((impl_namesOf.f K a0.Kind).bind fun y10 => ((impl_nameFits.f K a0.Other (decide (y10 > 1))).bind fun y12 => (j (!y12)))))))))
theorem impl_fieldsOk.ev   {K : Nat} {a0 : impl_Node} {r : Bool} (h : impl_fieldsOk.f  K a0 = some r) : E 65 [(.agg (a0.e.map .d))] = some ([(.d (.p (.bool r)))], []) := by
  refine Ev_intro (fn := Tryz.f65) rfl (by kernel_rfl) (c := _) rfl ⟨rfl, by simp⟩ rfl (evP_spec _ ?_)
  unfold impl_fieldsOk.f at h
  refine goS ?_
  refine seqJ h 67 (fun x => [(1, (.ptr 1 0 2 0)), (28, (.d (.p (.bool x))))]) (fun x => [(1, 0, 2, (some (.box [(.d (.p (.int .i64 a0.Kind))), (.d (.p (.int .i64 a0.A))), (.d (.p (.int .i64 a0.B))), (.d (.p (.int .i64 a0.C))), (.d (.p (.int .i64 a0.N))), (.d (.p (.string a0.Name))), (.d (.p (.string a0.Other)))])))]) (fun J h => ?_) ?_
  · refine ⟨[[], [], [], [], [], [12, 13, 14], [12, 13, 14], [10, 11], [10, 11], [10, 11], [], [], [], [], [], [22, 23, 24], [22, 23, 24], [20, 21], [20, 21], [20, 21], [], [], [], []], [], by kernel_rfl, ?_⟩
    refine bindG h fun y2 hy3 h => ?_
    refine exM ([(.d (.p (.bool y2)))], []) ?_ ?_
    · exact impl_in.ev hy3
    refine ifB h (fun c4 h => ?_) (fun c4 h => ?_)
    · refine Ask.T rfl ?_
      refine Ask.T rfl ?_
      refine Ask.T rfl ?_
      refine Ask.T rfl ?_
      refine Ask.T rfl ?_
      refine Ask.T rfl ?_
      refine Ask.T rfl ?_
      refine Ask.T rfl ?_
      refine Ask.T rfl ?_
      refine Ask.T rfl ?_
      refine Ask.T rfl ?_
      refine Ask.T rfl ?_
      refine Ask.T rfl ?_
      refine Ask.T rfl ?_
      refine Ask.T rfl ?_
      refine Ask.T rfl ?_
      refine Ask.T rfl ?_
      exact ⟨true, h, ⟨rfl, ⟨rfl, rfl, trivial⟩, ⟨rfl, trivial⟩⟩⟩
    · refine Ask.F rfl ?_
      refine Ask.F rfl ?_
      refine Ask.F rfl ?_
      refine Ask.F rfl ?_
      refine bindG h fun y5 hy6 h => ?_
      refine exM ([(.d (.p (.int .i64 y5)))], []) ?_ ?_
      · exact impl_namesOf.ev hy6
      refine Ask.F rfl ?_
      refine Ask.F rfl ?_
      refine bindG h fun y7 hy8 h => ?_
      refine exM ([(.d (.p (.bool y7)))], []) ?_ ?_
      · exact impl_nameFits.ev hy8
      refine Ask.F rfl ?_
      refine Ask.F rfl ?_
      refine ifB h (fun c9 h => ?_) (fun c9 h => ?_)
      · refine Ask.T rfl ?_
        refine Ask.T rfl ?_
        refine Ask.T rfl ?_
        refine Ask.T rfl ?_
        refine Ask.T rfl ?_
        refine Ask.T rfl ?_
        refine Ask.T rfl ?_
        refine Ask.T rfl ?_
        exact ⟨true, h, ⟨rfl, ⟨rfl, rfl, trivial⟩, ⟨rfl, trivial⟩⟩⟩
      · refine Ask.F rfl ?_
        refine Ask.F rfl ?_
        refine Ask.F rfl ?_
        refine Ask.F rfl ?_
        refine bindG h fun y10 hy11 h => ?_
        refine exM ([(.d (.p (.int .i64 y10)))], []) ?_ ?_
        · exact impl_namesOf.ev hy11
        refine Ask.F rfl ?_
        refine Ask.F rfl ?_
        refine bindG h fun y12 hy13 h => ?_
        refine exM ([(.d (.p (.bool y12)))], []) ?_ ?_
        · exact impl_nameFits.ev hy13
        refine Ask.F rfl ?_
        refine Ask.F rfl ?_
        exact ⟨(!y12), h, ⟨rfl, ⟨rfl, rfl, trivial⟩, ⟨rfl, trivial⟩⟩⟩
  · rintro v1 h e hp
    try ((with_reducible apply cdX); exact rfl)
    refine ifB h (fun c14 h => ?_) (fun c14 h => ?_)
    · exact retE (enc := impl_fieldsOk.enc) h rfl
    · refine seqJ h 67 (fun x => [(1, (.ptr 1 0 2 0))]) (fun x => [(1, 0, 2, (some (.box [(.d (.p (.int .i64 a0.Kind))), (.d (.p (.int .i64 a0.A))), (.d (.p (.int .i64 a0.B))), (.d (.p (.int .i64 a0.C))), (.d (.p (.int .i64 a0.N))), (.d (.p (.string a0.Name))), (.d (.p (.string a0.Other)))])))]) (fun J h => ?_) ?_
      · refine eqM (([a0.A, a0.B, a0.C] : List Int).map eI) rfl ?_
        refine eqM (3 : Int) rfl ?_
        refine loopB (α := Int) (a := 0) 67 (fun x => [(1, (.ptr 1 0 2 0)), (35, (.own 35 0 2)), (36, (.d (.p (.int .i64 3)))), (37, (.d (.p (.int .i64 x))))]) (fun x => [(1, 0, 2, (some (.box [(.d (.p (.int .i64 a0.Kind))), (.d (.p (.int .i64 a0.A))), (.d (.p (.int .i64 a0.B))), (.d (.p (.int .i64 a0.C))), (.d (.p (.int .i64 a0.N))), (.d (.p (.string a0.Name))), (.d (.p (.string a0.Other)))]))), (35, 0, 2, (some (.row true true 1 (([a0.A, a0.B, a0.C] : List Int).map eI))))]) (fun k x => impl_fieldsOk.l0 a0 K k x) (impl_fieldsOk.en a0) 0 (fun x => [(1, (.ptr 1 0 2 0))]) (fun x => [(1, 0, 2, (some (.box [(.d (.p (.int .i64 a0.Kind))), (.d (.p (.int .i64 a0.A))), (.d (.p (.int .i64 a0.B))), (.d (.p (.int .i64 a0.C))), (.d (.p (.int .i64 a0.N))), (.d (.p (.string a0.Name))), (.d (.p (.string a0.Other)))])))]) h (fun _ => rfl) ?_ ⟨rfl, ⟨rfl, rfl, rfl, rfl, trivial⟩, ⟨rfl, rfl, trivial⟩⟩ ?_ ?_
        · rintro k v15 r h e hp
          replace h : impl_fieldsOk.l0 a0 K (k + 1) v15 = some r := h
          unfold impl_fieldsOk.l0 at h
          refine goS ?_
          try ((with_reducible apply cdX); exact rfl)
          refine iteF h (fun c16 h => ?_) (fun c16 h => ?_)
          · refine goS ?_
            refine bindG h fun x17 hx17 h => ?_
            refine anM (at_ix rfl hx17) ?_
            refine exM (eI x17) (at_get rfl hx17) ?_
            refine seqJ h 67 (fun x => [(1, (.ptr 1 0 2 0)), (35, (.own 35 0 2)), (36, (.d (.p (.int .i64 3)))), (37, (.d (.p (.int .i64 v15)))), (50, (.d (.p (.bool x))))]) (fun x => [(1, 0, 2, (some (.box [(.d (.p (.int .i64 a0.Kind))), (.d (.p (.int .i64 a0.A))), (.d (.p (.int .i64 a0.B))), (.d (.p (.int .i64 a0.C))), (.d (.p (.int .i64 a0.N))), (.d (.p (.string a0.Name))), (.d (.p (.string a0.Other)))]))), (35, 0, 2, (some (.row true true 1 (([a0.A, a0.B, a0.C] : List Int).map eI))))]) (fun J h => ?_) ?_
            · refine bindG h fun y19 hy20 h => ?_
              refine exM ([(.d (.p (.int .i64 y19)))], []) ?_ ?_
              · exact impl_Arity.ev hy20
              refine iteF h (fun c21 h => ?_) (fun c21 h => ?_)
              · refine Ask.T rfl ?_
                refine Ask.T rfl ?_
                exact ⟨(!(decide (x17 = 0))), h, ⟨rfl, ⟨rfl, rfl, rfl, rfl, rfl, trivial⟩, ⟨rfl, rfl, trivial⟩⟩⟩
              · refine Ask.F rfl ?_
                refine Ask.F rfl ?_
                exact ⟨false, h, ⟨rfl, ⟨rfl, rfl, rfl, rfl, rfl, trivial⟩, ⟨rfl, rfl, trivial⟩⟩⟩
            · rintro v18 h e hp
              try ((with_reducible apply cdX); exact rfl)
              refine ifB h (fun c22 h => ?_) (fun c22 h => ?_)
              · exact lqL h rfl
              · exact ⟨(w64 (v15 + 1)), h, ⟨rfl, ⟨rfl, rfl, rfl, rfl, trivial⟩, ⟨rfl, rfl, trivial⟩⟩⟩
          · refine lqR h ?_
            exact ⟨rfl, ⟨rfl, trivial⟩, ⟨rfl, trivial⟩⟩
        · intro r' S' h q
          exact retE (enc := impl_fieldsOk.enc) h q
        · rintro _ S' h ⟨qn, ⟨qa0, _⟩, ⟨qb0, _⟩⟩
          exact ⟨(), h, ⟨qn, ⟨qa0, trivial⟩, ⟨qb0, trivial⟩⟩⟩
      · rintro _ h e hp
        refine goS ?_
        try ((with_reducible apply cdX); exact rfl)
        refine iteF h (fun c23 h => ?_) (fun c23 h => ?_)
        · refine bindG h fun y24 hy25 h => ?_
          refine exM ([(.d (.p (.bool y24)))], []) ?_ ?_
          · exact impl_in.ev hy25
          exact retE (enc := impl_fieldsOk.enc) h rfl
        · try ((with_reducible apply cdX); exact rfl)
          refine iteF h (fun c26 h => ?_) (fun c26 h => ?_)
          · refine bindG h fun y27 hy28 h => ?_
            refine exM ([(.d (.p (.bool y27)))], []) ?_ ?_
            · exact impl_in.ev hy28
            exact retE (enc := impl_fieldsOk.enc) h rfl
          · exact retE (enc := impl_fieldsOk.enc) h rfl
end Go.Proofs.YtfkanjgfjejgiaaGreatDoorE
