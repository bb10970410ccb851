/- For Go functions of the program: their Lean functions, and that Go answers as these do. Written by a program of the session (evprint.py). -/
import Derived.Test.YtifomiglajcanaaGreatDoorZEvPr
import Derived.Test.YtifomiglajcanaaGreatDoorEvG
set_option linter.unusedSimpArgs false
set_option linter.unusedVariables false
namespace Go.Proofs.YtifomiglajcanaaGreatDoorE
open Go.Ev
set_option linter.unusedVariables false
set_option maxRecDepth 100000
set_option maxHeartbeats 4000000
def md : Md := fun f => match f with
  | 8 => ([], [true])
  | 36 => ([], [true])
  | 50 => ([], [true, false])
  | 61 => ([], [true])
  | 62 => ([], [true])
  | 81 => ([], [true])
  | 83 => ([], [true, true])
  | 89 => ([2], [true])
  | 90 => ([], [true, true])
  | 119 => ([2], [])
  | 150 => ([], [true])
  | 2000054 => ([0, 1, 2, 3, 4, 5, 6, 8, 9, 10, 11], [])
  | 3000039 => ([105], [])
  | 3000092 => ([105], [])
  | 4000039 => ([1], [])
  | 4000055 => ([1], [])
  | 4000085 => ([1], [])
  | 4000092 => ([1], [])
  | 5000039 => ([4, 5, 6, 7, 8, 9, 10, 11, 12, 13], [])
  | 1000004 => ([125, 145, 160, 500020], [])
  | 1000003 => ([790000350005], [])
  | _ => ([], [])
noncomputable abbrev E := Go.Ev.Ev Tryz.prog tb md prim
theorem impl_Dec.ev {n : Int} {r : ByteArray} (h : impl_Dec.f n = some r) : E 38 [(.d (.p (.int .i64 n)))] = some ([(.d (.p (.string r)))], []) := Ev_prim rfl (by show (impl_Dec.f n).map _ = _; rw [h]; rfl)
theorem strings_Split.ev {a b : ByteArray} {r : List ByteArray} (h : strings_Split.f a b = some r) : E 49 [(.d (.p (.string a))), (.d (.p (.string b)))] = some ([(.own true 1 (r.map eS))], []) := Ev_prim rfl (by show (strings_Split.f a b).map _ = _; rw [h]; rfl)
theorem sort_Strings.ev {a r : List ByteArray} (h : sort_Strings.f a = some r) : E 119 [(.lend true 1 (a.map eS))] = some ([], [(.own true 1 (r.map eS))]) := Ev_prim rfl (by show (strsOf (a.map eS)).bind _ = _; rw [strsOf_map, Option.bind_some, h]; rfl)
structure impl_Event where
  Kind : Int
  Node : Int
  Fun : Int
def impl_Event.e (x : impl_Event) : List D := [(.p (.int .i64 x.Kind)), (.p (.int .i64 x.Node)), (.p (.int .i64 x.Fun))]
structure impl_Result where
  Kind : Int
  Text : ByteArray
  Tag : Int
  Steps : Int
  Events : List impl_Event
def impl_Result.e (x : impl_Result) : List D := [(.p (.int .i64 x.Kind)), (.p (.string x.Text)), (.p (.int .i64 x.Tag)), (.p (.int .i64 x.Steps)), (.l true 3 (x.Events.map impl_Event.e))]
structure laws_Node where
  Kind : Int
  A : Int
  B : Int
  C : Int
  N : Int
  Name : ByteArray
  Other : ByteArray
def laws_Node.e (x : laws_Node) : List D := [(.p (.int .i64 x.Kind)), (.p (.int .i64 x.A)), (.p (.int .i64 x.B)), (.p (.int .i64 x.C)), (.p (.int .i64 x.N)), (.p (.string x.Name)), (.p (.string x.Other))]
structure impl_Node where
  Kind : Int
  A : Int
  B : Int
  C : Int
  N : Int
  Name : ByteArray
  Other : ByteArray
def impl_Node.e (x : impl_Node) : List D := [(.p (.int .i64 x.Kind)), (.p (.int .i64 x.A)), (.p (.int .i64 x.B)), (.p (.int .i64 x.C)), (.p (.int .i64 x.N)), (.p (.string x.Name)), (.p (.string x.Other))]
structure impl_Val where
  Kind : Int
  N : Int
def impl_Val.e (x : impl_Val) : List D := [(.p (.int .i64 x.Kind)), (.p (.int .i64 x.N))]
structure impl_EnvCell where
  Node : Int
  Role : Int
  Val : impl_Val
  Next : Int
def impl_EnvCell.e (x : impl_EnvCell) : List D := [(.p (.int .i64 x.Node)), (.p (.int .i64 x.Role)), (.p (.int .i64 x.Val.Kind)), (.p (.int .i64 x.Val.N)), (.p (.int .i64 x.Next))]
structure impl_Clo where
  Node : Int
  Env : Int
def impl_Clo.e (x : impl_Clo) : List D := [(.p (.int .i64 x.Node)), (.p (.int .i64 x.Env))]
structure impl_Two where
  A : impl_Val
  B : impl_Val
def impl_Two.e (x : impl_Two) : List D := [(.p (.int .i64 x.A.Kind)), (.p (.int .i64 x.A.N)), (.p (.int .i64 x.B.Kind)), (.p (.int .i64 x.B.N))]
structure impl_Heap where
  Envs : List impl_EnvCell
  Clos : List impl_Clo
  Twos : List impl_Two
  Refs : List impl_Val
def impl_Heap.e (x : impl_Heap) : List D := [(.l true 5 (x.Envs.map impl_EnvCell.e)), (.l true 2 (x.Clos.map impl_Clo.e)), (.l true 4 (x.Twos.map impl_Two.e)), (.l true 2 (x.Refs.map impl_Val.e))]
structure spec_l11Frame where
  node : Int
  env : Int
  val : impl_Val
  stage : Int
def spec_l11Frame.e (x : spec_l11Frame) : List D := [(.p (.int .i64 x.node)), (.p (.int .i64 x.env)), (.p (.int .i64 x.val.Kind)), (.p (.int .i64 x.val.N)), (.p (.int .i64 x.stage))]
structure spec_l11State where
  mode : Int
  node : Int
  env : Int
  val : impl_Val
  stack : List spec_l11Frame
  h_ : impl_Heap
  ev : List impl_Event
  stuck : Bool
def spec_l11State.e (x : spec_l11State) : List D := [(.p (.int .i64 x.mode)), (.p (.int .i64 x.node)), (.p (.int .i64 x.env)), (.p (.int .i64 x.val.Kind)), (.p (.int .i64 x.val.N)), (.l true 5 (x.stack.map spec_l11Frame.e)), (.l true 5 (x.h_.Envs.map impl_EnvCell.e)), (.l true 2 (x.h_.Clos.map impl_Clo.e)), (.l true 4 (x.h_.Twos.map impl_Two.e)), (.l true 2 (x.h_.Refs.map impl_Val.e)), (.l true 3 (x.ev.map impl_Event.e)), (.p (.bool x.stuck))]
structure impl_Bind where
  Node : Int
  Role : Int
def impl_Bind.e (x : impl_Bind) : List D := [(.p (.int .i64 x.Node)), (.p (.int .i64 x.Role))]
structure impl_frame where
  wait : Int
  node : Int
  env : Int
  v_ : impl_Val
def impl_frame.e (x : impl_frame) : List D := [(.p (.int .i64 x.wait)), (.p (.int .i64 x.node)), (.p (.int .i64 x.env)), (.p (.int .i64 x.v_.Kind)), (.p (.int .i64 x.v_.N))]
structure impl_machine where
  Heap : impl_Heap
  l : List impl_Node
  uses : List impl_Bind
  do_ : Int
  node : Int
  env : Int
  v_ : impl_Val
  frames : List impl_frame
  events : List impl_Event
  stuck : Bool
def impl_machine.e (x : impl_machine) : List D := [(.l true 5 (x.Heap.Envs.map impl_EnvCell.e)), (.l true 2 (x.Heap.Clos.map impl_Clo.e)), (.l true 4 (x.Heap.Twos.map impl_Two.e)), (.l true 2 (x.Heap.Refs.map impl_Val.e)), (.l true 7 (x.l.map impl_Node.e)), (.l true 2 (x.uses.map impl_Bind.e)), (.p (.int .i64 x.do_)), (.p (.int .i64 x.node)), (.p (.int .i64 x.env)), (.p (.int .i64 x.v_.Kind)), (.p (.int .i64 x.v_.N)), (.l true 5 (x.frames.map impl_frame.e)), (.l true 3 (x.events.map impl_Event.e)), (.p (.bool x.stuck))]
abbrev impl_Heap.q (x : impl_Heap) : List T := [(.own true 5 (x.Envs.map impl_EnvCell.e)), (.own true 2 (x.Clos.map impl_Clo.e)), (.own true 4 (x.Twos.map impl_Two.e)), (.own true 2 (x.Refs.map impl_Val.e))]
abbrev spec_l11State.q (x : spec_l11State) : List T := [(.d (.p (.int .i64 x.mode))), (.d (.p (.int .i64 x.node))), (.d (.p (.int .i64 x.env))), (.d (.p (.int .i64 x.val.Kind))), (.d (.p (.int .i64 x.val.N))), (.own true 5 (x.stack.map spec_l11Frame.e)), (.own true 5 (x.h_.Envs.map impl_EnvCell.e)), (.own true 2 (x.h_.Clos.map impl_Clo.e)), (.own true 4 (x.h_.Twos.map impl_Two.e)), (.own true 2 (x.h_.Refs.map impl_Val.e)), (.own true 3 (x.ev.map impl_Event.e)), (.d (.p (.bool x.stuck)))]
abbrev impl_machine.q (x : impl_machine) : List T := [(.own true 5 (x.Heap.Envs.map impl_EnvCell.e)), (.own true 2 (x.Heap.Clos.map impl_Clo.e)), (.own true 4 (x.Heap.Twos.map impl_Two.e)), (.own true 2 (x.Heap.Refs.map impl_Val.e)), (.d (.l true 7 (x.l.map impl_Node.e))), (.own true 2 (x.uses.map impl_Bind.e)), (.d (.p (.int .i64 x.do_))), (.d (.p (.int .i64 x.node))), (.d (.p (.int .i64 x.env))), (.d (.p (.int .i64 x.v_.Kind))), (.d (.p (.int .i64 x.v_.N))), (.own true 5 (x.frames.map impl_frame.e)), (.own true 3 (x.events.map impl_Event.e)), (.d (.p (.bool x.stuck)))]
def spec_l11Clo_k.f (cl : List impl_Clo) (a b : Int) : Option (impl_Val × List impl_Clo) := gd ((cl.length + 1) * 16 ≤ 140737488355328) (some ((⟨1, (w64 (((cl ++ ([(⟨a, b⟩ : impl_Clo)] : List impl_Clo)).length : Int) - 1))⟩ : impl_Val), (cl ++ ([(⟨a, b⟩ : impl_Clo)] : List impl_Clo))))
theorem spec_l11Clo_k.ev {cl : List impl_Clo} {a b : Int} {r : impl_Val × List impl_Clo} (h : spec_l11Clo_k.f cl a b = some r) : E 1000054 [(.ptr (cloTs (fun _ => tokT) (cl.map impl_Clo.e))), (.d (.p (.int .i64 a))), (.d (.p (.int .i64 b)))] = some ([(.agg (r.1.e.map .d))], [(.ptr (cloTs (fun _ => tokT) (r.2.map impl_Clo.e)))]) := by
  unfold spec_l11Clo_k.f gd at h
  split at h
  case isFalse => cases h
  rename_i hc
  cases h
  refine Ev_prim (F := primClo) rfl ?_
  show (if _ then _ else _) = _
  rw [if_pos ⟨rfl, rfl, by rw [List.length_map]; exact hc⟩, List.map_append]
  have e : ((cl.map impl_Clo.e ++ cloN a b).length : Int) = ((cl ++ ([(⟨a, b⟩ : impl_Clo)] : List impl_Clo)).length : Int) := by simp [cloN]
  rw [e]; rfl
def laws_szNode.enc (r : Int) : Res := ([(.d (.p (.int .i64 r)))], [])
def laws_szNode.f  (K : Nat) (a0 : laws_Node) (a1 : Int) : Option (Int) := if (w64 (a1 - (a0.Name.size : Int))) < 0 then (some (-1)) else (if (w64 ((w64 (a1 - (a0.Name.size : Int))) - (a0.Other.size : Int))) < 0 then (some (-1)) else (some (w64 ((w64 (a1 - (a0.Name.size : Int))) - (a0.Other.size : Int)))))
theorem laws_szNode.ev   {K : Nat} {a0 : laws_Node} {a1 : Int} {r : Int} (h : laws_szNode.f  K a0 a1 = some r) : E 22 [(.agg (a0.e.map .d)), (.d (.p (.int .i64 a1)))] = some ([(.d (.p (.int .i64 r)))], []) := by
  refine Ev_intro (fn := Tryz.f22) rfl (by kernel_rfl) (c := _) rfl ⟨rfl, by simp⟩ rfl (evP_spec _ ?_)
  unfold laws_szNode.f at h
  refine goS ?_
  try ((with_reducible apply cdX); exact rfl)
  refine iteF h (fun c1 h => ?_) (fun c1 h => ?_)
  · exact retE (enc := laws_szNode.enc) h rfl
  · refine goS ?_
    try ((with_reducible apply cdX); exact rfl)
    refine iteF h (fun c2 h => ?_) (fun c2 h => ?_)
    · exact retE (enc := laws_szNode.enc) h rfl
    · exact retE (enc := laws_szNode.enc) h rfl
def laws_szNodeS.enc (r : Int) : Res := ([(.d (.p (.int .i64 r)))], [])
def laws_szNodeS.en (a0 : List laws_Node) (a1 : Int) (r : Int) (S : St) : Prop := endV tb md 6 Tryz.f6 [(.d (.l true 7 (a0.map laws_Node.e))), (.d (.p (.int .i64 a1)))] .ret S = some (laws_szNodeS.enc r)
def laws_szNodeS.l0 (a0 : List laws_Node) (K : Nat) : Nat → Int → Int → Option (Int ⊕ Int)
  | 0, _, _ => none
  | k + 1, v3, v4 => if v4 < (a0.length : Int) then ((at_ a0 v4).bind fun x7 => ((laws_szNode.f K x7 v3).bind fun y8 => (if y8 < 0 then (some (.inl (-1))) else (laws_szNodeS.l0 a0 K k y8 (w64 (v4 + 1)))))) else (some (.inr v3))
def laws_szNodeS.f  (K : Nat) (a0 : List laws_Node) (a1 : Int) : Option (Int) := if (w64 (a1 - (a0.length : Int))) < 0 then (some (-1)) else (jn (fun (v2 : Int) => some v2) (fun j => lb (laws_szNodeS.l0 a0 K K (w64 (a1 - (a0.length : Int))) 0) (fun r => some r) (fun (v5 : Int) => j v5)))
theorem laws_szNodeS.ev   {K : Nat} {a0 : List laws_Node} {a1 : Int} {r : Int} (h : laws_szNodeS.f  K a0 a1 = some r) : E 6 [(.d (.l true 7 (a0.map laws_Node.e))), (.d (.p (.int .i64 a1)))] = some ([(.d (.p (.int .i64 r)))], []) := by
  refine Ev_intro (fn := Tryz.f6) rfl (by kernel_rfl) (c := _) rfl ⟨rfl, by simp⟩ rfl (evP_spec _ ?_)
  unfold laws_szNodeS.f at h
  refine eqM ((a0.length : Int) : Int) (mLen rfl) ?_
  refine goS ?_
  try ((with_reducible apply cdX); exact rfl)
  refine iteF h (fun c1 h => ?_) (fun c1 h => ?_)
  · exact retE (enc := laws_szNodeS.enc) h rfl
  · refine seqJ h 27 (fun x => [(1, (.d (.p (.int .i64 x))))]) (fun x => []) (fun J h => ?_) ?_
    · refine loopB (α := Int × Int) (a := ((w64 (a1 - (a0.length : Int))), 0)) 27 (fun x => [(0, (.d (.l true 7 (a0.map laws_Node.e)))), (1, (.d (.p (.int .i64 x.1)))), (5, (.d (.p (.int .i64 x.2))))]) (fun x => []) (fun k x => laws_szNodeS.l0 a0 K k x.1 x.2) (laws_szNodeS.en a0 a1) 0 (fun x => [(1, (.d (.p (.int .i64 x))))]) (fun x => []) h (fun _ => rfl) ?_ ⟨rfl, ⟨rfl, rfl, rfl, trivial⟩, trivial⟩ ?_ ?_
      · rintro k ⟨v3, v4⟩ r h e hp
        replace h : laws_szNodeS.l0 a0 K (k + 1) v3 v4 = some r := h
        unfold laws_szNodeS.l0 at h
        refine goS ?_
        refine eqM ((a0.length : Int) : Int) (mLen rfl) ?_
        refine iteF h (fun c6 h => ?_) (fun c6 h => ?_)
        · refine goS ?_
          refine bindG h fun x7 hx7 h => ?_
          refine anM (at_ix rfl hx7) ?_
          refine exM (laws_Node.e x7) (at_get rfl hx7) ?_
          refine bindG h fun y8 hy9 h => ?_
          refine exM ([(.d (.p (.int .i64 y8)))], []) ?_ ?_
          · exact laws_szNode.ev hy9
          refine iteF h (fun c10 h => ?_) (fun c10 h => ?_)
          · exact lqL h rfl
          · exact ⟨(y8, (w64 (v4 + 1))), h, ⟨rfl, ⟨rfl, rfl, rfl, trivial⟩, trivial⟩⟩
        · refine lqR h ?_
          exact ⟨rfl, ⟨rfl, trivial⟩, trivial⟩
      · intro r' S' h q
        exact retE (enc := laws_szNodeS.enc) h q
      · rintro v5 S' h ⟨qn, ⟨qa0, _⟩, ⟨_⟩⟩
        exact ⟨v5, h, ⟨qn, ⟨qa0, trivial⟩, trivial⟩⟩
    · rintro v2 h e hp
      exact retE (enc := laws_szNodeS.enc) h rfl
def laws_toNode.enc (r : impl_Node) : Res := ([(.agg (r.e.map .d))], [])
def laws_toNode.f  (K : Nat) (a0 : laws_Node) : Option (impl_Node) := some (⟨a0.Kind, a0.A, a0.B, a0.C, a0.N, a0.Name, a0.Other⟩ : impl_Node)
theorem laws_toNode.ev   {K : Nat} {a0 : laws_Node} {r : impl_Node} (h : laws_toNode.f  K a0 = some r) : E 24 [(.agg (a0.e.map .d))] = some ([(.agg (r.e.map .d))], []) := by
  refine Ev_intro (fn := Tryz.f24) rfl (by kernel_rfl) (c := _) rfl ⟨rfl, by simp⟩ rfl (evP_spec _ ?_)
  unfold laws_toNode.f at h
  refine goS ?_
  refine goS ?_
  refine goR ?_
  refine Re.mk 26 [(1, (.ptr 1 0 2 0)), (2, (.ptr 2 0 2 0)), (3, (.ptr 3 0 2 0))] [(1, 0, 2, (some (.box [(.d (.p (.int .i64 a0.Kind))), (.d (.p (.int .i64 a0.A))), (.d (.p (.int .i64 a0.B))), (.d (.p (.int .i64 a0.C))), (.d (.p (.int .i64 a0.N))), (.d (.p (.string a0.Name))), (.d (.p (.string a0.Other)))]))), (2, 0, 2, (some (.box [(.d (.p (.int .i64 0))), (.d (.p (.int .i64 0))), (.d (.p (.int .i64 0))), (.d (.p (.int .i64 0))), (.d (.p (.int .i64 0))), (.d (.p (.string (⟨#[]⟩ : ByteArray)))), (.d (.p (.string (⟨#[]⟩ : ByteArray))))]))), (3, 0, 2, (some (.box [(.d (.p (.int .i64 a0.Kind))), (.d (.p (.int .i64 a0.A))), (.d (.p (.int .i64 a0.B))), (.d (.p (.int .i64 0))), (.d (.p (.int .i64 0))), (.d (.p (.string (⟨#[]⟩ : ByteArray)))), (.d (.p (.string (⟨#[]⟩ : ByteArray))))])))] (by exact ⟨rfl, ⟨rfl, rfl, rfl, trivial⟩, ⟨rfl, rfl, rfl, trivial⟩⟩) ?_
  intro e hp
  refine goS ?_
  refine goS ?_
  refine goR ?_
  refine Re.mk 26 [(1, (.ptr 1 0 2 0)), (2, (.ptr 2 0 2 0)), (3, (.ptr 3 0 2 0))] [(1, 0, 2, (some (.box [(.d (.p (.int .i64 a0.Kind))), (.d (.p (.int .i64 a0.A))), (.d (.p (.int .i64 a0.B))), (.d (.p (.int .i64 a0.C))), (.d (.p (.int .i64 a0.N))), (.d (.p (.string a0.Name))), (.d (.p (.string a0.Other)))]))), (2, 0, 2, (some (.box [(.d (.p (.int .i64 0))), (.d (.p (.int .i64 0))), (.d (.p (.int .i64 0))), (.d (.p (.int .i64 0))), (.d (.p (.int .i64 0))), (.d (.p (.string (⟨#[]⟩ : ByteArray)))), (.d (.p (.string (⟨#[]⟩ : ByteArray))))]))), (3, 0, 2, (some (.box [(.d (.p (.int .i64 a0.Kind))), (.d (.p (.int .i64 a0.A))), (.d (.p (.int .i64 a0.B))), (.d (.p (.int .i64 a0.C))), (.d (.p (.int .i64 a0.N))), (.d (.p (.string a0.Name))), (.d (.p (.string (⟨#[]⟩ : ByteArray))))])))] (by exact ⟨rfl, ⟨rfl, rfl, rfl, trivial⟩, ⟨rfl, rfl, rfl, trivial⟩⟩) ?_
  intro e hp
  refine goS ?_
  refine goS ?_
  exact retE (enc := laws_toNode.enc) h rfl
def laws_toNodeS.enc (r : List impl_Node) : Res := ([(.own true 7 (r.map impl_Node.e))], [])
def laws_toNodeS.l0 (a0 : List laws_Node) (K : Nat) : Nat → Int → (List impl_Node) → Option (List impl_Node)
  | 0, _, _ => none
  | k + 1, v2, v3 => if v2 < (a0.length : Int) then ((at_ a0 v2).bind fun x6 => ((laws_toNode.f K x6).bind fun y7 => ((at_ v3 v2).bind fun x9 => (laws_toNodeS.l0 a0 K k (w64 (v2 + 1)) (v3.set (v2).toNat y7))))) else (some v3)
def laws_toNodeS.f  (K : Nat) (a0 : List laws_Node) : Option (List impl_Node) := gd (0 ≤ (a0.length : Int) ∧ 72 * (a0.length : Int) ≤ 140737488355328 ∧ (a0.length : Int) ≤ 140737488355328) (jn (fun (v1 : List impl_Node) => some v1) (fun j => (laws_toNodeS.l0 a0 K K 0 (List.replicate ((a0.length : Int)).toNat (⟨0, 0, 0, 0, 0, (⟨#[]⟩ : ByteArray), (⟨#[]⟩ : ByteArray)⟩ : impl_Node))).bind fun (v4 : List impl_Node) => j v4))
theorem laws_toNodeS.ev   {K : Nat} {a0 : List laws_Node} {r : List impl_Node} (h : laws_toNodeS.f  K a0 = some r) : E 8 [(.d (.l true 7 (a0.map laws_Node.e)))] = some ([(.own true 7 (r.map impl_Node.e))], []) := by
  refine Ev_intro (fn := Tryz.f8) rfl (by kernel_rfl) (c := _) rfl ⟨rfl, by simp⟩ rfl (evP_spec _ ?_)
  unfold laws_toNodeS.f at h
  refine eqM ((a0.length : Int) : Int) (mLen rfl) ?_
  refine gdG h fun hc h => ?_
  refine anM ⟨rfl, hc⟩ ?_
  refine eqM ((List.replicate ((a0.length : Int)).toNat (⟨0, 0, 0, 0, 0, (⟨#[]⟩ : ByteArray), (⟨#[]⟩ : ByteArray)⟩ : impl_Node)).map impl_Node.e) (mRep rfl) ?_
  refine seqJ h 23 (fun x => [(3, (.own 3 1 2))]) (fun x => [(3, 1, 2, (some (.row true true 7 (x.map impl_Node.e))))]) (fun J h => ?_) ?_
  · refine loopX (α := Int × List impl_Node) (a := (0, (List.replicate ((a0.length : Int)).toNat (⟨0, 0, 0, 0, 0, (⟨#[]⟩ : ByteArray), (⟨#[]⟩ : ByteArray)⟩ : impl_Node)))) 23 (fun x => [(0, (.d (.l true 7 (a0.map laws_Node.e)))), (3, (.own 3 1 2)), (4, (.d (.p (.int .i64 x.1))))]) (fun x => [(3, 1, 2, (some (.row true true 7 (x.2.map impl_Node.e))))]) (fun k x => laws_toNodeS.l0 a0 K k x.1 x.2) 0 (fun x => [(3, (.own 3 1 2))]) (fun x => [(3, 1, 2, (some (.row true true 7 (x.map impl_Node.e))))]) h (fun _ => rfl) ?_ ⟨rfl, ⟨rfl, rfl, rfl, trivial⟩, ⟨rfl, trivial⟩⟩ ?_
    · rintro k ⟨v2, v3⟩ r h e hp
      replace h : laws_toNodeS.l0 a0 K (k + 1) v2 v3 = some r := h
      unfold laws_toNodeS.l0 at h
      refine goS ?_
      refine eqM ((a0.length : Int) : Int) (mLen rfl) ?_
      refine iteF h (fun c5 h => ?_) (fun c5 h => ?_)
      · refine goS ?_
        refine bindG h fun x6 hx6 h => ?_
        refine anM (at_ix rfl hx6) ?_
        refine exM (laws_Node.e x6) (at_get rfl hx6) ?_
        refine bindG h fun y7 hy8 h => ?_
        refine exM ([(.agg (y7.e.map .d))], []) ?_ ?_
        · exact laws_toNode.ev hy8
        refine bindG h fun x9 hx9 h => ?_
        refine anM (at_ix rfl hx9) ?_
        refine exM (impl_Node.e x9) (at_get rfl hx9) ?_
        refine eqM ((v3.set (v2).toNat y7).map impl_Node.e) (mSet rfl rfl) ?_
        exact ⟨((w64 (v2 + 1)), (v3.set (v2).toNat y7)), h, ⟨rfl, ⟨rfl, rfl, rfl, trivial⟩, ⟨rfl, trivial⟩⟩⟩
      · refine exQ h ?_
        exact ⟨rfl, ⟨rfl, trivial⟩, ⟨rfl, trivial⟩⟩
    · rintro v4 S' h ⟨qn, ⟨qa0, _⟩, ⟨qb0, _⟩⟩
      exact ⟨v4, h, ⟨qn, ⟨qa0, trivial⟩, ⟨qb0, trivial⟩⟩⟩
  · rintro v1 h e hp
    exact retE (enc := laws_toNodeS.enc) h rfl
def spec_l1In.enc (r : Bool) : Res := ([(.d (.p (.bool r)))], [])
def spec_l1In.f  (K : Nat) (a0 : Int) (a1 : Int) (a2 : Int) : Option (Bool) := if a0 ≥ a1 then (some (decide (a0 ≤ a2))) else (some false)
theorem spec_l1In.ev   {K : Nat} {a0 : Int} {a1 : Int} {a2 : Int} {r : Bool} (h : spec_l1In.f  K a0 a1 a2 = some r) : E 28 [(.d (.p (.int .i64 a0))), (.d (.p (.int .i64 a1))), (.d (.p (.int .i64 a2)))] = some ([(.d (.p (.bool r)))], []) := by
  refine Ev_intro (fn := Tryz.f28) rfl (by kernel_rfl) (c := _) rfl ⟨rfl, by simp⟩ rfl (evP_spec _ ?_)
  unfold spec_l1In.f at h
  refine goS ?_
  try ((with_reducible apply cdX); exact rfl)
  refine iteF h (fun c1 h => ?_) (fun c1 h => ?_)
  · refine Ask.T rfl ?_
    refine Ask.T rfl ?_
    refine Ask.T rfl ?_
    exact retE (enc := spec_l1In.enc) h rfl
  · refine Ask.F rfl ?_
    refine Ask.F rfl ?_
    refine Ask.F rfl ?_
    exact retE (enc := spec_l1In.enc) h rfl
def spec_Arity.enc (r : Int) : Res := ([(.d (.p (.int .i64 r)))], [])
def spec_Arity.f  (K : Nat) (a0 : Int) : Option (Int) := jn (fun (v1 : Bool) => if v1 = true then (some 1) else (jn (fun (v8 : Bool) => if v8 = true then (some 2) else (jn (fun (v17 : Bool) => if v17 = true then (some 3) else (some 0)) (fun j => if a0 = 7 then (j true) else (j (decide (a0 = 14)))))) (fun j => if a0 = 4 then (j true) else (if a0 = 5 then (j true) else (if a0 = 6 then (j true) else (if a0 = 8 then (j true) else (if a0 = 9 then (j true) else (if a0 = 13 then (j true) else (if a0 = 17 then (j true) else (j (decide (a0 = 19)))))))))))) (fun j => if a0 = 3 then (j true) else (if a0 = 10 then (j true) else (if a0 = 11 then (j true) else (if a0 = 15 then (j true) else (if a0 = 16 then (j true) else (j (decide (a0 = 18))))))))
theorem spec_Arity.ev   {K : Nat} {a0 : Int} {r : Int} (h : spec_Arity.f  K a0 = some r) : E 107 [(.d (.p (.int .i64 a0)))] = some ([(.d (.p (.int .i64 r)))], []) := by
  refine Ev_intro (fn := Tryz.f107) rfl (by kernel_rfl) (c := _) rfl ⟨rfl, by simp⟩ rfl (evP_spec _ ?_)
  unfold spec_Arity.f at h
  refine goS ?_
  refine seqJ h 23 (fun x => [(3, (.d (.p (.int .i64 a0)))), (4, (.d (.p (.bool x))))]) (fun x => []) (fun J h => ?_) ?_
  · try ((with_reducible apply cdX); exact rfl)
    refine iteF h (fun c2 h => ?_) (fun c2 h => ?_)
    · exact ⟨true, h, ⟨rfl, ⟨rfl, rfl, trivial⟩, trivial⟩⟩
    · try ((with_reducible apply cdX); exact rfl)
      refine iteF h (fun c3 h => ?_) (fun c3 h => ?_)
      · exact ⟨true, h, ⟨rfl, ⟨rfl, rfl, trivial⟩, trivial⟩⟩
      · try ((with_reducible apply cdX); exact rfl)
        refine iteF h (fun c4 h => ?_) (fun c4 h => ?_)
        · exact ⟨true, h, ⟨rfl, ⟨rfl, rfl, trivial⟩, trivial⟩⟩
        · try ((with_reducible apply cdX); exact rfl)
          refine iteF h (fun c5 h => ?_) (fun c5 h => ?_)
          · exact ⟨true, h, ⟨rfl, ⟨rfl, rfl, trivial⟩, trivial⟩⟩
          · try ((with_reducible apply cdX); exact rfl)
            refine iteF h (fun c6 h => ?_) (fun c6 h => ?_)
            · exact ⟨true, h, ⟨rfl, ⟨rfl, rfl, trivial⟩, trivial⟩⟩
            · exact ⟨(decide (a0 = 18)), h, ⟨rfl, ⟨rfl, rfl, trivial⟩, trivial⟩⟩
  · rintro v1 h e hp
    try ((with_reducible apply cdX); exact rfl)
    refine ifB h (fun c7 h => ?_) (fun c7 h => ?_)
    · exact retE (enc := spec_Arity.enc) h rfl
    · refine seqJ h 23 (fun x => [(3, (.d (.p (.int .i64 a0)))), (11, (.d (.p (.bool x))))]) (fun x => []) (fun J h => ?_) ?_
      · try ((with_reducible apply cdX); exact rfl)
        refine iteF h (fun c9 h => ?_) (fun c9 h => ?_)
        · exact ⟨true, h, ⟨rfl, ⟨rfl, rfl, trivial⟩, trivial⟩⟩
        · try ((with_reducible apply cdX); exact rfl)
          refine iteF h (fun c10 h => ?_) (fun c10 h => ?_)
          · exact ⟨true, h, ⟨rfl, ⟨rfl, rfl, trivial⟩, trivial⟩⟩
          · try ((with_reducible apply cdX); exact rfl)
            refine iteF h (fun c11 h => ?_) (fun c11 h => ?_)
            · exact ⟨true, h, ⟨rfl, ⟨rfl, rfl, trivial⟩, trivial⟩⟩
            · try ((with_reducible apply cdX); exact rfl)
              refine iteF h (fun c12 h => ?_) (fun c12 h => ?_)
              · exact ⟨true, h, ⟨rfl, ⟨rfl, rfl, trivial⟩, trivial⟩⟩
              · try ((with_reducible apply cdX); exact rfl)
                refine iteF h (fun c13 h => ?_) (fun c13 h => ?_)
                · exact ⟨true, h, ⟨rfl, ⟨rfl, rfl, trivial⟩, trivial⟩⟩
                · try ((with_reducible apply cdX); exact rfl)
                  refine iteF h (fun c14 h => ?_) (fun c14 h => ?_)
                  · exact ⟨true, h, ⟨rfl, ⟨rfl, rfl, trivial⟩, trivial⟩⟩
                  · try ((with_reducible apply cdX); exact rfl)
                    refine iteF h (fun c15 h => ?_) (fun c15 h => ?_)
                    · exact ⟨true, h, ⟨rfl, ⟨rfl, rfl, trivial⟩, trivial⟩⟩
                    · exact ⟨(decide (a0 = 19)), h, ⟨rfl, ⟨rfl, rfl, trivial⟩, trivial⟩⟩
      · rintro v8 h e hp
        try ((with_reducible apply cdX); exact rfl)
        refine ifB h (fun c16 h => ?_) (fun c16 h => ?_)
        · exact retE (enc := spec_Arity.enc) h rfl
        · refine seqJ h 23 (fun x => [(20, (.d (.p (.bool x))))]) (fun x => []) (fun J h => ?_) ?_
          · try ((with_reducible apply cdX); exact rfl)
            refine iteF h (fun c18 h => ?_) (fun c18 h => ?_)
            · exact ⟨true, h, ⟨rfl, ⟨rfl, trivial⟩, trivial⟩⟩
            · exact ⟨(decide (a0 = 14)), h, ⟨rfl, ⟨rfl, trivial⟩, trivial⟩⟩
          · rintro v17 h e hp
            try ((with_reducible apply cdX); exact rfl)
            refine ifB h (fun c19 h => ?_) (fun c19 h => ?_)
            · exact retE (enc := spec_Arity.enc) h rfl
            · exact retE (enc := spec_Arity.enc) h rfl
def spec_l3Names.enc (r : Int) : Res := ([(.d (.p (.int .i64 r)))], [])
def spec_l3Names.f  (K : Nat) (a0 : Int) : Option (Int) := jn (fun (v1 : Bool) => if v1 = true then (some 1) else (jn (fun (v6 : Bool) => if v6 = true then (some 2) else (some 0)) (fun j => if a0 = 6 then (j true) else (j (decide (a0 = 14)))))) (fun j => if a0 = 1 then (j true) else (if a0 = 3 then (j true) else (if a0 = 5 then (j true) else (j (decide (a0 = 19))))))
theorem spec_l3Names.ev   {K : Nat} {a0 : Int} {r : Int} (h : spec_l3Names.f  K a0 = some r) : E 106 [(.d (.p (.int .i64 a0)))] = some ([(.d (.p (.int .i64 r)))], []) := by
  refine Ev_intro (fn := Tryz.f106) rfl (by kernel_rfl) (c := _) rfl ⟨rfl, by simp⟩ rfl (evP_spec _ ?_)
  unfold spec_l3Names.f at h
  refine goS ?_
  refine seqJ h 12 (fun x => [(3, (.d (.p (.int .i64 a0)))), (4, (.d (.p (.bool x))))]) (fun x => []) (fun J h => ?_) ?_
  · try ((with_reducible apply cdX); exact rfl)
    refine iteF h (fun c2 h => ?_) (fun c2 h => ?_)
    · exact ⟨true, h, ⟨rfl, ⟨rfl, rfl, trivial⟩, trivial⟩⟩
    · try ((with_reducible apply cdX); exact rfl)
      refine iteF h (fun c3 h => ?_) (fun c3 h => ?_)
      · exact ⟨true, h, ⟨rfl, ⟨rfl, rfl, trivial⟩, trivial⟩⟩
      · try ((with_reducible apply cdX); exact rfl)
        refine iteF h (fun c4 h => ?_) (fun c4 h => ?_)
        · exact ⟨true, h, ⟨rfl, ⟨rfl, rfl, trivial⟩, trivial⟩⟩
        · exact ⟨(decide (a0 = 19)), h, ⟨rfl, ⟨rfl, rfl, trivial⟩, trivial⟩⟩
  · rintro v1 h e hp
    try ((with_reducible apply cdX); exact rfl)
    refine ifB h (fun c5 h => ?_) (fun c5 h => ?_)
    · exact retE (enc := spec_l3Names.enc) h rfl
    · refine seqJ h 12 (fun x => [(9, (.d (.p (.bool x))))]) (fun x => []) (fun J h => ?_) ?_
      · try ((with_reducible apply cdX); exact rfl)
        refine iteF h (fun c7 h => ?_) (fun c7 h => ?_)
        · exact ⟨true, h, ⟨rfl, ⟨rfl, trivial⟩, trivial⟩⟩
        · exact ⟨(decide (a0 = 14)), h, ⟨rfl, ⟨rfl, trivial⟩, trivial⟩⟩
      · rintro v6 h e hp
        try ((with_reducible apply cdX); exact rfl)
        refine ifB h (fun c8 h => ?_) (fun c8 h => ?_)
        · exact retE (enc := spec_l3Names.enc) h rfl
        · exact retE (enc := spec_l3Names.enc) h rfl
def spec_l2Letter.enc (r : Bool) : Res := ([(.d (.p (.bool r)))], [])
def spec_l2Letter.f  (K : Nat) (a0 : Int) : Option (Bool) := if a0 ≥ 97 then (some (decide (a0 ≤ 122))) else (some false)
theorem spec_l2Letter.ev   {K : Nat} {a0 : Int} {r : Bool} (h : spec_l2Letter.f  K a0 = some r) : E 122 [(.d (.p (.int .u8 a0)))] = some ([(.d (.p (.bool r)))], []) := by
  refine Ev_intro (fn := Tryz.f122) rfl (by kernel_rfl) (c := _) rfl ⟨rfl, by simp⟩ rfl (evP_spec _ ?_)
  unfold spec_l2Letter.f at h
  refine goS ?_
  try ((with_reducible apply cdX); exact rfl)
  refine iteF h (fun c1 h => ?_) (fun c1 h => ?_)
  · refine Ask.T rfl ?_
    refine Ask.T rfl ?_
    exact retE (enc := spec_l2Letter.enc) h rfl
  · refine Ask.F rfl ?_
    refine Ask.F rfl ?_
    exact retE (enc := spec_l2Letter.enc) h rfl
def spec_IsWord.enc (r : Bool) : Res := ([(.d (.p (.bool r)))], [])
def spec_IsWord.en (a0 : ByteArray) (r : Bool) (S : St) : Prop := endV tb md 124 Tryz.f124 [(.d (.p (.string a0)))] .ret S = some (spec_IsWord.enc r)
def spec_IsWord.l0 (a0 : ByteArray) (K : Nat) : Nat → Int → Option (Bool ⊕ Unit)
  | 0, _ => none
  | k + 1, v1 => if v1 < (a0.size : Int) then ((atS a0 v1).bind fun x3 => ((spec_l2Letter.f K (x3.toNat : Int)).bind fun y4 => (if (!y4) = true then (some (.inl false)) else (spec_IsWord.l0 a0 K k (w64 (v1 + 1)))))) else (some (.inr ()))
def spec_IsWord.f  (K : Nat) (a0 : ByteArray) : Option (Bool) := jn (fun (_ : Unit) => (spec_l1In.f K (a0.size : Int) 1 8).bind fun y7 => (some y7)) (fun j => lb (spec_IsWord.l0 a0 K K 0) (fun r => some r) (fun (_ : Unit) => j ()))
theorem spec_IsWord.ev   {K : Nat} {a0 : ByteArray} {r : Bool} (h : spec_IsWord.f  K a0 = some r) : E 124 [(.d (.p (.string a0)))] = some ([(.d (.p (.bool r)))], []) := by
  refine Ev_intro (fn := Tryz.f124) rfl (by kernel_rfl) (c := _) rfl ⟨rfl, by simp⟩ rfl (evP_spec _ ?_)
  unfold spec_IsWord.f at h
  refine seqJ h 18 (fun x => [(0, (.d (.p (.string a0))))]) (fun x => []) (fun J h => ?_) ?_
  · refine loopB (α := Int) (a := 0) 18 (fun x => [(0, (.d (.p (.string a0)))), (3, (.d (.p (.int .i64 x))))]) (fun x => []) (fun k x => spec_IsWord.l0 a0 K k x) (spec_IsWord.en a0) 0 (fun x => [(0, (.d (.p (.string a0))))]) (fun x => []) h (fun _ => rfl) ?_ ⟨rfl, ⟨rfl, rfl, trivial⟩, trivial⟩ ?_ ?_
    · rintro k v1 r h e hp
      replace h : spec_IsWord.l0 a0 K (k + 1) v1 = some r := h
      unfold spec_IsWord.l0 at h
      refine goS ?_
      try ((with_reducible apply cdX); exact rfl)
      refine iteF h (fun c2 h => ?_) (fun c2 h => ?_)
      · refine goS ?_
        refine bindG h fun x3 hx3 h => ?_
        refine exM x3 hx3 ?_
        refine bindG h fun y4 hy5 h => ?_
        refine exM ([(.d (.p (.bool y4)))], []) ?_ ?_
        · exact spec_l2Letter.ev hy5
        refine ifB h (fun c6 h => ?_) (fun c6 h => ?_)
        · exact lqL h rfl
        · exact ⟨(w64 (v1 + 1)), h, ⟨rfl, ⟨rfl, rfl, trivial⟩, trivial⟩⟩
      · refine lqR h ?_
        exact ⟨rfl, ⟨rfl, trivial⟩, trivial⟩
    · intro r' S' h q
      exact retE (enc := spec_IsWord.enc) h q
    · rintro _ S' h ⟨qn, ⟨qa0, _⟩, ⟨_⟩⟩
      exact ⟨(), h, ⟨qn, ⟨qa0, trivial⟩, trivial⟩⟩
  · rintro _ h e hp
    refine bindG h fun y7 hy8 h => ?_
    refine exM ([(.d (.p (.bool y7)))], []) ?_ ?_
    · exact spec_l1In.ev hy8
    exact retE (enc := spec_IsWord.enc) h rfl
def spec_l3Keys.enc (r : List ByteArray) : Res := ([(.own true 1 (r.map eS))], [])
def spec_l3Keys.f  (K : Nat)  : Option (List ByteArray) := some ([(⟨#[102, 117, 110]⟩ : ByteArray), (⟨#[97, 112, 112]⟩ : ByteArray), (⟨#[108, 101, 116]⟩ : ByteArray), (⟨#[114, 101, 99]⟩ : ByteArray), (⟨#[105, 102]⟩ : ByteArray), (⟨#[97, 100, 100]⟩ : ByteArray), (⟨#[115, 117, 98]⟩ : ByteArray), (⟨#[108, 101, 115, 115]⟩ : ByteArray), (⟨#[115, 97, 109, 101]⟩ : ByteArray), (⟨#[112, 97, 105, 114]⟩ : ByteArray), (⟨#[102, 115, 116]⟩ : ByteArray), (⟨#[115, 110, 100]⟩ : ByteArray), (⟨#[110, 105, 108]⟩ : ByteArray), (⟨#[99, 111, 110, 115]⟩ : ByteArray), (⟨#[109, 97, 116, 99, 104]⟩ : ByteArray), (⟨#[114, 101, 102]⟩ : ByteArray), (⟨#[103, 101, 116]⟩ : ByteArray), (⟨#[115, 101, 116]⟩ : ByteArray), (⟨#[114, 97, 105, 115, 101]⟩ : ByteArray), (⟨#[116, 114, 121]⟩ : ByteArray)] : List ByteArray)
theorem spec_l3Keys.ev   {K : Nat}  {r : List ByteArray} (h : spec_l3Keys.f  K  = some r) : E 150 [] = some ([(.own true 1 (r.map eS))], []) := by
  refine Ev_intro (fn := Tryz.f150) rfl (by kernel_rfl) (c := _) rfl ⟨rfl, by simp⟩ rfl (evP_spec _ ?_)
  unfold spec_l3Keys.f at h
  refine eqM (([(⟨#[102, 117, 110]⟩ : ByteArray), (⟨#[97, 112, 112]⟩ : ByteArray), (⟨#[108, 101, 116]⟩ : ByteArray), (⟨#[114, 101, 99]⟩ : ByteArray), (⟨#[105, 102]⟩ : ByteArray), (⟨#[97, 100, 100]⟩ : ByteArray), (⟨#[115, 117, 98]⟩ : ByteArray), (⟨#[108, 101, 115, 115]⟩ : ByteArray), (⟨#[115, 97, 109, 101]⟩ : ByteArray), (⟨#[112, 97, 105, 114]⟩ : ByteArray), (⟨#[102, 115, 116]⟩ : ByteArray), (⟨#[115, 110, 100]⟩ : ByteArray), (⟨#[110, 105, 108]⟩ : ByteArray), (⟨#[99, 111, 110, 115]⟩ : ByteArray), (⟨#[109, 97, 116, 99, 104]⟩ : ByteArray), (⟨#[114, 101, 102]⟩ : ByteArray), (⟨#[103, 101, 116]⟩ : ByteArray), (⟨#[115, 101, 116]⟩ : ByteArray), (⟨#[114, 97, 105, 115, 101]⟩ : ByteArray), (⟨#[116, 114, 121]⟩ : ByteArray)] : List ByteArray).map eS) rfl ?_
  exact retE (enc := spec_l3Keys.enc) h rfl
def spec_IsKey.enc (r : Bool) : Res := ([(.d (.p (.bool r)))], [])
def spec_IsKey.en (a0 : ByteArray) (r : Bool) (S : St) : Prop := endV tb md 138 Tryz.f138 [(.d (.p (.string a0)))] .ret S = some (spec_IsKey.enc r)
def spec_IsKey.l0 (a0 : ByteArray) (y1 : List ByteArray) (K : Nat) : Nat → Int → Option (Bool ⊕ Unit)
  | 0, _ => none
  | k + 1, v3 => if v3 < (y1.length : Int) then ((at_ y1 v3).bind fun x5 => (if (x5.toList == a0.toList) = true then (some (.inl true)) else (spec_IsKey.l0 a0 y1 K k (w64 (v3 + 1))))) else (some (.inr ()))
def spec_IsKey.f  (K : Nat) (a0 : ByteArray) : Option (Bool) := (spec_l3Keys.f K).bind fun y1 => (jn (fun (_ : Unit) => some false) (fun j => lb (spec_IsKey.l0 a0 y1 K K 0) (fun r => some r) (fun (_ : Unit) => j ())))
theorem spec_IsKey.ev   {K : Nat} {a0 : ByteArray} {r : Bool} (h : spec_IsKey.f  K a0 = some r) : E 138 [(.d (.p (.string a0)))] = some ([(.d (.p (.bool r)))], []) := by
  refine Ev_intro (fn := Tryz.f138) rfl (by kernel_rfl) (c := _) rfl ⟨rfl, by simp⟩ rfl (evP_spec _ ?_)
  unfold spec_IsKey.f at h
  refine bindG h fun y1 hy2 h => ?_
  refine exM ([(.own true 1 (y1.map eS))], []) ?_ ?_
  · exact spec_l3Keys.ev hy2
  refine seqJ h 18 (fun x => []) (fun x => []) (fun J h => ?_) ?_
  · refine loopB (α := Int) (a := 0) 18 (fun x => [(0, (.d (.p (.string a0)))), (3, (.d (.l true 1 (y1.map eS)))), (4, (.d (.p (.int .i64 x))))]) (fun x => []) (fun k x => spec_IsKey.l0 a0 y1 K k x) (spec_IsKey.en a0) 0 (fun x => []) (fun x => []) h (fun _ => rfl) ?_ ⟨rfl, ⟨rfl, rfl, rfl, trivial⟩, trivial⟩ ?_ ?_
    · rintro k v3 r h e hp
      replace h : spec_IsKey.l0 a0 y1 K (k + 1) v3 = some r := h
      unfold spec_IsKey.l0 at h
      refine goS ?_
      refine eqM ((y1.length : Int) : Int) (mLen rfl) ?_
      refine iteF h (fun c4 h => ?_) (fun c4 h => ?_)
      · refine goS ?_
        refine bindG h fun x5 hx5 h => ?_
        refine anM (at_ix rfl hx5) ?_
        refine exM (eS x5) (at_get rfl hx5) ?_
        refine ifB h (fun c6 h => ?_) (fun c6 h => ?_)
        · exact lqL h rfl
        · exact ⟨(w64 (v3 + 1)), h, ⟨rfl, ⟨rfl, rfl, rfl, trivial⟩, trivial⟩⟩
      · refine lqR h ?_
        exact ⟨rfl, trivial, trivial⟩
    · intro r' S' h q
      exact retE (enc := spec_IsKey.enc) h q
    · rintro _ S' h ⟨qn, ⟨_⟩, ⟨_⟩⟩
      exact ⟨(), h, ⟨qn, trivial, trivial⟩⟩
  · rintro _ h e hp
    exact retE (enc := spec_IsKey.enc) h rfl
def spec_l3Name.enc (r : Bool) : Res := ([(.d (.p (.bool r)))], [])
def spec_l3Name.f  (K : Nat) (a0 : ByteArray) : Option (Bool) := (spec_IsWord.f K a0).bind fun y1 => (if y1 = true then ((spec_IsKey.f K a0).bind fun y4 => (some (!y4))) else (some false))
theorem spec_l3Name.ev   {K : Nat} {a0 : ByteArray} {r : Bool} (h : spec_l3Name.f  K a0 = some r) : E 114 [(.d (.p (.string a0)))] = some ([(.d (.p (.bool r)))], []) := by
  refine Ev_intro (fn := Tryz.f114) rfl (by kernel_rfl) (c := _) rfl ⟨rfl, by simp⟩ rfl (evP_spec _ ?_)
  unfold spec_l3Name.f at h
  refine goS ?_
  refine bindG h fun y1 hy2 h => ?_
  refine exM ([(.d (.p (.bool y1)))], []) ?_ ?_
  · exact spec_IsWord.ev hy2
  refine ifB h (fun c3 h => ?_) (fun c3 h => ?_)
  · refine Ask.T rfl ?_
    refine bindG h fun y4 hy5 h => ?_
    refine exM ([(.d (.p (.bool y4)))], []) ?_ ?_
    · exact spec_IsKey.ev hy5
    refine Ask.T rfl ?_
    refine Ask.T rfl ?_
    exact retE (enc := spec_l3Name.enc) h rfl
  · refine Ask.F rfl ?_
    refine Ask.F rfl ?_
    refine Ask.F rfl ?_
    exact retE (enc := spec_l3Name.enc) h rfl
def spec_l3Fields.enc (r : Bool) : Res := ([(.d (.p (.bool r)))], [])
def spec_l3Fields.f  (K : Nat) (a0 : impl_Node) : Option (Bool) := (spec_l1In.f K a0.Kind 1 19).bind fun y1 => (if (!y1) = true then (some false) else ((spec_Arity.f K a0.Kind).bind fun y4 => (jn (fun (v6 : Bool) => if v6 = true then (some false) else ((spec_l3Names.f K a0.Kind).bind fun y18 => (jn (fun (v20 : Bool) => if v20 = true then (some false) else (if a0.Kind = 2 then ((spec_l1In.f K a0.N 0 65535).bind fun y36 => (some y36)) else (if a0.Kind = 8 then ((spec_l1In.f K a0.N 0 3).bind fun y39 => (some y39)) else (some (decide (a0.N = 0)))))) (fun j => (spec_l3Name.f K a0.Name).bind fun y21 => (if ((decide (y18 > 0)) != y21) = true then (j true) else (if y18 = 0 then (if (!(a0.Name.toList == (⟨#[]⟩ : ByteArray).toList)) = true then (j true) else ((spec_l3Name.f K a0.Other).bind fun y26 => (if ((decide (y18 > 1)) != y26) = true then (j true) else (if y18 < 2 then (j (!(a0.Other.toList == (⟨#[]⟩ : ByteArray).toList))) else (j false))))) else ((spec_l3Name.f K a0.Other).bind fun y30 => (if ((decide (y18 > 1)) != y30) = true then (j true) else (if y18 < 2 then (j (!(a0.Other.toList == (⟨#[]⟩ : ByteArray).toList))) else (j false)))))))))) (fun j => if y4 < 1 then (if (!(decide (a0.A = 0))) = true then (j true) else (if y4 < 2 then (if (!(decide (a0.B = 0))) = true then (j true) else (if y4 < 3 then (j (!(decide (a0.C = 0)))) else (j false))) else (if y4 < 3 then (j (!(decide (a0.C = 0)))) else (j false)))) else (if y4 < 2 then (if (!(decide (a0.B = 0))) = true then (j true) else (if y4 < 3 then (j (!(decide (a0.C = 0)))) else (j false))) else (if y4 < 3 then (j (!(decide (a0.C = 0)))) else (j false)))))))
theorem spec_l3Fields.ev   {K : Nat} {a0 : impl_Node} {r : Bool} (h : spec_l3Fields.f  K a0 = some r) : E 80 [(.agg (a0.e.map .d))] = some ([(.d (.p (.bool r)))], []) := by
  refine Ev_intro (fn := Tryz.f80) rfl (by kernel_rfl) (c := _) rfl ⟨rfl, by simp⟩ rfl (evP_spec _ ?_)
  unfold spec_l3Fields.f at h
  refine goS ?_
  refine bindG h fun y1 hy2 h => ?_
  refine exM ([(.d (.p (.bool y1)))], []) ?_ ?_
  · exact spec_l1In.ev hy2
  refine ifB h (fun c3 h => ?_) (fun c3 h => ?_)
  · exact retE (enc := spec_l3Fields.enc) h rfl
  · refine bindG h fun y4 hy5 h => ?_
    refine exM ([(.d (.p (.int .i64 y4)))], []) ?_ ?_
    · exact spec_Arity.ev hy5
    refine goS ?_
    refine seqJ h 87 (fun x => [(1, (.ptr 1 0 2 0)), (36, (.d (.p (.bool x))))]) (fun x => [(1, 0, 2, (some (.box [(.d (.p (.int .i64 a0.Kind))), (.d (.p (.int .i64 a0.A))), (.d (.p (.int .i64 a0.B))), (.d (.p (.int .i64 a0.C))), (.d (.p (.int .i64 a0.N))), (.d (.p (.string a0.Name))), (.d (.p (.string a0.Other)))])))]) (fun J h => ?_) ?_
    · try ((with_reducible apply cdX); exact rfl)
      refine iteF h (fun c7 h => ?_) (fun c7 h => ?_)
      · refine Ask.T rfl ?_
        refine Ask.T rfl ?_
        refine Ask.T rfl ?_
        refine ifB h (fun c8 h => ?_) (fun c8 h => ?_)
        · refine Ask.T rfl ?_
          refine Ask.T rfl ?_
          refine Ask.T rfl ?_
          refine Ask.T rfl ?_
          refine Ask.T rfl ?_
          refine Ask.T rfl ?_
          refine Ask.T rfl ?_
          refine Ask.T rfl ?_
          refine Ask.T rfl ?_
          exact ⟨true, h, ⟨rfl, ⟨rfl, rfl, trivial⟩, ⟨rfl, trivial⟩⟩⟩
        · refine Ask.F rfl ?_
          refine Ask.F rfl ?_
          refine iteF h (fun c9 h => ?_) (fun c9 h => ?_)
          · refine Ask.T rfl ?_
            refine Ask.T rfl ?_
            refine Ask.F rfl ?_
            refine Ask.T rfl ?_
            refine Ask.F rfl ?_
            refine ifB h (fun c10 h => ?_) (fun c10 h => ?_)
            · refine Ask.T rfl ?_
              refine Ask.T rfl ?_
              refine Ask.T rfl ?_
              refine Ask.T rfl ?_
              exact ⟨true, h, ⟨rfl, ⟨rfl, rfl, trivial⟩, ⟨rfl, trivial⟩⟩⟩
            · refine Ask.F rfl ?_
              refine Ask.F rfl ?_
              refine iteF h (fun c11 h => ?_) (fun c11 h => ?_)
              · refine Ask.T rfl ?_
                refine Ask.T rfl ?_
                refine Ask.F rfl ?_
                refine Ask.T rfl ?_
                refine Ask.F rfl ?_
                exact ⟨(!(decide (a0.C = 0))), h, ⟨rfl, ⟨rfl, rfl, trivial⟩, ⟨rfl, trivial⟩⟩⟩
              · refine Ask.F rfl ?_
                refine Ask.F rfl ?_
                refine Ask.F rfl ?_
                refine Ask.F rfl ?_
                refine Ask.F rfl ?_
                exact ⟨false, h, ⟨rfl, ⟨rfl, rfl, trivial⟩, ⟨rfl, trivial⟩⟩⟩
          · refine Ask.F rfl ?_
            refine Ask.F rfl ?_
            refine Ask.F rfl ?_
            refine Ask.F rfl ?_
            refine Ask.F rfl ?_
            refine Ask.F rfl ?_
            refine Ask.F rfl ?_
            refine Ask.F rfl ?_
            refine iteF h (fun c12 h => ?_) (fun c12 h => ?_)
            · refine Ask.T rfl ?_
              refine Ask.T rfl ?_
              refine Ask.F rfl ?_
              refine Ask.T rfl ?_
              refine Ask.F rfl ?_
              exact ⟨(!(decide (a0.C = 0))), h, ⟨rfl, ⟨rfl, rfl, trivial⟩, ⟨rfl, trivial⟩⟩⟩
            · refine Ask.F rfl ?_
              refine Ask.F rfl ?_
              refine Ask.F rfl ?_
              refine Ask.F rfl ?_
              refine Ask.F rfl ?_
              exact ⟨false, h, ⟨rfl, ⟨rfl, rfl, trivial⟩, ⟨rfl, trivial⟩⟩⟩
      · refine Ask.F rfl ?_
        refine Ask.F rfl ?_
        refine Ask.F rfl ?_
        refine Ask.F rfl ?_
        refine Ask.F rfl ?_
        refine Ask.F rfl ?_
        refine iteF h (fun c13 h => ?_) (fun c13 h => ?_)
        · refine Ask.T rfl ?_
          refine Ask.T rfl ?_
          refine Ask.F rfl ?_
          refine Ask.T rfl ?_
          refine Ask.F rfl ?_
          refine ifB h (fun c14 h => ?_) (fun c14 h => ?_)
          · refine Ask.T rfl ?_
            refine Ask.T rfl ?_
            refine Ask.T rfl ?_
            refine Ask.T rfl ?_
            exact ⟨true, h, ⟨rfl, ⟨rfl, rfl, trivial⟩, ⟨rfl, trivial⟩⟩⟩
          · refine Ask.F rfl ?_
            refine Ask.F rfl ?_
            refine iteF h (fun c15 h => ?_) (fun c15 h => ?_)
            · refine Ask.T rfl ?_
              refine Ask.T rfl ?_
              refine Ask.F rfl ?_
              refine Ask.T rfl ?_
              refine Ask.F rfl ?_
              exact ⟨(!(decide (a0.C = 0))), h, ⟨rfl, ⟨rfl, rfl, trivial⟩, ⟨rfl, trivial⟩⟩⟩
            · refine Ask.F rfl ?_
              refine Ask.F rfl ?_
              refine Ask.F rfl ?_
              refine Ask.F rfl ?_
              refine Ask.F rfl ?_
              exact ⟨false, h, ⟨rfl, ⟨rfl, rfl, trivial⟩, ⟨rfl, trivial⟩⟩⟩
        · refine Ask.F rfl ?_
          refine Ask.F rfl ?_
          refine Ask.F rfl ?_
          refine Ask.F rfl ?_
          refine Ask.F rfl ?_
          refine Ask.F rfl ?_
          refine Ask.F rfl ?_
          refine Ask.F rfl ?_
          refine iteF h (fun c16 h => ?_) (fun c16 h => ?_)
          · refine Ask.T rfl ?_
            refine Ask.T rfl ?_
            refine Ask.F rfl ?_
            refine Ask.T rfl ?_
            refine Ask.F rfl ?_
            exact ⟨(!(decide (a0.C = 0))), h, ⟨rfl, ⟨rfl, rfl, trivial⟩, ⟨rfl, trivial⟩⟩⟩
          · refine Ask.F rfl ?_
            refine Ask.F rfl ?_
            refine Ask.F rfl ?_
            refine Ask.F rfl ?_
            refine Ask.F rfl ?_
            exact ⟨false, h, ⟨rfl, ⟨rfl, rfl, trivial⟩, ⟨rfl, trivial⟩⟩⟩
    · rintro v6 h e hp
      try ((with_reducible apply cdX); exact rfl)
      refine ifB h (fun c17 h => ?_) (fun c17 h => ?_)
      · exact retE (enc := spec_l3Fields.enc) h rfl
      · refine bindG h fun y18 hy19 h => ?_
        refine exM ([(.d (.p (.int .i64 y18)))], []) ?_ ?_
        · exact spec_l3Names.ev hy19
        refine goS ?_
        refine seqJ h 87 (fun x => [(1, (.ptr 1 0 2 0)), (71, (.d (.p (.bool x))))]) (fun x => [(1, 0, 2, (some (.box [(.d (.p (.int .i64 a0.Kind))), (.d (.p (.int .i64 a0.A))), (.d (.p (.int .i64 a0.B))), (.d (.p (.int .i64 a0.C))), (.d (.p (.int .i64 a0.N))), (.d (.p (.string a0.Name))), (.d (.p (.string a0.Other)))])))]) (fun J h => ?_) ?_
        · refine bindG h fun y21 hy22 h => ?_
          refine exM ([(.d (.p (.bool y21)))], []) ?_ ?_
          · exact spec_l3Name.ev hy22
          refine ifB h (fun c23 h => ?_) (fun c23 h => ?_)
          · refine Ask.T rfl ?_
            refine Ask.T rfl ?_
            refine Ask.T rfl ?_
            refine Ask.T rfl ?_
            refine Ask.T rfl ?_
            refine Ask.T rfl ?_
            refine Ask.T rfl ?_
            refine Ask.T rfl ?_
            refine Ask.T rfl ?_
            refine Ask.T rfl ?_
            refine Ask.T rfl ?_
            refine Ask.T rfl ?_
            refine Ask.T rfl ?_
            refine Ask.T rfl ?_
            refine Ask.T rfl ?_
            refine Ask.T rfl ?_
            exact ⟨true, h, ⟨rfl, ⟨rfl, rfl, trivial⟩, ⟨rfl, trivial⟩⟩⟩
          · refine Ask.F rfl ?_
            refine Ask.F rfl ?_
            refine iteF h (fun c24 h => ?_) (fun c24 h => ?_)
            · refine Ask.T rfl ?_
              refine Ask.T rfl ?_
              refine Ask.F rfl ?_
              refine Ask.T rfl ?_
              refine Ask.F rfl ?_
              refine ifB h (fun c25 h => ?_) (fun c25 h => ?_)
              · refine Ask.T rfl ?_
                refine Ask.T rfl ?_
                refine Ask.T rfl ?_
                refine Ask.T rfl ?_
                refine Ask.T rfl ?_
                refine Ask.T rfl ?_
                refine Ask.T rfl ?_
                refine Ask.T rfl ?_
                refine Ask.T rfl ?_
                refine Ask.T rfl ?_
                refine Ask.T rfl ?_
                exact ⟨true, h, ⟨rfl, ⟨rfl, rfl, trivial⟩, ⟨rfl, trivial⟩⟩⟩
              · refine Ask.F rfl ?_
                refine Ask.F rfl ?_
                refine Ask.F rfl ?_
                refine Ask.F rfl ?_
                refine bindG h fun y26 hy27 h => ?_
                refine exM ([(.d (.p (.bool y26)))], []) ?_ ?_
                · exact spec_l3Name.ev hy27
                refine Ask.F rfl ?_
                refine Ask.F rfl ?_
                refine ifB h (fun c28 h => ?_) (fun c28 h => ?_)
                · refine Ask.T rfl ?_
                  refine Ask.T rfl ?_
                  refine Ask.T rfl ?_
                  refine Ask.T rfl ?_
                  exact ⟨true, h, ⟨rfl, ⟨rfl, rfl, trivial⟩, ⟨rfl, trivial⟩⟩⟩
                · refine Ask.F rfl ?_
                  refine Ask.F rfl ?_
                  refine iteF h (fun c29 h => ?_) (fun c29 h => ?_)
                  · refine Ask.T rfl ?_
                    refine Ask.T rfl ?_
                    refine Ask.F rfl ?_
                    refine Ask.T rfl ?_
                    refine Ask.F rfl ?_
                    exact ⟨(!(a0.Other.toList == (⟨#[]⟩ : ByteArray).toList)), h, ⟨rfl, ⟨rfl, rfl, trivial⟩, ⟨rfl, trivial⟩⟩⟩
                  · refine Ask.F rfl ?_
                    refine Ask.F rfl ?_
                    refine Ask.F rfl ?_
                    refine Ask.F rfl ?_
                    refine Ask.F rfl ?_
                    exact ⟨false, h, ⟨rfl, ⟨rfl, rfl, trivial⟩, ⟨rfl, trivial⟩⟩⟩
            · refine Ask.F rfl ?_
              refine Ask.F rfl ?_
              refine Ask.F rfl ?_
              refine Ask.F rfl ?_
              refine Ask.F rfl ?_
              refine Ask.F rfl ?_
              refine Ask.F rfl ?_
              refine Ask.F rfl ?_
              refine Ask.F rfl ?_
              refine Ask.F rfl ?_
              refine bindG h fun y30 hy31 h => ?_
              refine exM ([(.d (.p (.bool y30)))], []) ?_ ?_
              · exact spec_l3Name.ev hy31
              refine Ask.F rfl ?_
              refine Ask.F rfl ?_
              refine ifB h (fun c32 h => ?_) (fun c32 h => ?_)
              · refine Ask.T rfl ?_
                refine Ask.T rfl ?_
                refine Ask.T rfl ?_
                refine Ask.T rfl ?_
                exact ⟨true, h, ⟨rfl, ⟨rfl, rfl, trivial⟩, ⟨rfl, trivial⟩⟩⟩
              · refine Ask.F rfl ?_
                refine Ask.F rfl ?_
                refine iteF h (fun c33 h => ?_) (fun c33 h => ?_)
                · refine Ask.T rfl ?_
                  refine Ask.T rfl ?_
                  refine Ask.F rfl ?_
                  refine Ask.T rfl ?_
                  refine Ask.F rfl ?_
                  exact ⟨(!(a0.Other.toList == (⟨#[]⟩ : ByteArray).toList)), h, ⟨rfl, ⟨rfl, rfl, trivial⟩, ⟨rfl, trivial⟩⟩⟩
                · refine Ask.F rfl ?_
                  refine Ask.F rfl ?_
                  refine Ask.F rfl ?_
                  refine Ask.F rfl ?_
                  refine Ask.F rfl ?_
                  exact ⟨false, h, ⟨rfl, ⟨rfl, rfl, trivial⟩, ⟨rfl, trivial⟩⟩⟩
        · rintro v20 h e hp
          try ((with_reducible apply cdX); exact rfl)
          refine ifB h (fun c34 h => ?_) (fun c34 h => ?_)
          · exact retE (enc := spec_l3Fields.enc) h rfl
          · refine goS ?_
            try ((with_reducible apply cdX); exact rfl)
            refine iteF h (fun c35 h => ?_) (fun c35 h => ?_)
            · refine bindG h fun y36 hy37 h => ?_
              refine exM ([(.d (.p (.bool y36)))], []) ?_ ?_
              · exact spec_l1In.ev hy37
              exact retE (enc := spec_l3Fields.enc) h rfl
            · try ((with_reducible apply cdX); exact rfl)
              refine iteF h (fun c38 h => ?_) (fun c38 h => ?_)
              · refine bindG h fun y39 hy40 h => ?_
                refine exM ([(.d (.p (.bool y39)))], []) ?_ ?_
                · exact spec_l1In.ev hy40
                exact retE (enc := spec_l3Fields.enc) h rfl
              · exact retE (enc := spec_l3Fields.enc) h rfl
def spec_Kids.enc (r : List Int) : Res := ([(.own true 1 (r.map eI))], [])
def spec_Kids.f  (K : Nat) (a0 : impl_Node) : Option (List Int) := (spec_Arity.f K a0.Kind).bind fun y1 => (gd (0 ≤ (0 : Int) ∧ (0 : Int) ≤ y1 ∧ y1 ≤ (([a0.A, a0.B, a0.C] : List Int).length : Int)) (some (([a0.A, a0.B, a0.C] : List Int).take (y1).toNat)))
theorem spec_Kids.ev   {K : Nat} {a0 : impl_Node} {r : List Int} (h : spec_Kids.f  K a0 = some r) : E 81 [(.agg (a0.e.map .d))] = some ([(.own true 1 (r.map eI))], []) := by
  refine Ev_intro (fn := Tryz.f81) rfl (by kernel_rfl) (c := _) rfl ⟨rfl, by simp⟩ rfl (evP_spec _ ?_)
  unfold spec_Kids.f at h
  refine ⟨[[5, 6, 7, 8, 10, 11, 12], [5, 6, 7, 8, 10, 11, 12], [3, 4, 7, 8, 10, 11, 12], [3, 4, 7, 8, 10, 11, 12], [3, 4, 5, 6, 10, 11, 12], [3, 4, 5, 6, 10, 11, 12], [10, 11, 12], [3, 4, 5, 6, 7, 8, 9], [3, 4, 5, 6, 7, 8, 9], [3, 4, 5, 6, 7, 8, 9], [], []], [], by kernel_rfl, ?_⟩
  refine eqM (([a0.A, a0.B, a0.C] : List Int).map eI) rfl ?_
  refine bindG h fun y1 hy2 h => ?_
  refine exM ([(.d (.p (.int .i64 y1)))], []) ?_ ?_
  · exact spec_Arity.ev hy2
  refine gdG h fun hc h => ?_
  refine anM (slB hc) ?_
  refine eqM ((([a0.A, a0.B, a0.C] : List Int).take (y1).toNat).map eI) (mTake rfl) ?_
  exact retE (enc := spec_Kids.enc) h rfl
def spec_l3Starts.enc (r : List Int × Bool) : Res := ([(.own true 1 (r.1.map eI)), (.d (.p (.bool r.2)))], [])
def spec_l3Starts.en (a0 : List impl_Node) (r : List Int × Bool) (S : St) : Prop := endV tb md 50 Tryz.f50 [(.d (.l true 7 (a0.map impl_Node.e)))] .ret S = some (spec_l3Starts.enc r)
def spec_l3Starts.l1 (v3 : List Int) (y10 : List Int) (K : Nat) : Nat → Int → Int → Option ((List Int × Bool) ⊕ Int)
  | 0, _, _ => none
  | k + 1, v13, v14 => if v14 ≥ 0 then (jn (fun (v17 : Bool) => if v17 = true then (some (.inl (([] : List Int), false))) else ((at_ y10 v14).bind fun x21 => ((at_ v3 x21).bind fun x22 => (spec_l3Starts.l1 v3 y10 K k x22 (w64 (v14 - 1)))))) (fun j => (at_ y10 v14).bind fun x18 => (if (!(decide (x18 = (w64 (v13 - 1))))) = true then (j true) else (j (decide (x18 < 0)))))) else (some (.inr v13))
def spec_l3Starts.l0 (a0 : List impl_Node) (K : Nat) : Nat → Int → (List Int) → Option ((List Int × Bool) ⊕ (List Int))
  | 0, _, _ => none
  | k + 1, v2, v3 => if v2 < (a0.length : Int) then ((at_ a0 v2).bind fun x6 => ((spec_l3Fields.f K x6).bind fun y7 => (if (!y7) = true then (some (.inl (([] : List Int), false))) else ((spec_Kids.f K x6).bind fun y10 => (jn (fun (v12 : Int) => gd ((v3.length + 1) * 8 ≤ 140737488355328) (spec_l3Starts.l0 a0 K k (w64 (v2 + 1)) (v3 ++ ([v12] : List Int)))) (fun j => lb (spec_l3Starts.l1 v3 y10 K K v2 (w64 ((y10.length : Int) - 1))) (fun r => some (.inl r)) (fun (v15 : Int) => j v15))))))) else (some (.inr v3))
def spec_l3Starts.f  (K : Nat) (a0 : List impl_Node) : Option (List Int × Bool) := jn (fun (v1 : List Int) => some (v1, true)) (fun j => lb (spec_l3Starts.l0 a0 K K 0 ([] : List Int)) (fun r => some r) (fun (v4 : List Int) => j v4))
theorem spec_l3Starts.ev   {K : Nat} {a0 : List impl_Node} {r : List Int × Bool} (h : spec_l3Starts.f  K a0 = some r) : E 50 [(.d (.l true 7 (a0.map impl_Node.e)))] = some ([(.own true 1 (r.1.map eI)), (.d (.p (.bool r.2)))], []) := by
  refine Ev_intro (fn := Tryz.f50) rfl (by kernel_rfl) (c := _) rfl ⟨rfl, by simp⟩ rfl (evP_spec _ ?_)
  unfold spec_l3Starts.f at h
  refine eqM (([] : List Int).map eI) rfl ?_
  refine seqJ h 63 (fun x => [(4, (.own 4 1 2))]) (fun x => [(4, 1, 2, (some (.row true true 1 (x.map eI))))]) (fun J h => ?_) ?_
  · refine loopB (α := Int × List Int) (a := (0, ([] : List Int))) 63 (fun x => [(0, (.d (.l true 7 (a0.map impl_Node.e)))), (4, (.own 4 1 2)), (5, (.d (.p (.int .i64 x.1))))]) (fun x => [(4, 1, 2, (some (.row true true 1 (x.2.map eI))))]) (fun k x => spec_l3Starts.l0 a0 K k x.1 x.2) (spec_l3Starts.en a0) 0 (fun x => [(4, (.own 4 1 2))]) (fun x => [(4, 1, 2, (some (.row true true 1 (x.map eI))))]) h (fun _ => rfl) ?_ ⟨rfl, ⟨rfl, rfl, rfl, trivial⟩, ⟨rfl, trivial⟩⟩ ?_ ?_
    · rintro k ⟨v2, v3⟩ r h e hp
      replace h : spec_l3Starts.l0 a0 K (k + 1) v2 v3 = some r := h
      unfold spec_l3Starts.l0 at h
      refine goS ?_
      refine eqM ((a0.length : Int) : Int) (mLen rfl) ?_
      refine iteF h (fun c5 h => ?_) (fun c5 h => ?_)
      · refine goS ?_
        refine goS ?_
        refine bindG h fun x6 hx6 h => ?_
        refine anM (at_ix rfl hx6) ?_
        refine exM (impl_Node.e x6) (at_get rfl hx6) ?_
        refine bindG h fun y7 hy8 h => ?_
        refine exM ([(.d (.p (.bool y7)))], []) ?_ ?_
        · exact spec_l3Fields.ev hy8
        refine ifB h (fun c9 h => ?_) (fun c9 h => ?_)
        · refine eqM (([] : List Int).map eI) rfl ?_
          exact lqL h rfl
        · refine anM (at_ix rfl hx6) ?_
          refine exM (impl_Node.e x6) (at_get rfl hx6) ?_
          refine bindG h fun y10 hy11 h => ?_
          refine exM ([(.own true 1 (y10.map eI))], []) ?_ ?_
          · exact spec_Kids.ev hy11
          refine seqJ h 63 (fun x => [(0, (.d (.l true 7 (a0.map impl_Node.e)))), (4, (.own 4 1 2)), (5, (.d (.p (.int .i64 v2)))), (6, (.d (.p (.int .i64 x))))]) (fun x => [(4, 1, 2, (some (.row true true 1 (v3.map eI))))]) (fun J h => ?_) ?_
          · refine eqM ((y10.length : Int) : Int) (mLen rfl) ?_
            refine loopB (α := Int × Int) (a := (v2, (w64 ((y10.length : Int) - 1)))) 63 (fun x => [(0, (.d (.l true 7 (a0.map impl_Node.e)))), (4, (.own 4 1 2)), (5, (.d (.p (.int .i64 v2)))), (6, (.d (.p (.int .i64 x.1)))), (7, (.own 7 1 2)), (8, (.d (.p (.int .i64 x.2))))]) (fun x => [(4, 1, 2, (some (.row true true 1 (v3.map eI)))), (7, 1, 2, (some (.row true true 1 (y10.map eI))))]) (fun k x => spec_l3Starts.l1 v3 y10 K k x.1 x.2) (spec_l3Starts.en a0) 2 (fun x => [(0, (.d (.l true 7 (a0.map impl_Node.e)))), (4, (.own 4 1 2)), (5, (.d (.p (.int .i64 v2)))), (6, (.d (.p (.int .i64 x))))]) (fun x => [(4, 1, 2, (some (.row true true 1 (v3.map eI))))]) h (fun _ => rfl) ?_ ⟨rfl, ⟨rfl, rfl, rfl, rfl, rfl, rfl, trivial⟩, ⟨rfl, rfl, trivial⟩⟩ ?_ ?_
            · rintro k ⟨v13, v14⟩ r h e hp
              replace h : spec_l3Starts.l1 v3 y10 K (k + 1) v13 v14 = some r := h
              unfold spec_l3Starts.l1 at h
              refine goS ?_
              try ((with_reducible apply cdX); exact rfl)
              refine iteF h (fun c16 h => ?_) (fun c16 h => ?_)
              · refine goS ?_
                refine goS ?_
                refine seqJ h 63 (fun x => [(0, (.d (.l true 7 (a0.map impl_Node.e)))), (4, (.own 4 1 2)), (5, (.d (.p (.int .i64 v2)))), (7, (.own 7 1 2)), (8, (.d (.p (.int .i64 v14)))), (49, (.d (.p (.bool x))))]) (fun x => [(4, 1, 2, (some (.row true true 1 (v3.map eI)))), (7, 1, 2, (some (.row true true 1 (y10.map eI))))]) (fun J h => ?_) ?_
                · refine bindG h fun x18 hx18 h => ?_
                  refine anM (at_ix rfl hx18) ?_
                  refine exM (eI x18) (at_get rfl hx18) ?_
                  refine ifB h (fun c19 h => ?_) (fun c19 h => ?_)
                  · refine Ask.T rfl ?_
                    refine Ask.T rfl ?_
                    refine Ask.T rfl ?_
                    refine Ask.T rfl ?_
                    refine Ask.T rfl ?_
                    exact ⟨true, h, ⟨rfl, ⟨rfl, rfl, rfl, rfl, rfl, rfl, trivial⟩, ⟨rfl, rfl, trivial⟩⟩⟩
                  · refine Ask.F rfl ?_
                    refine Ask.F rfl ?_
                    refine anM (at_ix rfl hx18) ?_
                    refine Ask.F rfl ?_
                    refine exM (eI x18) (at_get rfl hx18) ?_
                    refine Ask.F rfl ?_
                    refine Ask.F rfl ?_
                    exact ⟨(decide (x18 < 0)), h, ⟨rfl, ⟨rfl, rfl, rfl, rfl, rfl, rfl, trivial⟩, ⟨rfl, rfl, trivial⟩⟩⟩
                · rintro v17 h e hp
                  try ((with_reducible apply cdX); exact rfl)
                  refine ifB h (fun c20 h => ?_) (fun c20 h => ?_)
                  · refine eqM (([] : List Int).map eI) rfl ?_
                    exact lqL h rfl
                  · refine bindG h fun x21 hx21 h => ?_
                    refine anM (at_ix rfl hx21) ?_
                    refine exM (eI x21) (at_get rfl hx21) ?_
                    refine bindG h fun x22 hx22 h => ?_
                    refine anM (at_ix rfl hx22) ?_
                    refine exM (eI x22) (at_get rfl hx22) ?_
                    exact ⟨(x22, (w64 (v14 - 1))), h, ⟨rfl, ⟨rfl, rfl, rfl, rfl, rfl, rfl, trivial⟩, ⟨rfl, rfl, trivial⟩⟩⟩
              · refine lqR h ?_
                exact ⟨rfl, ⟨rfl, rfl, rfl, rfl, trivial⟩, ⟨rfl, trivial⟩⟩
            · intro r' S' h q
              exact lqL h q
            · rintro v15 S' h ⟨qn, ⟨qa0, qa1, qa2, qa3, _⟩, ⟨qb0, _⟩⟩
              exact ⟨v15, h, ⟨qn, ⟨qa0, qa1, qa2, qa3, trivial⟩, ⟨qb0, trivial⟩⟩⟩
          · rintro v12 h e hp
            refine eqM (([v12] : List Int).map eI) rfl ?_
            refine gdG h fun hc h => ?_
            refine anM (apB hc) ?_
            refine eqM ((v3 ++ ([v12] : List Int)).map eI) (mApp rfl rfl) ?_
            exact ⟨((w64 (v2 + 1)), (v3 ++ ([v12] : List Int))), h, ⟨rfl, ⟨rfl, rfl, rfl, trivial⟩, ⟨rfl, trivial⟩⟩⟩
      · refine lqR h ?_
        exact ⟨rfl, ⟨rfl, trivial⟩, ⟨rfl, trivial⟩⟩
    · intro r' S' h q
      exact retE (enc := spec_l3Starts.enc) h q
    · rintro v4 S' h ⟨qn, ⟨qa0, _⟩, ⟨qb0, _⟩⟩
      exact ⟨v4, h, ⟨qn, ⟨qa0, trivial⟩, ⟨qb0, trivial⟩⟩⟩
  · rintro v1 h e hp
    exact retE (enc := spec_l3Starts.enc) h rfl
def spec_NodesOk.enc (r : Bool) : Res := ([(.d (.p (.bool r)))], [])
def spec_NodesOk.f  (K : Nat) (a0 : List impl_Node) : Option (Bool) := (spec_l1In.f K (a0.length : Int) 1 150).bind fun y1 => (if (!y1) = true then (some false) else ((spec_l3Starts.f K a0).bind fun (y4, y5) => (if y5 = true then ((at_ y4 (w64 ((a0.length : Int) - 1))).bind fun x8 => (some (decide (x8 = 0)))) else (some false))))
theorem spec_NodesOk.ev   {K : Nat} {a0 : List impl_Node} {r : Bool} (h : spec_NodesOk.f  K a0 = some r) : E 27 [(.d (.l true 7 (a0.map impl_Node.e)))] = some ([(.d (.p (.bool r)))], []) := by
  refine Ev_intro (fn := Tryz.f27) rfl (by kernel_rfl) (c := _) rfl ⟨rfl, by simp⟩ rfl (evP_spec _ ?_)
  unfold spec_NodesOk.f at h
  refine goS ?_
  refine eqM ((a0.length : Int) : Int) (mLen rfl) ?_
  refine bindG h fun y1 hy2 h => ?_
  refine exM ([(.d (.p (.bool y1)))], []) ?_ ?_
  · exact spec_l1In.ev hy2
  refine ifB h (fun c3 h => ?_) (fun c3 h => ?_)
  · exact retE (enc := spec_NodesOk.enc) h rfl
  · refine bindG h ?_
    rintro ⟨y4, y5⟩ hy6 h
    refine exM ([(.own true 1 (y4.map eI)), (.d (.p (.bool y5)))], []) ?_ ?_
    · exact spec_l3Starts.ev hy6
    refine goS ?_
    try ((with_reducible apply cdX); exact rfl)
    refine ifB h (fun c7 h => ?_) (fun c7 h => ?_)
    · refine Ask.T rfl ?_
      refine Ask.T rfl ?_
      refine eqM ((a0.length : Int) : Int) (mLen rfl) ?_
      refine Ask.T rfl ?_
      refine Ask.T rfl ?_
      refine bindG h fun x8 hx8 h => ?_
      refine anM (at_ix rfl hx8) ?_
      refine Ask.T rfl ?_
      refine exM (eI x8) (at_get rfl hx8) ?_
      refine Ask.T rfl ?_
      refine Ask.T rfl ?_
      exact retE (enc := spec_NodesOk.enc) h rfl
    · refine Ask.F rfl ?_
      refine Ask.F rfl ?_
      refine Ask.F rfl ?_
      refine Ask.F rfl ?_
      refine Ask.F rfl ?_
      refine Ask.F rfl ?_
      refine Ask.F rfl ?_
      exact retE (enc := spec_NodesOk.enc) h rfl
def spec_l4Has.enc (r : Bool) : Res := ([(.d (.p (.bool r)))], [])
def spec_l4Has.en (a0 : List Int) (a1 : Int) (r : Bool) (S : St) : Prop := endV tb md 115 Tryz.f115 [(.d (.l true 1 (a0.map eI))), (.d (.p (.int .i64 a1)))] .ret S = some (spec_l4Has.enc r)
def spec_l4Has.l0 (a0 : List Int) (a1 : Int) (K : Nat) : Nat → Int → Option (Bool ⊕ Unit)
  | 0, _ => none
  | k + 1, v1 => if v1 < (a0.length : Int) then ((at_ a0 v1).bind fun x3 => (if x3 = a1 then (some (.inl true)) else (spec_l4Has.l0 a0 a1 K k (w64 (v1 + 1))))) else (some (.inr ()))
def spec_l4Has.f  (K : Nat) (a0 : List Int) (a1 : Int) : Option (Bool) := jn (fun (_ : Unit) => some false) (fun j => lb (spec_l4Has.l0 a0 a1 K K 0) (fun r => some r) (fun (_ : Unit) => j ()))
theorem spec_l4Has.ev   {K : Nat} {a0 : List Int} {a1 : Int} {r : Bool} (h : spec_l4Has.f  K a0 a1 = some r) : E 115 [(.d (.l true 1 (a0.map eI))), (.d (.p (.int .i64 a1)))] = some ([(.d (.p (.bool r)))], []) := by
  refine Ev_intro (fn := Tryz.f115) rfl (by kernel_rfl) (c := _) rfl ⟨rfl, by simp⟩ rfl (evP_spec _ ?_)
  unfold spec_l4Has.f at h
  refine seqJ h 18 (fun x => []) (fun x => []) (fun J h => ?_) ?_
  · refine loopB (α := Int) (a := 0) 18 (fun x => [(0, (.d (.l true 1 (a0.map eI)))), (1, (.d (.p (.int .i64 a1)))), (5, (.d (.p (.int .i64 x))))]) (fun x => []) (fun k x => spec_l4Has.l0 a0 a1 K k x) (spec_l4Has.en a0 a1) 0 (fun x => []) (fun x => []) h (fun _ => rfl) ?_ ⟨rfl, ⟨rfl, rfl, rfl, trivial⟩, trivial⟩ ?_ ?_
    · rintro k v1 r h e hp
      replace h : spec_l4Has.l0 a0 a1 K (k + 1) v1 = some r := h
      unfold spec_l4Has.l0 at h
      refine goS ?_
      refine eqM ((a0.length : Int) : Int) (mLen rfl) ?_
      refine iteF h (fun c2 h => ?_) (fun c2 h => ?_)
      · refine goS ?_
        refine bindG h fun x3 hx3 h => ?_
        refine anM (at_ix rfl hx3) ?_
        refine exM (eI x3) (at_get rfl hx3) ?_
        refine iteF h (fun c4 h => ?_) (fun c4 h => ?_)
        · exact lqL h rfl
        · exact ⟨(w64 (v1 + 1)), h, ⟨rfl, ⟨rfl, rfl, rfl, trivial⟩, trivial⟩⟩
      · refine lqR h ?_
        exact ⟨rfl, trivial, trivial⟩
    · intro r' S' h q
      exact retE (enc := spec_l4Has.enc) h q
    · rintro _ S' h ⟨qn, ⟨_⟩, ⟨_⟩⟩
      exact ⟨(), h, ⟨qn, trivial, trivial⟩⟩
  · rintro _ h e hp
    exact retE (enc := spec_l4Has.enc) h rfl
def spec_ParentOf.enc (r : Int) : Res := ([(.d (.p (.int .i64 r)))], [])
def spec_ParentOf.en (a0 : List impl_Node) (a1 : Int) (r : Int) (S : St) : Prop := endV tb md 82 Tryz.f82 [(.d (.l true 7 (a0.map impl_Node.e))), (.d (.p (.int .i64 a1)))] .ret S = some (spec_ParentOf.enc r)
def spec_ParentOf.l0 (a0 : List impl_Node) (a1 : Int) (K : Nat) : Nat → Int → Option (Int ⊕ Unit)
  | 0, _ => none
  | k + 1, v4 => if v4 < (a0.length : Int) then ((at_ a0 v4).bind fun x6 => ((spec_Kids.f K x6).bind fun y7 => ((spec_l4Has.f K y7 a1).bind fun y9 => (if y9 = true then (some (.inl v4)) else (spec_ParentOf.l0 a0 a1 K k (w64 (v4 + 1))))))) else (some (.inr ()))
def spec_ParentOf.f  (K : Nat) (a0 : List impl_Node) (a1 : Int) : Option (Int) := (spec_NodesOk.f K a0).bind fun y1 => (if (!y1) = true then (some (-1)) else (jn (fun (_ : Unit) => some (-1)) (fun j => lb (spec_ParentOf.l0 a0 a1 K K 0) (fun r => some r) (fun (_ : Unit) => j ()))))
theorem spec_ParentOf.ev   {K : Nat} {a0 : List impl_Node} {a1 : Int} {r : Int} (h : spec_ParentOf.f  K a0 a1 = some r) : E 82 [(.d (.l true 7 (a0.map impl_Node.e))), (.d (.p (.int .i64 a1)))] = some ([(.d (.p (.int .i64 r)))], []) := by
  refine Ev_intro (fn := Tryz.f82) rfl (by kernel_rfl) (c := _) rfl ⟨rfl, by simp⟩ rfl (evP_spec _ ?_)
  unfold spec_ParentOf.f at h
  refine goS ?_
  refine bindG h fun y1 hy2 h => ?_
  refine exM ([(.d (.p (.bool y1)))], []) ?_ ?_
  · exact spec_NodesOk.ev hy2
  refine ifB h (fun c3 h => ?_) (fun c3 h => ?_)
  · exact retE (enc := spec_ParentOf.enc) h rfl
  · refine seqJ h 23 (fun x => []) (fun x => []) (fun J h => ?_) ?_
    · refine loopB (α := Int) (a := 0) 23 (fun x => [(0, (.d (.l true 7 (a0.map impl_Node.e)))), (1, (.d (.p (.int .i64 a1)))), (5, (.d (.p (.int .i64 x))))]) (fun x => []) (fun k x => spec_ParentOf.l0 a0 a1 K k x) (spec_ParentOf.en a0 a1) 0 (fun x => []) (fun x => []) h (fun _ => rfl) ?_ ⟨rfl, ⟨rfl, rfl, rfl, trivial⟩, trivial⟩ ?_ ?_
      · rintro k v4 r h e hp
        replace h : spec_ParentOf.l0 a0 a1 K (k + 1) v4 = some r := h
        unfold spec_ParentOf.l0 at h
        refine goS ?_
        refine eqM ((a0.length : Int) : Int) (mLen rfl) ?_
        refine iteF h (fun c5 h => ?_) (fun c5 h => ?_)
        · refine goS ?_
          refine bindG h fun x6 hx6 h => ?_
          refine anM (at_ix rfl hx6) ?_
          refine exM (impl_Node.e x6) (at_get rfl hx6) ?_
          refine bindG h fun y7 hy8 h => ?_
          refine exM ([(.own true 1 (y7.map eI))], []) ?_ ?_
          · exact spec_Kids.ev hy8
          refine bindG h fun y9 hy10 h => ?_
          refine exM ([(.d (.p (.bool y9)))], []) ?_ ?_
          · exact spec_l4Has.ev hy10
          refine ifB h (fun c11 h => ?_) (fun c11 h => ?_)
          · exact lqL h rfl
          · exact ⟨(w64 (v4 + 1)), h, ⟨rfl, ⟨rfl, rfl, rfl, trivial⟩, trivial⟩⟩
        · refine lqR h ?_
          exact ⟨rfl, trivial, trivial⟩
      · intro r' S' h q
        exact retE (enc := spec_ParentOf.enc) h q
      · rintro _ S' h ⟨qn, ⟨_⟩, ⟨_⟩⟩
        exact ⟨(), h, ⟨qn, trivial, trivial⟩⟩
    · rintro _ h e hp
      exact retE (enc := spec_ParentOf.enc) h rfl
def spec_l6Bound.enc (r : List ByteArray × List Int) : Res := ([(.own true 1 (r.1.map eS)), (.own true 1 (r.2.map eI))], [])
def spec_l6Bound.f  (K : Nat) (a0 : impl_Node) (a1 : Int) : Option (List ByteArray × List Int) := jn (fun (_ : Unit) => some (([] : List ByteArray), ([] : List Int))) (fun j => if a0.Kind = 3 then (some (([a0.Name] : List ByteArray), ([0] : List Int))) else (jn (fun (v2 : Bool) => if v2 = true then (if a1 = a0.B then (some (([a0.Name] : List ByteArray), ([0] : List Int))) else (j ())) else (if a0.Kind = 6 then (if a1 = a0.A then (some (([a0.Other, a0.Name] : List ByteArray), ([1, 0] : List Int))) else (some (([a0.Name] : List ByteArray), ([0] : List Int)))) else (if a0.Kind = 14 then (if a1 = a0.C then (some (([a0.Other, a0.Name] : List ByteArray), ([1, 0] : List Int))) else (j ())) else (j ())))) (fun j => if a0.Kind = 5 then (j true) else (j (decide (a0.Kind = 19))))))
theorem spec_l6Bound.ev   {K : Nat} {a0 : impl_Node} {a1 : Int} {r : List ByteArray × List Int} (h : spec_l6Bound.f  K a0 a1 = some r) : E 83 [(.agg (a0.e.map .d)), (.d (.p (.int .i64 a1)))] = some ([(.own true 1 (r.1.map eS)), (.own true 1 (r.2.map eI))], []) := by
  refine Ev_intro (fn := Tryz.f83) rfl (by kernel_rfl) (c := _) rfl ⟨rfl, by simp⟩ rfl (evP_spec _ ?_)
  unfold spec_l6Bound.f at h
  refine seqJ h 55 (fun x => []) (fun x => []) (fun J h => ?_) ?_
  · try ((with_reducible apply cdX); exact rfl)
    refine iteF h (fun c1 h => ?_) (fun c1 h => ?_)
    · refine eqM (([a0.Name] : List ByteArray).map eS) rfl ?_
      refine eqM (([0] : List Int).map eI) rfl ?_
      exact retE (enc := spec_l6Bound.enc) h rfl
    · refine seqJ h 55 (fun x => [(1, (.d (.p (.int .i64 a1)))), (2, (.ptr 2 0 2 0)), (7, (.d (.p (.int .i64 a0.Kind)))), (14, (.d (.p (.bool x))))]) (fun x => [(2, 0, 2, (some (.box [(.d (.p (.int .i64 a0.Kind))), (.d (.p (.int .i64 a0.A))), (.d (.p (.int .i64 a0.B))), (.d (.p (.int .i64 a0.C))), (.d (.p (.int .i64 a0.N))), (.d (.p (.string a0.Name))), (.d (.p (.string a0.Other)))])))]) (fun J h => ?_) ?_
      · try ((with_reducible apply cdX); exact rfl)
        refine iteF h (fun c3 h => ?_) (fun c3 h => ?_)
        · exact ⟨true, h, ⟨rfl, ⟨rfl, rfl, rfl, rfl, trivial⟩, ⟨rfl, trivial⟩⟩⟩
        · exact ⟨(decide (a0.Kind = 19)), h, ⟨rfl, ⟨rfl, rfl, rfl, rfl, trivial⟩, ⟨rfl, trivial⟩⟩⟩
      · rintro v2 h e hp
        try ((with_reducible apply cdX); exact rfl)
        refine ifB h (fun c4 h => ?_) (fun c4 h => ?_)
        · try ((with_reducible apply cdX); exact rfl)
          refine iteF h (fun c5 h => ?_) (fun c5 h => ?_)
          · refine eqM (([a0.Name] : List ByteArray).map eS) rfl ?_
            refine eqM (([0] : List Int).map eI) rfl ?_
            exact retE (enc := spec_l6Bound.enc) h rfl
          · exact ⟨(), h, ⟨rfl, trivial, trivial⟩⟩
        · try ((with_reducible apply cdX); exact rfl)
          refine iteF h (fun c6 h => ?_) (fun c6 h => ?_)
          · refine goS ?_
            try ((with_reducible apply cdX); exact rfl)
            refine iteF h (fun c7 h => ?_) (fun c7 h => ?_)
            · refine eqM (([a0.Other, a0.Name] : List ByteArray).map eS) rfl ?_
              refine eqM (([1, 0] : List Int).map eI) rfl ?_
              exact retE (enc := spec_l6Bound.enc) h rfl
            · refine eqM (([a0.Name] : List ByteArray).map eS) rfl ?_
              refine eqM (([0] : List Int).map eI) rfl ?_
              exact retE (enc := spec_l6Bound.enc) h rfl
          · try ((with_reducible apply cdX); exact rfl)
            refine iteF h (fun c8 h => ?_) (fun c8 h => ?_)
            · try ((with_reducible apply cdX); exact rfl)
              refine iteF h (fun c9 h => ?_) (fun c9 h => ?_)
              · refine eqM (([a0.Other, a0.Name] : List ByteArray).map eS) rfl ?_
                refine eqM (([1, 0] : List Int).map eI) rfl ?_
                exact retE (enc := spec_l6Bound.enc) h rfl
              · exact ⟨(), h, ⟨rfl, trivial, trivial⟩⟩
            · exact ⟨(), h, ⟨rfl, trivial, trivial⟩⟩
  · rintro _ h e hp
    refine eqM (([] : List ByteArray).map eS) rfl ?_
    refine eqM (([] : List Int).map eI) rfl ?_
    exact retE (enc := spec_l6Bound.enc) h rfl
def spec_BinderOf.enc (r : impl_Bind) : Res := ([(.agg (r.e.map .d))], [])
def spec_BinderOf.en (a0 : List impl_Node) (a1 : Int) (r : impl_Bind) (S : St) : Prop := endV tb md 52 Tryz.f52 [(.d (.l true 7 (a0.map impl_Node.e))), (.d (.p (.int .i64 a1)))] .ret S = some (spec_BinderOf.enc r)
def spec_BinderOf.l1 (a0 : List impl_Node) (a1 : Int) (v13 : Int) (y16 : List ByteArray) (y17 : List Int) (K : Nat) : Nat → Int → Option (impl_Bind ⊕ Unit)
  | 0, _ => none
  | k + 1, v19 => if v19 < (y16.length : Int) then ((at_ y16 v19).bind fun x21 => ((at_ a0 a1).bind fun x22 => (if (x21.toList == x22.Name.toList) = true then ((at_ y17 v19).bind fun x24 => (some (.inl (⟨v13, x24⟩ : impl_Bind)))) else (spec_BinderOf.l1 a0 a1 v13 y16 y17 K k (w64 (v19 + 1)))))) else (some (.inr ()))
def spec_BinderOf.l0 (a0 : List impl_Node) (a1 : Int) (K : Nat) : Nat → Int → Int → Option (impl_Bind ⊕ Unit)
  | 0, _, _ => none
  | k + 1, v12, v13 => if v13 ≥ 0 then ((at_ a0 v13).bind fun x15 => ((spec_l6Bound.f K x15 v12).bind fun (y16, y17) => (jn (fun (_ : Unit) => (spec_ParentOf.f K a0 v13).bind fun y25 => (spec_BinderOf.l0 a0 a1 K k v13 y25)) (fun j => lb (spec_BinderOf.l1 a0 a1 v13 y16 y17 K K 0) (fun r => some (.inl r)) (fun (_ : Unit) => j ()))))) else (some (.inr ()))
def spec_BinderOf.f  (K : Nat) (a0 : List impl_Node) (a1 : Int) : Option (impl_Bind) := jn (fun (v1 : Bool) => if v1 = true then (some (⟨(-1), (-1)⟩ : impl_Bind)) else (jn (fun (_ : Unit) => some (⟨(-1), (-1)⟩ : impl_Bind)) (fun j => (spec_ParentOf.f K a0 a1).bind fun y10 => (lb (spec_BinderOf.l0 a0 a1 K K a1 y10) (fun r => some r) (fun (_ : Unit) => j ()))))) (fun j => (spec_NodesOk.f K a0).bind fun y2 => (if (!y2) = true then (j true) else ((spec_l1In.f K a1 0 (w64 ((a0.length : Int) - 1))).bind fun y5 => (if (!y5) = true then (j true) else ((at_ a0 a1).bind fun x8 => (j (!(decide (x8.Kind = 1)))))))))
theorem spec_BinderOf.ev   {K : Nat} {a0 : List impl_Node} {a1 : Int} {r : impl_Bind} (h : spec_BinderOf.f  K a0 a1 = some r) : E 52 [(.d (.l true 7 (a0.map impl_Node.e))), (.d (.p (.int .i64 a1)))] = some ([(.agg (r.e.map .d))], []) := by
  refine Ev_intro (fn := Tryz.f52) rfl (by kernel_rfl) (c := _) rfl ⟨rfl, by simp⟩ rfl (evP_spec _ ?_)
  unfold spec_BinderOf.f at h
  refine goS ?_
  refine goS ?_
  refine seqJ h 74 (fun x => [(0, (.d (.l true 7 (a0.map impl_Node.e)))), (1, (.d (.p (.int .i64 a1)))), (4, (.ptr 4 0 2 0)), (5, (.ptr 5 0 2 0)), (30, (.d (.p (.bool x))))]) (fun x => [(4, 0, 2, (some (.box [(.d (.p (.int .i64 0))), (.d (.p (.int .i64 0)))]))), (5, 0, 2, (some (.box [(.d (.p (.int .i64 (-1)))), (.d (.p (.int .i64 (-1))))])))]) (fun J h => ?_) ?_
  · refine bindG h fun y2 hy3 h => ?_
    refine exM ([(.d (.p (.bool y2)))], []) ?_ ?_
    · exact spec_NodesOk.ev hy3
    refine ifB h (fun c4 h => ?_) (fun c4 h => ?_)
    · refine Ask.T rfl ?_
      refine Ask.T rfl ?_
      refine Ask.T rfl ?_
      refine Ask.T rfl ?_
      refine Ask.T rfl ?_
      refine Ask.T rfl ?_
      refine Ask.T rfl ?_
      refine Ask.T rfl ?_
      refine Ask.T rfl ?_
      refine Ask.T rfl ?_
      refine Ask.T rfl ?_
      refine Ask.T rfl ?_
      refine Ask.T rfl ?_
      exact ⟨true, h, ⟨rfl, ⟨rfl, rfl, rfl, rfl, rfl, trivial⟩, ⟨rfl, rfl, trivial⟩⟩⟩
    · refine Ask.F rfl ?_
      refine Ask.F rfl ?_
      refine eqM ((a0.length : Int) : Int) (mLen rfl) ?_
      refine Ask.F rfl ?_
      refine Ask.F rfl ?_
      refine bindG h fun y5 hy6 h => ?_
      refine exM ([(.d (.p (.bool y5)))], []) ?_ ?_
      · exact spec_l1In.ev hy6
      refine Ask.F rfl ?_
      refine Ask.F rfl ?_
      refine ifB h (fun c7 h => ?_) (fun c7 h => ?_)
      · refine Ask.T rfl ?_
        refine Ask.T rfl ?_
        refine Ask.T rfl ?_
        refine Ask.T rfl ?_
        refine Ask.T rfl ?_
        refine Ask.T rfl ?_
        exact ⟨true, h, ⟨rfl, ⟨rfl, rfl, rfl, rfl, rfl, trivial⟩, ⟨rfl, rfl, trivial⟩⟩⟩
      · refine Ask.F rfl ?_
        refine Ask.F rfl ?_
        refine bindG h fun x8 hx8 h => ?_
        refine anM (at_ix rfl hx8) ?_
        refine Ask.F rfl ?_
        refine Ask.F rfl ?_
        refine exM (impl_Node.e x8) (at_get rfl hx8) ?_
        refine Ask.F rfl ?_
        refine Ask.F rfl ?_
        exact ⟨(!(decide (x8.Kind = 1))), h, ⟨rfl, ⟨rfl, rfl, rfl, rfl, rfl, trivial⟩, ⟨rfl, rfl, trivial⟩⟩⟩
  · rintro v1 h e hp
    try ((with_reducible apply cdX); exact rfl)
    refine ifB h (fun c9 h => ?_) (fun c9 h => ?_)
    · refine goS ?_
      exact retE (enc := spec_BinderOf.enc) h rfl
    · refine seqJ h 74 (fun x => [(4, (.ptr 4 0 2 0)), (5, (.ptr 5 0 2 0))]) (fun x => [(4, 0, 2, (some (.box [(.d (.p (.int .i64 0))), (.d (.p (.int .i64 0)))]))), (5, 0, 2, (some (.box [(.d (.p (.int .i64 (-1)))), (.d (.p (.int .i64 (-1))))])))]) (fun J h => ?_) ?_
      · refine bindG h fun y10 hy11 h => ?_
        refine exM ([(.d (.p (.int .i64 y10)))], []) ?_ ?_
        · exact spec_ParentOf.ev hy11
        refine loopB (α := Int × Int) (a := (a1, y10)) 74 (fun x => [(0, (.d (.l true 7 (a0.map impl_Node.e)))), (1, (.d (.p (.int .i64 a1)))), (4, (.ptr 4 0 2 0)), (5, (.ptr 5 0 2 0)), (6, (.d (.p (.int .i64 x.1)))), (7, (.d (.p (.int .i64 x.2))))]) (fun x => [(4, 0, 2, (some (.box [(.d (.p (.int .i64 0))), (.d (.p (.int .i64 0)))]))), (5, 0, 2, (some (.box [(.d (.p (.int .i64 (-1)))), (.d (.p (.int .i64 (-1))))])))]) (fun k x => spec_BinderOf.l0 a0 a1 K k x.1 x.2) (spec_BinderOf.en a0 a1) 0 (fun x => [(4, (.ptr 4 0 2 0)), (5, (.ptr 5 0 2 0))]) (fun x => [(4, 0, 2, (some (.box [(.d (.p (.int .i64 0))), (.d (.p (.int .i64 0)))]))), (5, 0, 2, (some (.box [(.d (.p (.int .i64 (-1)))), (.d (.p (.int .i64 (-1))))])))]) h (fun _ => rfl) ?_ ⟨rfl, ⟨rfl, rfl, rfl, rfl, rfl, rfl, trivial⟩, ⟨rfl, rfl, trivial⟩⟩ ?_ ?_
        · rintro k ⟨v12, v13⟩ r h e hp
          replace h : spec_BinderOf.l0 a0 a1 K (k + 1) v12 v13 = some r := h
          unfold spec_BinderOf.l0 at h
          refine goS ?_
          try ((with_reducible apply cdX); exact rfl)
          refine iteF h (fun c14 h => ?_) (fun c14 h => ?_)
          · refine goS ?_
            refine bindG h fun x15 hx15 h => ?_
            refine anM (at_ix rfl hx15) ?_
            refine exM (impl_Node.e x15) (at_get rfl hx15) ?_
            refine bindG h ?_
            rintro ⟨y16, y17⟩ hy18 h
            refine exM ([(.own true 1 (y16.map eS)), (.own true 1 (y17.map eI))], []) ?_ ?_
            · exact spec_l6Bound.ev hy18
            refine seqJ h 74 (fun x => [(0, (.d (.l true 7 (a0.map impl_Node.e)))), (1, (.d (.p (.int .i64 a1)))), (4, (.ptr 4 0 2 0)), (5, (.ptr 5 0 2 0)), (7, (.d (.p (.int .i64 v13))))]) (fun x => [(4, 0, 2, (some (.box [(.d (.p (.int .i64 0))), (.d (.p (.int .i64 0)))]))), (5, 0, 2, (some (.box [(.d (.p (.int .i64 (-1)))), (.d (.p (.int .i64 (-1))))])))]) (fun J h => ?_) ?_
            · refine loopB (α := Int) (a := 0) 74 (fun x => [(0, (.d (.l true 7 (a0.map impl_Node.e)))), (1, (.d (.p (.int .i64 a1)))), (4, (.ptr 4 0 2 0)), (5, (.ptr 5 0 2 0)), (7, (.d (.p (.int .i64 v13)))), (8, (.own 8 1 2)), (9, (.own 9 1 2)), (10, (.d (.p (.int .i64 x))))]) (fun x => [(4, 0, 2, (some (.box [(.d (.p (.int .i64 0))), (.d (.p (.int .i64 0)))]))), (5, 0, 2, (some (.box [(.d (.p (.int .i64 (-1)))), (.d (.p (.int .i64 (-1))))]))), (8, 1, 2, (some (.row true true 1 (y16.map eS)))), (9, 1, 2, (some (.row true true 1 (y17.map eI))))]) (fun k x => spec_BinderOf.l1 a0 a1 v13 y16 y17 K k x) (spec_BinderOf.en a0 a1) 2 (fun x => [(0, (.d (.l true 7 (a0.map impl_Node.e)))), (1, (.d (.p (.int .i64 a1)))), (4, (.ptr 4 0 2 0)), (5, (.ptr 5 0 2 0)), (7, (.d (.p (.int .i64 v13))))]) (fun x => [(4, 0, 2, (some (.box [(.d (.p (.int .i64 0))), (.d (.p (.int .i64 0)))]))), (5, 0, 2, (some (.box [(.d (.p (.int .i64 (-1)))), (.d (.p (.int .i64 (-1))))])))]) h (fun _ => rfl) ?_ ⟨rfl, ⟨rfl, rfl, rfl, rfl, rfl, rfl, rfl, rfl, trivial⟩, ⟨rfl, rfl, rfl, rfl, trivial⟩⟩ ?_ ?_
              · rintro k v19 r h e hp
                replace h : spec_BinderOf.l1 a0 a1 v13 y16 y17 K (k + 1) v19 = some r := h
                unfold spec_BinderOf.l1 at h
                refine goS ?_
                refine eqM ((y16.length : Int) : Int) (mLen rfl) ?_
                refine iteF h (fun c20 h => ?_) (fun c20 h => ?_)
                · refine goS ?_
                  refine ⟨[[], [], [62, 63, 64], [62, 63, 64], [], [], [58, 59], [58, 59], [58, 59], []], [], by kernel_rfl, ?_⟩
                  refine bindG h fun x21 hx21 h => ?_
                  refine anM (at_ix rfl hx21) ?_
                  refine exM (eS x21) (at_get rfl hx21) ?_
                  refine bindG h fun x22 hx22 h => ?_
                  refine anM (at_ix rfl hx22) ?_
                  refine exM (impl_Node.e x22) (at_get rfl hx22) ?_
                  refine ifB h (fun c23 h => ?_) (fun c23 h => ?_)
                  · refine goS ?_
                    refine bindG h fun x24 hx24 h => ?_
                    refine anM (at_ix rfl hx24) ?_
                    refine exM (eI x24) (at_get rfl hx24) ?_
                    exact lqL h rfl
                  · exact ⟨(w64 (v19 + 1)), h, ⟨rfl, ⟨rfl, rfl, rfl, rfl, rfl, rfl, rfl, rfl, trivial⟩, ⟨rfl, rfl, rfl, rfl, trivial⟩⟩⟩
                · refine lqR h ?_
                  exact ⟨rfl, ⟨rfl, rfl, rfl, rfl, rfl, trivial⟩, ⟨rfl, rfl, trivial⟩⟩
              · intro r' S' h q
                exact lqL h q
              · rintro _ S' h ⟨qn, ⟨qa0, qa1, qa2, qa3, qa4, _⟩, ⟨qb0, qb1, _⟩⟩
                exact ⟨(), h, ⟨qn, ⟨qa0, qa1, qa2, qa3, qa4, trivial⟩, ⟨qb0, qb1, trivial⟩⟩⟩
            · rintro _ h e hp
              refine bindG h fun y25 hy26 h => ?_
              refine exM ([(.d (.p (.int .i64 y25)))], []) ?_ ?_
              · exact spec_ParentOf.ev hy26
              exact ⟨(v13, y25), h, ⟨rfl, ⟨rfl, rfl, rfl, rfl, rfl, rfl, trivial⟩, ⟨rfl, rfl, trivial⟩⟩⟩
          · refine lqR h ?_
            exact ⟨rfl, ⟨rfl, rfl, trivial⟩, ⟨rfl, rfl, trivial⟩⟩
        · intro r' S' h q
          exact retE (enc := spec_BinderOf.enc) h q
        · rintro _ S' h ⟨qn, ⟨qa0, qa1, _⟩, ⟨qb0, qb1, _⟩⟩
          exact ⟨(), h, ⟨qn, ⟨qa0, qa1, trivial⟩, ⟨qb0, qb1, trivial⟩⟩⟩
      · rintro _ h e hp
        refine goS ?_
        exact retE (enc := spec_BinderOf.enc) h rfl
def spec_l6Sort.enc (r : List ByteArray) : Res := ([(.d (.l true 1 (r.map eS)))], [])
def spec_l6Sort.en (a0 : List ByteArray) (a1 : ByteArray) (r : List ByteArray) (S : St) : Prop := endV tb md 78 Tryz.f78 [(.d (.l true 1 (a0.map eS))), (.d (.p (.string a1)))] .ret S = some (spec_l6Sort.enc r)
def spec_l6Sort.l0 (a0 : List ByteArray) (a1 : ByteArray) (K : Nat) : Nat → Bool → Int → (List ByteArray) → Option ((List ByteArray) ⊕ (Bool × List ByteArray))
  | 0, _, _, _ => none
  | k + 1, v3, v4, v5 => if v4 < (a0.length : Int) then ((at_ a0 v4).bind fun x9 => (if (x9.toList == a1.toList) = true then (some (.inl a0)) else (jn (fun (v11, v12) => gd ((v12.length + 1) * 16 ≤ 140737488355328) (spec_l6Sort.l0 a0 a1 K k v11 (w64 (v4 + 1)) (v12 ++ ([x9] : List ByteArray)))) (fun j => jn (fun (v13 : Bool) => if v13 = true then (gd ((v5.length + 1) * 16 ≤ 140737488355328) (j (true, (v5 ++ ([a1] : List ByteArray))))) else (j (v3, v5))) (fun j => if (!v3) = true then (j (!(Op.bytesLess x9.toList a1.toList || x9.toList == a1.toList))) else (j false)))))) else (some (.inr (v3, v5)))
def spec_l6Sort.f  (K : Nat) (a0 : List ByteArray) (a1 : ByteArray) : Option (List ByteArray) := jn (fun (v1, v2) => jn (fun (v16 : List ByteArray) => some v16) (fun j => if (!v1) = true then (gd ((v2.length + 1) * 16 ≤ 140737488355328) (j (v2 ++ ([a1] : List ByteArray)))) else (j v2))) (fun j => lb (spec_l6Sort.l0 a0 a1 K K false 0 ([] : List ByteArray)) (fun r => some r) (fun (v6, v7) => j (v6, v7)))
theorem spec_l6Sort.ev   {K : Nat} {a0 : List ByteArray} {a1 : ByteArray} {r : List ByteArray} (h : spec_l6Sort.f  K a0 a1 = some r) : E 78 [(.d (.l true 1 (a0.map eS))), (.d (.p (.string a1)))] = some ([(.d (.l true 1 (r.map eS)))], []) := by
  refine Ev_intro (fn := Tryz.f78) rfl (by kernel_rfl) (c := _) rfl ⟨rfl, by simp⟩ rfl (evP_spec _ ?_)
  unfold spec_l6Sort.f at h
  refine eqM (([] : List ByteArray).map eS) rfl ?_
  refine seqJ h 50 (fun x => [(1, (.d (.p (.string a1)))), (5, (.own 5 1 2)), (6, (.d (.p (.bool x.1))))]) (fun x => [(5, 1, 2, (some (.row true true 1 (x.2.map eS))))]) (fun J h => ?_) ?_
  · refine loopB (α := Bool × Int × List ByteArray) (a := (false, 0, ([] : List ByteArray))) 50 (fun x => [(0, (.d (.l true 1 (a0.map eS)))), (1, (.d (.p (.string a1)))), (5, (.own 5 1 2)), (6, (.d (.p (.bool x.1)))), (7, (.d (.p (.int .i64 x.2.1))))]) (fun x => [(5, 1, 2, (some (.row true true 1 (x.2.2.map eS))))]) (fun k x => spec_l6Sort.l0 a0 a1 K k x.1 x.2.1 x.2.2) (spec_l6Sort.en a0 a1) 0 (fun x => [(1, (.d (.p (.string a1)))), (5, (.own 5 1 2)), (6, (.d (.p (.bool x.1))))]) (fun x => [(5, 1, 2, (some (.row true true 1 (x.2.map eS))))]) h (fun _ => rfl) ?_ ⟨rfl, ⟨rfl, rfl, rfl, rfl, rfl, trivial⟩, ⟨rfl, trivial⟩⟩ ?_ ?_
    · rintro k ⟨v3, v4, v5⟩ r h e hp
      replace h : spec_l6Sort.l0 a0 a1 K (k + 1) v3 v4 v5 = some r := h
      unfold spec_l6Sort.l0 at h
      refine goS ?_
      refine eqM ((a0.length : Int) : Int) (mLen rfl) ?_
      refine iteF h (fun c8 h => ?_) (fun c8 h => ?_)
      · refine goS ?_
        refine goS ?_
        refine bindG h fun x9 hx9 h => ?_
        refine anM (at_ix rfl hx9) ?_
        refine exM (eS x9) (at_get rfl hx9) ?_
        refine ifB h (fun c10 h => ?_) (fun c10 h => ?_)
        · exact lqL h rfl
        · refine seqJ h 50 (fun x => [(0, (.d (.l true 1 (a0.map eS)))), (1, (.d (.p (.string a1)))), (5, (.own 5 1 2)), (6, (.d (.p (.bool x.1)))), (7, (.d (.p (.int .i64 v4))))]) (fun x => [(5, 1, 2, (some (.row true true 1 (x.2.map eS))))]) (fun J h => ?_) ?_
          · refine seqJ h 50 (fun x => [(0, (.d (.l true 1 (a0.map eS)))), (1, (.d (.p (.string a1)))), (5, (.own 5 1 2)), (6, (.d (.p (.bool v3)))), (7, (.d (.p (.int .i64 v4)))), (31, (.d (.p (.bool x))))]) (fun x => [(5, 1, 2, (some (.row true true 1 (v5.map eS))))]) (fun J h => ?_) ?_
            · try ((with_reducible apply cdX); exact rfl)
              refine ifB h (fun c14 h => ?_) (fun c14 h => ?_)
              · refine Ask.T rfl ?_
                refine Ask.T rfl ?_
                refine anM (at_ix rfl hx9) ?_
                refine Ask.T rfl ?_
                refine exM (eS x9) (at_get rfl hx9) ?_
                refine Ask.T rfl ?_
                refine Ask.T rfl ?_
                refine Ask.T rfl ?_
                exact ⟨(!(Op.bytesLess x9.toList a1.toList || x9.toList == a1.toList)), h, ⟨rfl, ⟨rfl, rfl, rfl, rfl, rfl, rfl, trivial⟩, ⟨rfl, trivial⟩⟩⟩
              · refine Ask.F rfl ?_
                refine Ask.F rfl ?_
                refine Ask.F rfl ?_
                refine Ask.F rfl ?_
                refine Ask.F rfl ?_
                refine Ask.F rfl ?_
                exact ⟨false, h, ⟨rfl, ⟨rfl, rfl, rfl, rfl, rfl, rfl, trivial⟩, ⟨rfl, trivial⟩⟩⟩
            · rintro v13 h e hp
              try ((with_reducible apply cdX); exact rfl)
              refine ifB h (fun c15 h => ?_) (fun c15 h => ?_)
              · refine eqM (([a1] : List ByteArray).map eS) rfl ?_
                refine gdG h fun hc h => ?_
                refine anM (apB hc) ?_
                refine eqM ((v5 ++ ([a1] : List ByteArray)).map eS) (mApp rfl rfl) ?_
                exact ⟨(true, (v5 ++ ([a1] : List ByteArray))), h, ⟨rfl, ⟨rfl, rfl, rfl, rfl, rfl, trivial⟩, ⟨rfl, trivial⟩⟩⟩
              · exact ⟨(v3, v5), h, ⟨rfl, ⟨rfl, rfl, rfl, rfl, rfl, trivial⟩, ⟨rfl, trivial⟩⟩⟩
          · rintro ⟨v11, v12⟩ h e hp
            refine anM (at_ix rfl hx9) ?_
            refine exM (eS x9) (at_get rfl hx9) ?_
            refine eqM (([x9] : List ByteArray).map eS) rfl ?_
            refine gdG h fun hc h => ?_
            refine anM (apB hc) ?_
            refine eqM ((v12 ++ ([x9] : List ByteArray)).map eS) (mApp rfl rfl) ?_
            exact ⟨(v11, (w64 (v4 + 1)), (v12 ++ ([x9] : List ByteArray))), h, ⟨rfl, ⟨rfl, rfl, rfl, rfl, rfl, trivial⟩, ⟨rfl, trivial⟩⟩⟩
      · refine lqR h ?_
        exact ⟨rfl, ⟨rfl, rfl, rfl, trivial⟩, ⟨rfl, trivial⟩⟩
    · intro r' S' h q
      exact retE (enc := spec_l6Sort.enc) h q
    · rintro ⟨v6, v7⟩ S' h ⟨qn, ⟨qa0, qa1, qa2, _⟩, ⟨qb0, _⟩⟩
      exact ⟨(v6, v7), h, ⟨qn, ⟨qa0, qa1, qa2, trivial⟩, ⟨qb0, trivial⟩⟩⟩
  · rintro ⟨v1, v2⟩ h e hp
    refine seqJ h 50 (fun x => [(5, (.own 5 1 2))]) (fun x => [(5, 1, 2, (some (.row true true 1 (x.map eS))))]) (fun J h => ?_) ?_
    · try ((with_reducible apply cdX); exact rfl)
      refine ifB h (fun c17 h => ?_) (fun c17 h => ?_)
      · refine eqM (([a1] : List ByteArray).map eS) rfl ?_
        refine gdG h fun hc h => ?_
        refine anM (apB hc) ?_
        refine eqM ((v2 ++ ([a1] : List ByteArray)).map eS) (mApp rfl rfl) ?_
        exact ⟨(v2 ++ ([a1] : List ByteArray)), h, ⟨rfl, ⟨rfl, trivial⟩, ⟨rfl, trivial⟩⟩⟩
      · exact ⟨v2, h, ⟨rfl, ⟨rfl, trivial⟩, ⟨rfl, trivial⟩⟩⟩
    · rintro v16 h e hp
      exact retE (enc := spec_l6Sort.enc) h rfl
def spec_FreeNames.enc (r : List ByteArray) : Res := ([(.d (.l true 1 (r.map eS)))], [])
def spec_FreeNames.l0 (a0 : List impl_Node) (K : Nat) : Nat → (List ByteArray) → Int → Option (List ByteArray)
  | 0, _, _ => none
  | k + 1, v2, v3 => jn (fun (v5 : Bool) => if v5 = true then (jn (fun (v10 : List ByteArray) => spec_FreeNames.l0 a0 K k v10 (w64 (v3 + 1))) (fun j => jn (fun (v11 : Bool) => if v11 = true then ((at_ a0 v3).bind fun x17 => ((spec_l6Sort.f K v2 x17.Name).bind fun y18 => (j y18))) else (j v2)) (fun j => (at_ a0 v3).bind fun x12 => (if x12.Kind = 1 then ((spec_BinderOf.f K a0 v3).bind fun y14 => (j (decide (y14.Node < 0)))) else (j false))))) else (some v2)) (fun j => if v3 < (a0.length : Int) then ((spec_NodesOk.f K a0).bind fun y7 => (j y7)) else (j false))
def spec_FreeNames.f  (K : Nat) (a0 : List impl_Node) : Option (List ByteArray) := jn (fun (v1 : List ByteArray) => some v1) (fun j => (spec_FreeNames.l0 a0 K K ([] : List ByteArray) 0).bind fun (v4 : List ByteArray) => j v4)
theorem spec_FreeNames.ev   {K : Nat} {a0 : List impl_Node} {r : List ByteArray} (h : spec_FreeNames.f  K a0 = some r) : E 48 [(.d (.l true 7 (a0.map impl_Node.e)))] = some ([(.d (.l true 1 (r.map eS)))], []) := by
  refine Ev_intro (fn := Tryz.f48) rfl (by kernel_rfl) (c := _) rfl ⟨rfl, by simp⟩ rfl (evP_spec _ ?_)
  unfold spec_FreeNames.f at h
  refine eqM (([] : List ByteArray).map eS) rfl ?_
  refine seqJ h 37 (fun x => [(3, (.d (.l true 1 (x.map eS))))]) (fun x => []) (fun J h => ?_) ?_
  · refine loopX (α := List ByteArray × Int) (a := (([] : List ByteArray), 0)) 37 (fun x => [(0, (.d (.l true 7 (a0.map impl_Node.e)))), (3, (.d (.l true 1 (x.1.map eS)))), (4, (.d (.p (.int .i64 x.2))))]) (fun x => []) (fun k x => spec_FreeNames.l0 a0 K k x.1 x.2) 0 (fun x => [(3, (.d (.l true 1 (x.map eS))))]) (fun x => []) h (fun _ => rfl) ?_ ⟨rfl, ⟨rfl, rfl, rfl, trivial⟩, trivial⟩ ?_
    · rintro k ⟨v2, v3⟩ r h e hp
      replace h : spec_FreeNames.l0 a0 K (k + 1) v2 v3 = some r := h
      unfold spec_FreeNames.l0 at h
      refine goS ?_
      refine seqJ h 37 (fun x => [(0, (.d (.l true 7 (a0.map impl_Node.e)))), (3, (.d (.l true 1 (v2.map eS)))), (4, (.d (.p (.int .i64 v3)))), (13, (.d (.p (.bool x))))]) (fun x => []) (fun J h => ?_) ?_
      · refine eqM ((a0.length : Int) : Int) (mLen rfl) ?_
        refine iteF h (fun c6 h => ?_) (fun c6 h => ?_)
        · refine Ask.T rfl ?_
          refine bindG h fun y7 hy8 h => ?_
          refine exM ([(.d (.p (.bool y7)))], []) ?_ ?_
          · exact spec_NodesOk.ev hy8
          refine Ask.T rfl ?_
          exact ⟨y7, h, ⟨rfl, ⟨rfl, rfl, rfl, rfl, trivial⟩, trivial⟩⟩
        · refine Ask.F rfl ?_
          refine Ask.F rfl ?_
          exact ⟨false, h, ⟨rfl, ⟨rfl, rfl, rfl, rfl, trivial⟩, trivial⟩⟩
      · rintro v5 h e hp
        try ((with_reducible apply cdX); exact rfl)
        refine ifB h (fun c9 h => ?_) (fun c9 h => ?_)
        · refine seqJ h 37 (fun x => [(0, (.d (.l true 7 (a0.map impl_Node.e)))), (3, (.d (.l true 1 (x.map eS)))), (4, (.d (.p (.int .i64 v3))))]) (fun x => []) (fun J h => ?_) ?_
          · refine seqJ h 37 (fun x => [(0, (.d (.l true 7 (a0.map impl_Node.e)))), (3, (.d (.l true 1 (v2.map eS)))), (4, (.d (.p (.int .i64 v3)))), (28, (.d (.p (.bool x))))]) (fun x => []) (fun J h => ?_) ?_
            · refine bindG h fun x12 hx12 h => ?_
              refine anM (at_ix rfl hx12) ?_
              refine exM (impl_Node.e x12) (at_get rfl hx12) ?_
              refine iteF h (fun c13 h => ?_) (fun c13 h => ?_)
              · refine Ask.T rfl ?_
                refine Ask.T rfl ?_
                refine bindG h fun y14 hy15 h => ?_
                refine exM ([(.agg (y14.e.map .d))], []) ?_ ?_
                · exact spec_BinderOf.ev hy15
                refine Ask.T rfl ?_
                refine Ask.T rfl ?_
                refine Ask.T rfl ?_
                exact ⟨(decide (y14.Node < 0)), h, ⟨rfl, ⟨rfl, rfl, rfl, rfl, trivial⟩, trivial⟩⟩
              · refine Ask.F rfl ?_
                refine Ask.F rfl ?_
                refine Ask.F rfl ?_
                refine Ask.F rfl ?_
                refine Ask.F rfl ?_
                exact ⟨false, h, ⟨rfl, ⟨rfl, rfl, rfl, rfl, trivial⟩, trivial⟩⟩
            · rintro v11 h e hp
              try ((with_reducible apply cdX); exact rfl)
              refine ifB h (fun c16 h => ?_) (fun c16 h => ?_)
              · refine bindG h fun x17 hx17 h => ?_
                refine anM (at_ix rfl hx17) ?_
                refine exM (impl_Node.e x17) (at_get rfl hx17) ?_
                refine bindG h fun y18 hy19 h => ?_
                refine exM ([(.d (.l true 1 (y18.map eS)))], []) ?_ ?_
                · exact spec_l6Sort.ev hy19
                exact ⟨y18, h, ⟨rfl, ⟨rfl, rfl, rfl, trivial⟩, trivial⟩⟩
              · exact ⟨v2, h, ⟨rfl, ⟨rfl, rfl, rfl, trivial⟩, trivial⟩⟩
          · rintro v10 h e hp
            exact ⟨(v10, (w64 (v3 + 1))), h, ⟨rfl, ⟨rfl, rfl, rfl, trivial⟩, trivial⟩⟩
        · refine exQ h ?_
          exact ⟨rfl, ⟨rfl, trivial⟩, trivial⟩
    · rintro v4 S' h ⟨qn, ⟨qa0, _⟩, ⟨_⟩⟩
      exact ⟨v4, h, ⟨qn, ⟨qa0, trivial⟩, trivial⟩⟩
  · rintro v1 h e hp
    exact retE (enc := spec_FreeNames.enc) h rfl
def spec_Closed.enc (r : Bool) : Res := ([(.d (.p (.bool r)))], [])
def spec_Closed.f  (K : Nat) (a0 : List impl_Node) : Option (Bool) := (spec_NodesOk.f K a0).bind fun y1 => (if y1 = true then ((spec_FreeNames.f K a0).bind fun y4 => (some (decide ((y4.length : Int) = 0)))) else (some false))
theorem spec_Closed.ev   {K : Nat} {a0 : List impl_Node} {r : Bool} (h : spec_Closed.f  K a0 = some r) : E 20 [(.d (.l true 7 (a0.map impl_Node.e)))] = some ([(.d (.p (.bool r)))], []) := by
  refine Ev_intro (fn := Tryz.f20) rfl (by kernel_rfl) (c := _) rfl ⟨rfl, by simp⟩ rfl (evP_spec _ ?_)
  unfold spec_Closed.f at h
  refine goS ?_
  refine bindG h fun y1 hy2 h => ?_
  refine exM ([(.d (.p (.bool y1)))], []) ?_ ?_
  · exact spec_NodesOk.ev hy2
  refine ifB h (fun c3 h => ?_) (fun c3 h => ?_)
  · refine Ask.T rfl ?_
    refine bindG h fun y4 hy5 h => ?_
    refine exM ([(.d (.l true 1 (y4.map eS)))], []) ?_ ?_
    · exact spec_FreeNames.ev hy5
    refine Ask.T rfl ?_
    refine eqM ((y4.length : Int) : Int) (mLen rfl) ?_
    refine Ask.T rfl ?_
    refine Ask.T rfl ?_
    exact retE (enc := spec_Closed.enc) h rfl
  · refine Ask.F rfl ?_
    refine Ask.F rfl ?_
    refine Ask.F rfl ?_
    refine Ask.F rfl ?_
    exact retE (enc := spec_Closed.enc) h rfl
def spec_l10Look.enc (r : impl_Val × Bool) : Res := ([(.agg (r.1.e.map .d)), (.d (.p (.bool r.2)))], [])
def spec_l10Look.en (a0 : impl_Heap) (a1 : Int) (a2 : impl_Bind) (r : impl_Val × Bool) (S : St) : Prop := endV tb md 51 Tryz.f51 [(.agg (a0.e.map .d)), (.d (.p (.int .i64 a1))), (.agg (a2.e.map .d))] .ret S = some (spec_l10Look.enc r)
def spec_l10Look.l0 (a0 : impl_Heap) (a2 : impl_Bind) (K : Nat) : Nat → Int → Option ((impl_Val × Bool) ⊕ Unit)
  | 0, _ => none
  | k + 1, v1 => if v1 ≥ 0 then ((at_ a0.Envs v1).bind fun x3 => (jn (fun (v4 : Bool) => if v4 = true then (some (.inl (x3.Val, true))) else (spec_l10Look.l0 a0 a2 K k x3.Next)) (fun j => if x3.Node = a2.Node then (j (decide (x3.Role = a2.Role))) else (j false)))) else (some (.inr ()))
def spec_l10Look.f  (K : Nat) (a0 : impl_Heap) (a1 : Int) (a2 : impl_Bind) : Option (impl_Val × Bool) := jn (fun (_ : Unit) => some ((⟨0, 0⟩ : impl_Val), false)) (fun j => lb (spec_l10Look.l0 a0 a2 K K a1) (fun r => some r) (fun (_ : Unit) => j ()))
theorem spec_l10Look.ev   {K : Nat} {a0 : impl_Heap} {a1 : Int} {a2 : impl_Bind} {r : impl_Val × Bool} (h : spec_l10Look.f  K a0 a1 a2 = some r) : E 51 [(.agg (a0.e.map .d)), (.d (.p (.int .i64 a1))), (.agg (a2.e.map .d))] = some ([(.agg (r.1.e.map .d)), (.d (.p (.bool r.2)))], []) := by
  refine Ev_intro (fn := Tryz.f51) rfl (by kernel_rfl) (c := _) rfl ⟨rfl, by simp⟩ rfl (evP_spec _ ?_)
  unfold spec_l10Look.f at h
  refine seqJ h 33 (fun x => [(6, (.ptr 6 0 2 0))]) (fun x => [(6, 0, 2, (some (.box [(.d (.p (.int .i64 0))), (.d (.p (.int .i64 0)))])))]) (fun J h => ?_) ?_
  · refine loopB (α := Int) (a := a1) 33 (fun x => [(1, (.d (.p (.int .i64 x)))), (3, (.ptr 3 0 2 0)), (5, (.ptr 5 0 2 0)), (6, (.ptr 6 0 2 0))]) (fun x => [(3, 0, 2, (some (.box [(.d (.l true 5 (a0.Envs.map impl_EnvCell.e))), (.d (.l true 2 (a0.Clos.map impl_Clo.e))), (.d (.l true 4 (a0.Twos.map impl_Two.e))), (.d (.l true 2 (a0.Refs.map impl_Val.e)))]))), (5, 0, 2, (some (.box [(.d (.p (.int .i64 a2.Node))), (.d (.p (.int .i64 a2.Role)))]))), (6, 0, 2, (some (.box [(.d (.p (.int .i64 0))), (.d (.p (.int .i64 0)))])))]) (fun k x => spec_l10Look.l0 a0 a2 K k x) (spec_l10Look.en a0 a1 a2) 0 (fun x => [(6, (.ptr 6 0 2 0))]) (fun x => [(6, 0, 2, (some (.box [(.d (.p (.int .i64 0))), (.d (.p (.int .i64 0)))])))]) h (fun _ => rfl) ?_ ⟨rfl, ⟨rfl, rfl, rfl, rfl, trivial⟩, ⟨rfl, rfl, rfl, trivial⟩⟩ ?_ ?_
    · rintro k v1 r h e hp
      replace h : spec_l10Look.l0 a0 a2 K (k + 1) v1 = some r := h
      unfold spec_l10Look.l0 at h
      refine goS ?_
      try ((with_reducible apply cdX); exact rfl)
      refine iteF h (fun c2 h => ?_) (fun c2 h => ?_)
      · refine goS ?_
        refine bindG h fun x3 hx3 h => ?_
        refine anM (at_ix rfl hx3) ?_
        refine exM (impl_EnvCell.e x3) (at_get rfl hx3) ?_
        refine goS ?_
        refine seqJ h 33 (fun x => [(3, (.ptr 3 0 2 0)), (5, (.ptr 5 0 2 0)), (6, (.ptr 6 0 2 0)), (8, (.ptr 8 0 2 0)), (27, (.d (.p (.bool x))))]) (fun x => [(3, 0, 2, (some (.box [(.d (.l true 5 (a0.Envs.map impl_EnvCell.e))), (.d (.l true 2 (a0.Clos.map impl_Clo.e))), (.d (.l true 4 (a0.Twos.map impl_Two.e))), (.d (.l true 2 (a0.Refs.map impl_Val.e)))]))), (5, 0, 2, (some (.box [(.d (.p (.int .i64 a2.Node))), (.d (.p (.int .i64 a2.Role)))]))), (6, 0, 2, (some (.box [(.d (.p (.int .i64 0))), (.d (.p (.int .i64 0)))]))), (8, 0, 2, (some (.box [(.d (.p (.int .i64 x3.Node))), (.d (.p (.int .i64 x3.Role))), (.d (.p (.int .i64 x3.Val.Kind))), (.d (.p (.int .i64 x3.Val.N))), (.d (.p (.int .i64 x3.Next)))])))]) (fun J h => ?_) ?_
        · try ((with_reducible apply cdX); exact rfl)
          refine iteF h (fun c5 h => ?_) (fun c5 h => ?_)
          · refine Ask.T rfl ?_
            refine Ask.T rfl ?_
            refine Ask.T rfl ?_
            refine Ask.T rfl ?_
            refine Ask.T rfl ?_
            exact ⟨(decide (x3.Role = a2.Role)), h, ⟨rfl, ⟨rfl, rfl, rfl, rfl, rfl, trivial⟩, ⟨rfl, rfl, rfl, rfl, trivial⟩⟩⟩
          · refine Ask.F rfl ?_
            refine Ask.F rfl ?_
            refine Ask.F rfl ?_
            refine Ask.F rfl ?_
            refine Ask.F rfl ?_
            exact ⟨false, h, ⟨rfl, ⟨rfl, rfl, rfl, rfl, rfl, trivial⟩, ⟨rfl, rfl, rfl, rfl, trivial⟩⟩⟩
        · rintro v4 h e hp
          try ((with_reducible apply cdX); exact rfl)
          refine ifB h (fun c6 h => ?_) (fun c6 h => ?_)
          · refine goS ?_
            exact lqL h rfl
          · exact ⟨x3.Next, h, ⟨rfl, ⟨rfl, rfl, rfl, rfl, trivial⟩, ⟨rfl, rfl, rfl, trivial⟩⟩⟩
      · refine lqR h ?_
        exact ⟨rfl, ⟨rfl, trivial⟩, ⟨rfl, trivial⟩⟩
    · intro r' S' h q
      exact retE (enc := spec_l10Look.enc) h q
    · rintro _ S' h ⟨qn, ⟨qa0, _⟩, ⟨qb0, _⟩⟩
      exact ⟨(), h, ⟨qn, ⟨qa0, trivial⟩, ⟨qb0, trivial⟩⟩⟩
  · rintro _ h e hp
    refine goS ?_
    exact retE (enc := spec_l10Look.enc) h rfl
def spec_l11Give.enc (r : spec_l11State) : Res := ([], [(.ptr r.q)])
def spec_l11Give.f  (K : Nat) (a0 : spec_l11State) (a1 : impl_Val) : Option (spec_l11State) := some (⟨1, a0.node, a0.env, a1, a0.stack, a0.h_, a0.ev, a0.stuck⟩ : spec_l11State)
theorem spec_l11Give.ev   {K : Nat} {a0 : spec_l11State} {a1 : impl_Val} {r : spec_l11State} (h : spec_l11Give.f  K a0 a1 = some r) : E 84 [(.ptr a0.q), (.agg (a1.e.map .d))] = some ([], [(.ptr r.q)]) := by
  refine Ev_intro (fn := Tryz.f84) rfl (by kernel_rfl) (c := _) rfl ⟨rfl, by simp⟩ (vs := [(.ptr 11 0 1 0), (.agg [(.d (.p (.int .i64 a1.Kind))), (.d (.p (.int .i64 a1.N)))])]) (h0 := (((((((Hp.nil.put 11 1005 (1, (some (.row true true 5 (a0.stack.map spec_l11Frame.e))))).put 11 1006 (1, (some (.row true true 5 (a0.h_.Envs.map impl_EnvCell.e))))).put 11 1007 (1, (some (.row true true 2 (a0.h_.Clos.map impl_Clo.e))))).put 11 1008 (1, (some (.row true true 4 (a0.h_.Twos.map impl_Two.e))))).put 11 1009 (1, (some (.row true true 2 (a0.h_.Refs.map impl_Val.e))))).put 11 1010 (1, (some (.row true true 3 (a0.ev.map impl_Event.e))))).put 11 0 (1, (some (.box [(.d (.p (.int .i64 a0.mode))), (.d (.p (.int .i64 a0.node))), (.d (.p (.int .i64 a0.env))), (.d (.p (.int .i64 a0.val.Kind))), (.d (.p (.int .i64 a0.val.N))), (.own 11 1005 1), (.own 11 1006 1), (.own 11 1007 1), (.own 11 1008 1), (.own 11 1009 1), (.own 11 1010 1), (.d (.p (.bool a0.stuck)))]))))) (by kernel_rfl) (evP_spec _ ?_)
  unfold spec_l11Give.f at h
  refine goR ?_
  refine Re.mk 11 [(0, (.ptr 11 0 1 0)), (3, (.ptr 3 0 2 0))] [(3, 0, 2, (some (.box [(.d (.p (.int .i64 a1.Kind))), (.d (.p (.int .i64 a1.N)))]))), (11, 0, 1, (some (.box [(.d (.p (.int .i64 1))), (.d (.p (.int .i64 a0.node))), (.d (.p (.int .i64 a0.env))), (.d (.p (.int .i64 a0.val.Kind))), (.d (.p (.int .i64 a0.val.N))), (.own 11 1005 2), (.own 11 1006 2), (.own 11 1007 2), (.own 11 1008 2), (.own 11 1009 2), (.own 11 1010 2), (.d (.p (.bool a0.stuck)))]))), (11, 1005, 2, (some (.row true true 5 (a0.stack.map spec_l11Frame.e)))), (11, 1006, 2, (some (.row true true 5 (a0.h_.Envs.map impl_EnvCell.e)))), (11, 1007, 2, (some (.row true true 2 (a0.h_.Clos.map impl_Clo.e)))), (11, 1008, 2, (some (.row true true 4 (a0.h_.Twos.map impl_Two.e)))), (11, 1009, 2, (some (.row true true 2 (a0.h_.Refs.map impl_Val.e)))), (11, 1010, 2, (some (.row true true 3 (a0.ev.map impl_Event.e))))] (by exact ⟨rfl, ⟨(by kernel_rfl), (by kernel_rfl), trivial⟩, ⟨(by kernel_rfl), (by kernel_rfl), (by kernel_rfl), (by kernel_rfl), (by kernel_rfl), (by kernel_rfl), (by kernel_rfl), (by kernel_rfl), trivial⟩⟩) ?_
  intro e hp
  exact retE (enc := spec_l11Give.enc) h (by kernel_rfl)
def spec_l11Done.enc (r : spec_l11State) : Res := ([], [(.ptr r.q)])
def spec_l11Done.f  (K : Nat) (a0 : spec_l11State) (a1 : Int) (a2 : impl_Val) : Option (spec_l11State) := gd ((a0.ev.length + 1) * 24 ≤ 140737488355328) ((spec_l11Give.f K (⟨a0.mode, a0.node, a0.env, a0.val, a0.stack, a0.h_, (a0.ev ++ ([(⟨2, a1, a2.Kind⟩ : impl_Event)] : List impl_Event)), a0.stuck⟩ : spec_l11State) a2).bind fun y1 => (some y1))
theorem spec_l11Done.ev   {K : Nat} {a0 : spec_l11State} {a1 : Int} {a2 : impl_Val} {r : spec_l11State} (h : spec_l11Done.f  K a0 a1 a2 = some r) : E 53 [(.ptr a0.q), (.d (.p (.int .i64 a1))), (.agg (a2.e.map .d))] = some ([], [(.ptr r.q)]) := by
  refine Ev_intro (fn := Tryz.f53) rfl (by kernel_rfl) (c := _) rfl ⟨rfl, by simp⟩ (vs := [(.ptr 22 0 1 0), (.d (.p (.int .i64 a1))), (.agg [(.d (.p (.int .i64 a2.Kind))), (.d (.p (.int .i64 a2.N)))])]) (h0 := (((((((Hp.nil.put 22 1005 (1, (some (.row true true 5 (a0.stack.map spec_l11Frame.e))))).put 22 1006 (1, (some (.row true true 5 (a0.h_.Envs.map impl_EnvCell.e))))).put 22 1007 (1, (some (.row true true 2 (a0.h_.Clos.map impl_Clo.e))))).put 22 1008 (1, (some (.row true true 4 (a0.h_.Twos.map impl_Two.e))))).put 22 1009 (1, (some (.row true true 2 (a0.h_.Refs.map impl_Val.e))))).put 22 1010 (1, (some (.row true true 3 (a0.ev.map impl_Event.e))))).put 22 0 (1, (some (.box [(.d (.p (.int .i64 a0.mode))), (.d (.p (.int .i64 a0.node))), (.d (.p (.int .i64 a0.env))), (.d (.p (.int .i64 a0.val.Kind))), (.d (.p (.int .i64 a0.val.N))), (.own 22 1005 1), (.own 22 1006 1), (.own 22 1007 1), (.own 22 1008 1), (.own 22 1009 1), (.own 22 1010 1), (.d (.p (.bool a0.stuck)))]))))) (by kernel_rfl) (evP_spec _ ?_)
  unfold spec_l11Done.f at h
  refine goR ?_
  refine ⟨[[], [], [12, 13, 15], [12, 13, 15], [12, 13, 15], [], [8, 9, 10], [8, 9, 10], [], [8, 9, 10], [], [], [], []], [], by kernel_rfl, ?_⟩
  refine eqM (([(⟨2, a1, a2.Kind⟩ : impl_Event)] : List impl_Event).map impl_Event.e) rfl ?_
  refine gdG h fun hc h => ?_
  refine anM (apB hc) ?_
  refine eqM ((a0.ev ++ ([(⟨2, a1, a2.Kind⟩ : impl_Event)] : List impl_Event)).map impl_Event.e) (mApp rfl rfl) ?_
  refine Re.mk 22 [(0, (.ptr 22 0 1 0)), (5, (.ptr 5 0 2 0))] [(5, 0, 2, (some (.box [(.d (.p (.int .i64 a2.Kind))), (.d (.p (.int .i64 a2.N)))]))), (22, 0, 1, (some (.box [(.d (.p (.int .i64 a0.mode))), (.d (.p (.int .i64 a0.node))), (.d (.p (.int .i64 a0.env))), (.d (.p (.int .i64 a0.val.Kind))), (.d (.p (.int .i64 a0.val.N))), (.own 22 1005 2), (.own 22 1006 2), (.own 22 1007 2), (.own 22 1008 2), (.own 22 1009 2), (.own 22 1010 2), (.d (.p (.bool a0.stuck)))]))), (22, 1005, 2, (some (.row true true 5 (a0.stack.map spec_l11Frame.e)))), (22, 1006, 2, (some (.row true true 5 (a0.h_.Envs.map impl_EnvCell.e)))), (22, 1007, 2, (some (.row true true 2 (a0.h_.Clos.map impl_Clo.e)))), (22, 1008, 2, (some (.row true true 4 (a0.h_.Twos.map impl_Two.e)))), (22, 1009, 2, (some (.row true true 2 (a0.h_.Refs.map impl_Val.e)))), (22, 1010, 2, (some (.row true true 3 ((a0.ev ++ ([(⟨2, a1, a2.Kind⟩ : impl_Event)] : List impl_Event)).map impl_Event.e))))] (by exact ⟨rfl, ⟨(by kernel_rfl), (by kernel_rfl), trivial⟩, ⟨(by kernel_rfl), (by kernel_rfl), (by kernel_rfl), (by kernel_rfl), (by kernel_rfl), (by kernel_rfl), (by kernel_rfl), (by kernel_rfl), trivial⟩⟩) ?_
  intro e hp
  refine bindG h fun y1 hy2 h => ?_
  refine exM ([], [(.ptr y1.q)]) ?_ ?_
  · exact spec_l11Give.ev hy2
  exact retE (enc := spec_l11Done.enc) h (by kernel_rfl)
def spec_l11Bind.enc (r : Int × spec_l11State) : Res := ([(.d (.p (.int .i64 r.1)))], [(.ptr [(.d (.p (.int .i64 r.2.mode))), (.d (.p (.int .i64 r.2.node))), (.d (.p (.int .i64 r.2.env))), (.d (.p (.int .i64 r.2.val.Kind))), (.d (.p (.int .i64 r.2.val.N))), (.own true 5 (r.2.stack.map spec_l11Frame.e)), (.own true 5 (r.2.h_.Envs.map impl_EnvCell.e)), (.own true 2 (r.2.h_.Clos.map impl_Clo.e)), (.own true 4 (r.2.h_.Twos.map impl_Two.e)), (.own true 2 (r.2.h_.Refs.map impl_Val.e)), (.own true 3 (r.2.ev.map impl_Event.e)), (.d (.p (.bool r.2.stuck)))])])
def spec_l11Bind.f  (K : Nat) (a0 : spec_l11State) (a1 : Int) (a2 : Int) (a3 : impl_Val) (a4 : Int) : Option (Int × spec_l11State) := gd ((a0.h_.Envs.length + 1) * 40 ≤ 140737488355328) (some ((w64 (((a0.h_.Envs ++ ([(⟨a1, a2, a3, a4⟩ : impl_EnvCell)] : List impl_EnvCell)).length : Int) - 1)), (⟨a0.mode, a0.node, a0.env, a0.val, a0.stack, (⟨(a0.h_.Envs ++ ([(⟨a1, a2, a3, a4⟩ : impl_EnvCell)] : List impl_EnvCell)), a0.h_.Clos, a0.h_.Twos, a0.h_.Refs⟩ : impl_Heap), a0.ev, a0.stuck⟩ : spec_l11State)))
theorem spec_l11Bind.ev   {K : Nat} {a0 : spec_l11State} {a1 : Int} {a2 : Int} {a3 : impl_Val} {a4 : Int} {r : Int × spec_l11State} (h : spec_l11Bind.f  K a0 a1 a2 a3 a4 = some r) : E 55 [(.ptr a0.q), (.d (.p (.int .i64 a1))), (.d (.p (.int .i64 a2))), (.agg (a3.e.map .d)), (.d (.p (.int .i64 a4)))] = some ([(.d (.p (.int .i64 r.1)))], [(.ptr [(.d (.p (.int .i64 r.2.mode))), (.d (.p (.int .i64 r.2.node))), (.d (.p (.int .i64 r.2.env))), (.d (.p (.int .i64 r.2.val.Kind))), (.d (.p (.int .i64 r.2.val.N))), (.own true 5 (r.2.stack.map spec_l11Frame.e)), (.own true 5 (r.2.h_.Envs.map impl_EnvCell.e)), (.own true 2 (r.2.h_.Clos.map impl_Clo.e)), (.own true 4 (r.2.h_.Twos.map impl_Two.e)), (.own true 2 (r.2.h_.Refs.map impl_Val.e)), (.own true 3 (r.2.ev.map impl_Event.e)), (.d (.p (.bool r.2.stuck)))])]) := by
  refine Ev_intro (fn := Tryz.f55) rfl (by kernel_rfl) (c := _) rfl ⟨rfl, by simp⟩ (vs := [(.ptr 34 0 1 0), (.d (.p (.int .i64 a1))), (.d (.p (.int .i64 a2))), (.agg [(.d (.p (.int .i64 a3.Kind))), (.d (.p (.int .i64 a3.N)))]), (.d (.p (.int .i64 a4)))]) (h0 := (((((((Hp.nil.put 34 1005 (1, (some (.row true true 5 (a0.stack.map spec_l11Frame.e))))).put 34 1006 (1, (some (.row true true 5 (a0.h_.Envs.map impl_EnvCell.e))))).put 34 1007 (1, (some (.row true true 2 (a0.h_.Clos.map impl_Clo.e))))).put 34 1008 (1, (some (.row true true 4 (a0.h_.Twos.map impl_Two.e))))).put 34 1009 (1, (some (.row true true 2 (a0.h_.Refs.map impl_Val.e))))).put 34 1010 (1, (some (.row true true 3 (a0.ev.map impl_Event.e))))).put 34 0 (1, (some (.box [(.d (.p (.int .i64 a0.mode))), (.d (.p (.int .i64 a0.node))), (.d (.p (.int .i64 a0.env))), (.d (.p (.int .i64 a0.val.Kind))), (.d (.p (.int .i64 a0.val.N))), (.own 34 1005 1), (.own 34 1006 1), (.own 34 1007 1), (.own 34 1008 1), (.own 34 1009 1), (.own 34 1010 1), (.d (.p (.bool a0.stuck)))]))))) (by kernel_rfl) (evP_spec _ ?_)
  unfold spec_l11Bind.f at h
  refine goR ?_
  refine ⟨[[], [], [19, 22], [19, 22], [19, 22], [19, 22], [], [], [13, 14, 15, 16], [], [], [13, 14, 15, 16], [], [], [], [], []], [], by kernel_rfl, ?_⟩
  refine eqM (([(⟨a1, a2, a3, a4⟩ : impl_EnvCell)] : List impl_EnvCell).map impl_EnvCell.e) rfl ?_
  refine gdG h fun hc h => ?_
  refine anM (apB hc) ?_
  refine eqM ((a0.h_.Envs ++ ([(⟨a1, a2, a3, a4⟩ : impl_EnvCell)] : List impl_EnvCell)).map impl_EnvCell.e) (mApp rfl rfl) ?_
  refine Re.mk 34 [(0, (.ptr 34 0 1 0))] [(34, 0, 1, (some (.box [(.d (.p (.int .i64 a0.mode))), (.d (.p (.int .i64 a0.node))), (.d (.p (.int .i64 a0.env))), (.d (.p (.int .i64 a0.val.Kind))), (.d (.p (.int .i64 a0.val.N))), (.own 34 1005 2), (.own 34 1006 2), (.own 34 1007 2), (.own 34 1008 2), (.own 34 1009 2), (.own 34 1010 2), (.d (.p (.bool a0.stuck)))]))), (34, 1005, 2, (some (.row true true 5 (a0.stack.map spec_l11Frame.e)))), (34, 1006, 2, (some (.row true true 5 ((a0.h_.Envs ++ ([(⟨a1, a2, a3, a4⟩ : impl_EnvCell)] : List impl_EnvCell)).map impl_EnvCell.e)))), (34, 1007, 2, (some (.row true true 2 (a0.h_.Clos.map impl_Clo.e)))), (34, 1008, 2, (some (.row true true 4 (a0.h_.Twos.map impl_Two.e)))), (34, 1009, 2, (some (.row true true 2 (a0.h_.Refs.map impl_Val.e)))), (34, 1010, 2, (some (.row true true 3 (a0.ev.map impl_Event.e))))] (by exact ⟨rfl, ⟨(by kernel_rfl), trivial⟩, ⟨(by kernel_rfl), (by kernel_rfl), (by kernel_rfl), (by kernel_rfl), (by kernel_rfl), (by kernel_rfl), (by kernel_rfl), trivial⟩⟩) ?_
  intro e hp
  refine eqM (((a0.h_.Envs ++ ([(⟨a1, a2, a3, a4⟩ : impl_EnvCell)] : List impl_EnvCell)).length : Int) : Int) (mLen rfl) ?_
  exact retE (enc := spec_l11Bind.enc) h (by kernel_rfl)
def spec_l11Push.enc (r : spec_l11State) : Res := ([], [(.ptr r.q)])
def spec_l11Push.f  (K : Nat) (a0 : spec_l11State) (a1 : spec_l11Frame) : Option (spec_l11State) := gd ((a0.stack.length + 1) * 40 ≤ 140737488355328) (some (⟨a0.mode, a0.node, a0.env, a0.val, (a0.stack ++ ([a1] : List spec_l11Frame)), a0.h_, a0.ev, a0.stuck⟩ : spec_l11State))
theorem spec_l11Push.ev   {K : Nat} {a0 : spec_l11State} {a1 : spec_l11Frame} {r : spec_l11State} (h : spec_l11Push.f  K a0 a1 = some r) : E 56 [(.ptr a0.q), (.agg (a1.e.map .d))] = some ([], [(.ptr r.q)]) := by
  refine Ev_intro (fn := Tryz.f56) rfl (by kernel_rfl) (c := _) rfl ⟨rfl, by simp⟩ (vs := [(.ptr 14 0 1 0), (.agg [(.d (.p (.int .i64 a1.node))), (.d (.p (.int .i64 a1.env))), (.d (.p (.int .i64 a1.val.Kind))), (.d (.p (.int .i64 a1.val.N))), (.d (.p (.int .i64 a1.stage)))])]) (h0 := (((((((Hp.nil.put 14 1005 (1, (some (.row true true 5 (a0.stack.map spec_l11Frame.e))))).put 14 1006 (1, (some (.row true true 5 (a0.h_.Envs.map impl_EnvCell.e))))).put 14 1007 (1, (some (.row true true 2 (a0.h_.Clos.map impl_Clo.e))))).put 14 1008 (1, (some (.row true true 4 (a0.h_.Twos.map impl_Two.e))))).put 14 1009 (1, (some (.row true true 2 (a0.h_.Refs.map impl_Val.e))))).put 14 1010 (1, (some (.row true true 3 (a0.ev.map impl_Event.e))))).put 14 0 (1, (some (.box [(.d (.p (.int .i64 a0.mode))), (.d (.p (.int .i64 a0.node))), (.d (.p (.int .i64 a0.env))), (.d (.p (.int .i64 a0.val.Kind))), (.d (.p (.int .i64 a0.val.N))), (.own 14 1005 1), (.own 14 1006 1), (.own 14 1007 1), (.own 14 1008 1), (.own 14 1009 1), (.own 14 1010 1), (.d (.p (.bool a0.stuck)))]))))) (by kernel_rfl) (evP_spec _ ?_)
  unfold spec_l11Push.f at h
  refine ⟨[[], [], [9, 10], [9, 10], [9, 10], [6, 7, 8], [6, 7, 8], [], [], [], []], [], by kernel_rfl, ?_⟩
  refine eqM (([a1] : List spec_l11Frame).map spec_l11Frame.e) rfl ?_
  refine gdG h fun hc h => ?_
  refine anM (apB hc) ?_
  refine eqM ((a0.stack ++ ([a1] : List spec_l11Frame)).map spec_l11Frame.e) (mApp rfl rfl) ?_
  exact retE (enc := spec_l11Push.enc) h (by kernel_rfl)
def spec_l11Look.enc (r : spec_l11State) : Res := ([], [(.ptr r.q)])
def spec_l11Look.f  (K : Nat) (a0 : spec_l11State) (a1 : Int) (a2 : Int) : Option (spec_l11State) := some (⟨0, a1, a2, a0.val, a0.stack, a0.h_, a0.ev, a0.stuck⟩ : spec_l11State)
theorem spec_l11Look.ev   {K : Nat} {a0 : spec_l11State} {a1 : Int} {a2 : Int} {r : spec_l11State} (h : spec_l11Look.f  K a0 a1 a2 = some r) : E 57 [(.ptr a0.q), (.d (.p (.int .i64 a1))), (.d (.p (.int .i64 a2)))] = some ([], [(.ptr r.q)]) := by
  refine Ev_intro (fn := Tryz.f57) rfl (by kernel_rfl) (c := _) rfl ⟨rfl, by simp⟩ (vs := [(.ptr 17 0 1 0), (.d (.p (.int .i64 a1))), (.d (.p (.int .i64 a2)))]) (h0 := (((((((Hp.nil.put 17 1005 (1, (some (.row true true 5 (a0.stack.map spec_l11Frame.e))))).put 17 1006 (1, (some (.row true true 5 (a0.h_.Envs.map impl_EnvCell.e))))).put 17 1007 (1, (some (.row true true 2 (a0.h_.Clos.map impl_Clo.e))))).put 17 1008 (1, (some (.row true true 4 (a0.h_.Twos.map impl_Two.e))))).put 17 1009 (1, (some (.row true true 2 (a0.h_.Refs.map impl_Val.e))))).put 17 1010 (1, (some (.row true true 3 (a0.ev.map impl_Event.e))))).put 17 0 (1, (some (.box [(.d (.p (.int .i64 a0.mode))), (.d (.p (.int .i64 a0.node))), (.d (.p (.int .i64 a0.env))), (.d (.p (.int .i64 a0.val.Kind))), (.d (.p (.int .i64 a0.val.N))), (.own 17 1005 1), (.own 17 1006 1), (.own 17 1007 1), (.own 17 1008 1), (.own 17 1009 1), (.own 17 1010 1), (.d (.p (.bool a0.stuck)))]))))) (by kernel_rfl) (evP_spec _ ?_)
  unfold spec_l11Look.f at h
  refine goR ?_
  refine Re.mk 17 [(0, (.ptr 17 0 1 0)), (1, (.d (.p (.int .i64 a1)))), (2, (.d (.p (.int .i64 a2))))] [(17, 0, 1, (some (.box [(.d (.p (.int .i64 0))), (.d (.p (.int .i64 a0.node))), (.d (.p (.int .i64 a0.env))), (.d (.p (.int .i64 a0.val.Kind))), (.d (.p (.int .i64 a0.val.N))), (.own 17 1005 2), (.own 17 1006 2), (.own 17 1007 2), (.own 17 1008 2), (.own 17 1009 2), (.own 17 1010 2), (.d (.p (.bool a0.stuck)))]))), (17, 1005, 2, (some (.row true true 5 (a0.stack.map spec_l11Frame.e)))), (17, 1006, 2, (some (.row true true 5 (a0.h_.Envs.map impl_EnvCell.e)))), (17, 1007, 2, (some (.row true true 2 (a0.h_.Clos.map impl_Clo.e)))), (17, 1008, 2, (some (.row true true 4 (a0.h_.Twos.map impl_Two.e)))), (17, 1009, 2, (some (.row true true 2 (a0.h_.Refs.map impl_Val.e)))), (17, 1010, 2, (some (.row true true 3 (a0.ev.map impl_Event.e))))] (by exact ⟨rfl, ⟨(by kernel_rfl), (by kernel_rfl), (by kernel_rfl), trivial⟩, ⟨(by kernel_rfl), (by kernel_rfl), (by kernel_rfl), (by kernel_rfl), (by kernel_rfl), (by kernel_rfl), (by kernel_rfl), trivial⟩⟩) ?_
  intro e hp
  refine goR ?_
  refine Re.mk 17 [(0, (.ptr 17 0 1 0)), (2, (.d (.p (.int .i64 a2))))] [(17, 0, 1, (some (.box [(.d (.p (.int .i64 0))), (.d (.p (.int .i64 a1))), (.d (.p (.int .i64 a0.env))), (.d (.p (.int .i64 a0.val.Kind))), (.d (.p (.int .i64 a0.val.N))), (.own 17 1005 2), (.own 17 1006 2), (.own 17 1007 2), (.own 17 1008 2), (.own 17 1009 2), (.own 17 1010 2), (.d (.p (.bool a0.stuck)))]))), (17, 1005, 2, (some (.row true true 5 (a0.stack.map spec_l11Frame.e)))), (17, 1006, 2, (some (.row true true 5 (a0.h_.Envs.map impl_EnvCell.e)))), (17, 1007, 2, (some (.row true true 2 (a0.h_.Clos.map impl_Clo.e)))), (17, 1008, 2, (some (.row true true 4 (a0.h_.Twos.map impl_Two.e)))), (17, 1009, 2, (some (.row true true 2 (a0.h_.Refs.map impl_Val.e)))), (17, 1010, 2, (some (.row true true 3 (a0.ev.map impl_Event.e))))] (by exact ⟨rfl, ⟨(by kernel_rfl), (by kernel_rfl), trivial⟩, ⟨(by kernel_rfl), (by kernel_rfl), (by kernel_rfl), (by kernel_rfl), (by kernel_rfl), (by kernel_rfl), (by kernel_rfl), trivial⟩⟩) ?_
  intro e hp
  exact retE (enc := spec_l11Look.enc) h (by kernel_rfl)
def spec_l11Eval.enc (r : spec_l11State) : Res := ([], [(.ptr r.q)])
def spec_l11Eval.f  (K : Nat) (a0 : spec_l11State) (a1 : List impl_Node) : Option (spec_l11State) := (at_ a1 a0.node).bind fun x1 => (if x1.Kind = 1 then ((spec_BinderOf.f K a1 a0.node).bind fun y3 => ((spec_l10Look.f K a0.h_ a0.env y3).bind fun (y5, y6) => (jn (fun (v8 : spec_l11State) => (spec_l11Done.f K v8 v8.node y5).bind fun y10 => (some y10)) (fun j => if a0.stuck = true then (j (⟨a0.mode, a0.node, a0.env, a0.val, a0.stack, a0.h_, a0.ev, true⟩ : spec_l11State)) else (j (⟨a0.mode, a0.node, a0.env, a0.val, a0.stack, a0.h_, a0.ev, (!y6)⟩ : spec_l11State)))))) else (if x1.Kind = 2 then ((spec_l11Done.f K a0 a0.node (⟨0, x1.N⟩ : impl_Val)).bind fun y13 => (some y13)) else (if x1.Kind = 12 then ((spec_l11Done.f K a0 a0.node (⟨2, 0⟩ : impl_Val)).bind fun y16 => (some y16)) else (if x1.Kind = 3 then ((spec_l11Clo_k.f a0.h_.Clos a0.node a0.env).bind fun (y19, y20) => ((spec_l11Done.f K (⟨a0.mode, a0.node, a0.env, a0.val, a0.stack, (⟨a0.h_.Envs, y20, a0.h_.Twos, a0.h_.Refs⟩ : impl_Heap), a0.ev, a0.stuck⟩ : spec_l11State) a0.node y19).bind fun y22 => (some y22))) else (if x1.Kind = 6 then ((spec_l11Bind.f K a0 a0.node 0 (⟨0, 0⟩ : impl_Val) a0.env).bind fun (y25, y26) => ((spec_l11Clo_k.f y26.h_.Clos y26.node y25).bind fun (y28, y29) => ((at_ y26.h_.Envs y25).bind fun x31 => ((spec_l11Push.f K (⟨y26.mode, y26.node, y26.env, y26.val, y26.stack, (⟨(y26.h_.Envs.set (y25).toNat (⟨x31.Node, x31.Role, y28, x31.Next⟩ : impl_EnvCell)), y29, y26.h_.Twos, y26.h_.Refs⟩ : impl_Heap), y26.ev, y26.stuck⟩ : spec_l11State) (⟨y26.node, 0, (⟨0, 0⟩ : impl_Val), 2⟩ : spec_l11Frame)).bind fun y32 => ((spec_l11Look.f K y32 x1.B y25).bind fun y34 => (some y34)))))) else ((spec_l11Push.f K a0 (⟨a0.node, a0.env, (⟨0, 0⟩ : impl_Val), 1⟩ : spec_l11Frame)).bind fun y36 => ((spec_l11Look.f K y36 x1.A y36.env).bind fun y38 => (some y38))))))))
theorem spec_l11Eval.ev   {K : Nat} {a0 : spec_l11State} {a1 : List impl_Node} {r : spec_l11State} (h : spec_l11Eval.f  K a0 a1 = some r) : E 29 [(.ptr a0.q), (.d (.l true 7 (a1.map impl_Node.e)))] = some ([], [(.ptr r.q)]) := by
  refine Ev_intro (fn := Tryz.f29) rfl (by kernel_rfl) (c := _) rfl ⟨rfl, by simp⟩ (vs := [(.ptr 152 0 1 0), (.d (.l true 7 (a1.map impl_Node.e)))]) (h0 := (((((((Hp.nil.put 152 1005 (1, (some (.row true true 5 (a0.stack.map spec_l11Frame.e))))).put 152 1006 (1, (some (.row true true 5 (a0.h_.Envs.map impl_EnvCell.e))))).put 152 1007 (1, (some (.row true true 2 (a0.h_.Clos.map impl_Clo.e))))).put 152 1008 (1, (some (.row true true 4 (a0.h_.Twos.map impl_Two.e))))).put 152 1009 (1, (some (.row true true 2 (a0.h_.Refs.map impl_Val.e))))).put 152 1010 (1, (some (.row true true 3 (a0.ev.map impl_Event.e))))).put 152 0 (1, (some (.box [(.d (.p (.int .i64 a0.mode))), (.d (.p (.int .i64 a0.node))), (.d (.p (.int .i64 a0.env))), (.d (.p (.int .i64 a0.val.Kind))), (.d (.p (.int .i64 a0.val.N))), (.own 152 1005 1), (.own 152 1006 1), (.own 152 1007 1), (.own 152 1008 1), (.own 152 1009 1), (.own 152 1010 1), (.d (.p (.bool a0.stuck)))]))))) (by kernel_rfl) (evP_spec _ ?_)
  unfold spec_l11Eval.f at h
  refine goR ?_
  refine bindG h fun x1 hx1 h => ?_
  refine anM (at_ix rfl hx1) ?_
  refine exM (impl_Node.e x1) (at_get rfl hx1) ?_
  refine Re.mk 152 [(0, (.ptr 152 0 1 0)), (1, (.d (.l true 7 (a1.map impl_Node.e)))), (4, (.ptr 4 0 2 0))] [(4, 0, 2, (some (.box [(.d (.p (.int .i64 x1.Kind))), (.d (.p (.int .i64 x1.A))), (.d (.p (.int .i64 x1.B))), (.d (.p (.int .i64 x1.C))), (.d (.p (.int .i64 x1.N))), (.d (.p (.string x1.Name))), (.d (.p (.string x1.Other)))]))), (152, 0, 1, (some (.box [(.d (.p (.int .i64 a0.mode))), (.d (.p (.int .i64 a0.node))), (.d (.p (.int .i64 a0.env))), (.d (.p (.int .i64 a0.val.Kind))), (.d (.p (.int .i64 a0.val.N))), (.own 152 1005 2), (.own 152 1006 2), (.own 152 1007 2), (.own 152 1008 2), (.own 152 1009 2), (.own 152 1010 2), (.d (.p (.bool a0.stuck)))]))), (152, 1005, 2, (some (.row true true 5 (a0.stack.map spec_l11Frame.e)))), (152, 1006, 2, (some (.row true true 5 (a0.h_.Envs.map impl_EnvCell.e)))), (152, 1007, 2, (some (.row true true 2 (a0.h_.Clos.map impl_Clo.e)))), (152, 1008, 2, (some (.row true true 4 (a0.h_.Twos.map impl_Two.e)))), (152, 1009, 2, (some (.row true true 2 (a0.h_.Refs.map impl_Val.e)))), (152, 1010, 2, (some (.row true true 3 (a0.ev.map impl_Event.e))))] (by exact ⟨rfl, ⟨(by kernel_rfl), (by kernel_rfl), (by kernel_rfl), trivial⟩, ⟨(by kernel_rfl), (by kernel_rfl), (by kernel_rfl), (by kernel_rfl), (by kernel_rfl), (by kernel_rfl), (by kernel_rfl), (by kernel_rfl), trivial⟩⟩) ?_
  intro e hp
  try ((with_reducible apply cdX); exact rfl)
  refine iteF h (fun c2 h => ?_) (fun c2 h => ?_)
  · refine goR ?_
    refine ⟨[[], [44, 45, 46, 49, 50, 51, 52, 5], [44, 45, 46, 49, 50, 51, 52, 5], [44, 45, 46, 49, 50, 51, 52, 5], [], [40, 41, 42, 49, 50, 51, 52, 5], [40, 41, 42, 49, 50, 51, 52, 5], [40, 41, 42, 49, 50, 51, 52, 5], [], [], [40, 41, 42, 44, 45, 46, 5], [40, 41, 42, 44, 45, 46, 5], [40, 41, 42, 44, 45, 46, 5], [40, 41, 42, 44, 45, 46, 5], [5], [], [], [], [40, 41, 42, 44, 45, 46, 49, 50, 51, 52, 53], [], []], [], by kernel_rfl, ?_⟩
    refine bindG h fun y3 hy4 h => ?_
    refine exM ([(.agg (y3.e.map .d))], []) ?_ ?_
    · exact spec_BinderOf.ev hy4
    refine bindG h ?_
    rintro ⟨y5, y6⟩ hy7 h
    refine exM ([(.agg (y5.e.map .d)), (.d (.p (.bool y6)))], []) ?_ ?_
    · exact spec_l10Look.ev hy7
    refine Re.mk 152 [(0, (.ptr 152 0 1 0)), (5, (.ptr 5 0 2 0)), (6, (.d (.p (.bool y6))))] [(5, 0, 2, (some (.box [(.d (.p (.int .i64 y5.Kind))), (.d (.p (.int .i64 y5.N)))]))), (152, 0, 1, (some (.box [(.d (.p (.int .i64 a0.mode))), (.d (.p (.int .i64 a0.node))), (.d (.p (.int .i64 a0.env))), (.d (.p (.int .i64 a0.val.Kind))), (.d (.p (.int .i64 a0.val.N))), (.own 152 1005 2), (.own 152 1006 2), (.own 152 1007 2), (.own 152 1008 2), (.own 152 1009 2), (.own 152 1010 2), (.d (.p (.bool a0.stuck)))]))), (152, 1005, 2, (some (.row true true 5 (a0.stack.map spec_l11Frame.e)))), (152, 1006, 2, (some (.row true true 5 (a0.h_.Envs.map impl_EnvCell.e)))), (152, 1007, 2, (some (.row true true 2 (a0.h_.Clos.map impl_Clo.e)))), (152, 1008, 2, (some (.row true true 4 (a0.h_.Twos.map impl_Two.e)))), (152, 1009, 2, (some (.row true true 2 (a0.h_.Refs.map impl_Val.e)))), (152, 1010, 2, (some (.row true true 3 (a0.ev.map impl_Event.e))))] (by exact ⟨rfl, ⟨(by kernel_rfl), (by kernel_rfl), (by kernel_rfl), trivial⟩, ⟨(by kernel_rfl), (by kernel_rfl), (by kernel_rfl), (by kernel_rfl), (by kernel_rfl), (by kernel_rfl), (by kernel_rfl), (by kernel_rfl), trivial⟩⟩) ?_
    intro e hp
    refine seqJ h 152 (fun x => [(0, (.ptr 152 0 1 0)), (5, (.ptr 5 0 2 0))]) (fun x => [(5, 0, 2, (some (.box [(.d (.p (.int .i64 y5.Kind))), (.d (.p (.int .i64 y5.N)))]))), (152, 0, 1, (some (.box [(.d (.p (.int .i64 x.mode))), (.d (.p (.int .i64 x.node))), (.d (.p (.int .i64 x.env))), (.d (.p (.int .i64 x.val.Kind))), (.d (.p (.int .i64 x.val.N))), (.own 152 1005 2), (.own 152 1006 2), (.own 152 1007 2), (.own 152 1008 2), (.own 152 1009 2), (.own 152 1010 2), (.d (.p (.bool x.stuck)))]))), (152, 1005, 2, (some (.row true true 5 (x.stack.map spec_l11Frame.e)))), (152, 1006, 2, (some (.row true true 5 (x.h_.Envs.map impl_EnvCell.e)))), (152, 1007, 2, (some (.row true true 2 (x.h_.Clos.map impl_Clo.e)))), (152, 1008, 2, (some (.row true true 4 (x.h_.Twos.map impl_Two.e)))), (152, 1009, 2, (some (.row true true 2 (x.h_.Refs.map impl_Val.e)))), (152, 1010, 2, (some (.row true true 3 (x.ev.map impl_Event.e))))]) (fun J h => ?_) ?_
    · try ((with_reducible apply cdX); exact rfl)
      refine ifB h (fun c9 h => ?_) (fun c9 h => ?_)
      · refine Ask.T rfl ?_
        refine Ask.T rfl ?_
        exact ⟨(⟨a0.mode, a0.node, a0.env, a0.val, a0.stack, a0.h_, a0.ev, true⟩ : spec_l11State), h, ⟨rfl, ⟨(by kernel_rfl), (by kernel_rfl), trivial⟩, ⟨(by kernel_rfl), (by kernel_rfl), (by kernel_rfl), (by kernel_rfl), (by kernel_rfl), (by kernel_rfl), (by kernel_rfl), (by kernel_rfl), trivial⟩⟩⟩
      · refine Ask.F rfl ?_
        refine Ask.F rfl ?_
        exact ⟨(⟨a0.mode, a0.node, a0.env, a0.val, a0.stack, a0.h_, a0.ev, (!y6)⟩ : spec_l11State), h, ⟨rfl, ⟨(by kernel_rfl), (by kernel_rfl), trivial⟩, ⟨(by kernel_rfl), (by kernel_rfl), (by kernel_rfl), (by kernel_rfl), (by kernel_rfl), (by kernel_rfl), (by kernel_rfl), (by kernel_rfl), trivial⟩⟩⟩
    · rintro v8 h e hp
      refine ⟨[[], [], [72], [72], [72], [69, 70, 71], []], [], by kernel_rfl, ?_⟩
      refine bindG h fun y10 hy11 h => ?_
      refine exM ([], [(.ptr y10.q)]) ?_ ?_
      · exact spec_l11Done.ev hy11
      exact retE (enc := spec_l11Eval.enc) h (by kernel_rfl)
  · try ((with_reducible apply cdX); exact rfl)
    refine iteF h (fun c12 h => ?_) (fun c12 h => ?_)
    · refine ⟨[[], [], [81, 82], [81, 82], [81, 82], [78, 79, 80], [78, 79, 80], [], []], [], by kernel_rfl, ?_⟩
      refine bindG h fun y13 hy14 h => ?_
      refine exM ([], [(.ptr y13.q)]) ?_ ?_
      · exact spec_l11Done.ev hy14
      exact retE (enc := spec_l11Eval.enc) h (by kernel_rfl)
    · try ((with_reducible apply cdX); exact rfl)
      refine iteF h (fun c15 h => ?_) (fun c15 h => ?_)
      · refine bindG h fun y16 hy17 h => ?_
        refine exM ([], [(.ptr y16.q)]) ?_ ?_
        · exact spec_l11Done.ev hy17
        exact retE (enc := spec_l11Eval.enc) h (by kernel_rfl)
      · try ((with_reducible apply cdX); exact rfl)
        refine iteF h (fun c18 h => ?_) (fun c18 h => ?_)
        · refine ⟨[[], [], [103, 104, 105, 107, 108, 109, 110], [103, 104, 105, 107, 108, 109, 110], [103, 104, 105, 107, 108, 109, 110], [], [], [98, 99, 100, 107, 108, 109], [98, 99, 100, 107, 108, 109], [98, 99, 100, 107, 108, 109], [], [98, 99, 100, 103, 104, 105], [98, 99, 100, 103, 104, 105], [98, 99, 100, 103, 104, 105], [98, 99, 100], []], [[], [], [999998, 0, 1, 2, 3, 4, 5, 6, 8, 9, 10, 11], [999998, 0, 1, 2, 3, 4, 5, 6, 8, 9, 10, 11], [999998, 0, 1, 2, 3, 4, 5, 6, 8, 9, 10, 11], [], [], [], [], [], [], [], [], [], [], []], by kernel_rfl, ?_⟩
          refine bindG h ?_
          rintro ⟨y19, y20⟩ hy21 h
          refine exM ([(.agg (y19.e.map .d))], [(.ptr (cloTs (fun _ => tokT) (y20.map impl_Clo.e)))]) ?_ ?_
          · exact spec_l11Clo_k.ev hy21
          refine bindG h fun y22 hy23 h => ?_
          refine exM ([], [(.ptr y22.q)]) ?_ ?_
          · exact spec_l11Done.ev hy23
          exact retE (enc := spec_l11Eval.enc) h (by kernel_rfl)
        · try ((with_reducible apply cdX); exact rfl)
          refine iteF h (fun c24 h => ?_) (fun c24 h => ?_)
          · refine ⟨[[], [], [121, 122, 123], [121, 122, 123], [121, 122, 123], [], [], [116, 117, 118], [116, 117, 118], [116, 117, 118], [], []], [], by kernel_rfl, ?_⟩
            refine bindG h ?_
            rintro ⟨y25, y26⟩ hy27 h
            refine exM ([(.d (.p (.int .i64 y25)))], [(.ptr y26.q)]) ?_ ?_
            · exact spec_l11Bind.ev hy27
            refine goR ?_
            refine ⟨[[], [133, 134, 135, 137], [133, 134, 135, 137], [133, 134, 135, 137], [133, 134, 135, 137], [], [], [], [126, 127, 128, 129], [126, 127, 128, 129], [126, 127, 128, 129], [], [126, 127, 128, 129], [], [], []], [[], [999998, 0, 1, 2, 3, 4, 5, 6, 8, 9, 10, 11], [999998, 0, 1, 2, 3, 4, 5, 6, 8, 9, 10, 11], [999998, 0, 1, 2, 3, 4, 5, 6, 8, 9, 10, 11], [999998, 0, 1, 2, 3, 4, 5, 6, 8, 9, 10, 11], [], [], [], [], [], [], [], [], [], [], []], by kernel_rfl, ?_⟩
            refine bindG h ?_
            rintro ⟨y28, y29⟩ hy30 h
            refine exM ([(.agg (y28.e.map .d))], [(.ptr (cloTs (fun _ => tokT) (y29.map impl_Clo.e)))]) ?_ ?_
            · exact spec_l11Clo_k.ev hy30
            refine bindG h fun x31 hx31 h => ?_
            refine anM (at_ix rfl hx31) ?_
            refine anM (at_lt rfl hx31) ?_
            refine exM (impl_EnvCell.e x31) (at_get rfl hx31) ?_
            refine eqM ((y26.h_.Envs.set (y25).toNat (⟨x31.Node, x31.Role, y28, x31.Next⟩ : impl_EnvCell)).map impl_EnvCell.e) (mSet rfl rfl) ?_
            refine Re.mk 152 [(0, (.ptr 152 0 1 0)), (4, (.ptr 4 0 2 0)), (7, (.d (.p (.int .i64 y25))))] [(4, 0, 2, (some (.box [(.d (.p (.int .i64 x1.Kind))), (.d (.p (.int .i64 x1.A))), (.d (.p (.int .i64 x1.B))), (.d (.p (.int .i64 x1.C))), (.d (.p (.int .i64 x1.N))), (.d (.p (.string x1.Name))), (.d (.p (.string x1.Other)))]))), (152, 0, 1, (some (.box [(.d (.p (.int .i64 y26.mode))), (.d (.p (.int .i64 y26.node))), (.d (.p (.int .i64 y26.env))), (.d (.p (.int .i64 y26.val.Kind))), (.d (.p (.int .i64 y26.val.N))), (.own 152 1005 2), (.own 152 1006 2), (.own 152 1007 2), (.own 152 1008 2), (.own 152 1009 2), (.own 152 1010 2), (.d (.p (.bool y26.stuck)))]))), (152, 1005, 2, (some (.row true true 5 (y26.stack.map spec_l11Frame.e)))), (152, 1006, 2, (some (.row true true 5 ((y26.h_.Envs.set (y25).toNat (⟨x31.Node, x31.Role, y28, x31.Next⟩ : impl_EnvCell)).map impl_EnvCell.e)))), (152, 1007, 2, (some (.row true true 2 (y29.map impl_Clo.e)))), (152, 1008, 2, (some (.row true true 4 (y26.h_.Twos.map impl_Two.e)))), (152, 1009, 2, (some (.row true true 2 (y26.h_.Refs.map impl_Val.e)))), (152, 1010, 2, (some (.row true true 3 (y26.ev.map impl_Event.e))))] (by exact ⟨rfl, ⟨(by kernel_rfl), (by kernel_rfl), (by kernel_rfl), trivial⟩, ⟨(by kernel_rfl), (by kernel_rfl), (by kernel_rfl), (by kernel_rfl), (by kernel_rfl), (by kernel_rfl), (by kernel_rfl), (by kernel_rfl), trivial⟩⟩) ?_
            intro e hp
            refine bindG h fun y32 hy33 h => ?_
            refine exM ([], [(.ptr y32.q)]) ?_ ?_
            · exact spec_l11Push.ev hy33
            refine bindG h fun y34 hy35 h => ?_
            refine exM ([], [(.ptr y34.q)]) ?_ ?_
            · exact spec_l11Look.ev hy35
            exact retE (enc := spec_l11Eval.enc) h (by kernel_rfl)
          · refine ⟨[[], [], [23, 24, 25], [23, 24, 25], [23, 24, 25], [], [19, 20, 21], [19, 20, 21], [19, 20, 21], [], []], [], by kernel_rfl, ?_⟩
            refine bindG h fun y36 hy37 h => ?_
            refine exM ([], [(.ptr y36.q)]) ?_ ?_
            · exact spec_l11Push.ev hy37
            refine ⟨[[], [32, 33, 34], [32, 33, 34], [], [29, 30], [29, 30], [29, 30], []], [], by kernel_rfl, ?_⟩
            refine bindG h fun y38 hy39 h => ?_
            refine exM ([], [(.ptr y38.q)]) ?_ ?_
            · exact spec_l11Look.ev hy39
            exact retE (enc := spec_l11Eval.enc) h (by kernel_rfl)
def spec_l11First.enc (r : spec_l11State) : Res := ([], [(.ptr r.q)])
def spec_l11First.f  (K : Nat) (a0 : spec_l11State) (a1 : List impl_Node) (a2 : spec_l11Frame) (a3 : impl_Val) : Option (spec_l11State) := (at_ a1 a2.node).bind fun x1 => (jn (fun (v2 : Bool) => if v2 = true then ((spec_l11Push.f K a0 (⟨a2.node, a2.env, a3, 3⟩ : spec_l11Frame)).bind fun y8 => ((spec_l11Look.f K y8 x1.B a2.env).bind fun y10 => (some y10))) else (if x1.Kind = 5 then ((spec_l11Push.f K a0 (⟨a2.node, 0, (⟨0, 0⟩ : impl_Val), 2⟩ : spec_l11Frame)).bind fun y13 => ((spec_l11Bind.f K y13 a2.node 0 a3 a2.env).bind fun (y15, y16) => ((spec_l11Look.f K y16 x1.B y15).bind fun y18 => (some y18)))) else (if x1.Kind = 19 then ((spec_l11Done.f K a0 a2.node a3).bind fun y21 => (some y21)) else (if x1.Kind = 7 then (jn (fun (v24 : spec_l11State) => (spec_l11Push.f K v24 (⟨a2.node, 0, (⟨0, 0⟩ : impl_Val), 2⟩ : spec_l11Frame)).bind fun y26 => (if (!(decide (a3.N = 0))) = true then ((spec_l11Look.f K y26 x1.B a2.env).bind fun y29 => (some y29)) else ((spec_l11Look.f K y26 x1.C a2.env).bind fun y31 => (some y31)))) (fun j => if a0.stuck = true then (j (⟨a0.mode, a0.node, a0.env, a0.val, a0.stack, a0.h_, a0.ev, true⟩ : spec_l11State)) else (j (⟨a0.mode, a0.node, a0.env, a0.val, a0.stack, a0.h_, a0.ev, (!(decide (a3.Kind = 0)))⟩ : spec_l11State)))) else (if x1.Kind = 14 then ((spec_l11Push.f K a0 (⟨a2.node, 0, (⟨0, 0⟩ : impl_Val), 2⟩ : spec_l11Frame)).bind fun y34 => (if (!(decide (a3.Kind = 4))) = true then (jn (fun (v37 : spec_l11State) => (spec_l11Look.f K v37 x1.B a2.env).bind fun y39 => (some y39)) (fun j => if y34.stuck = true then (j (⟨y34.mode, y34.node, y34.env, y34.val, y34.stack, y34.h_, y34.ev, true⟩ : spec_l11State)) else (j (⟨y34.mode, y34.node, y34.env, y34.val, y34.stack, y34.h_, y34.ev, (!(decide (a3.Kind = 2)))⟩ : spec_l11State)))) else ((at_ y34.h_.Twos a3.N).bind fun x41 => ((spec_l11Bind.f K y34 a2.node 0 x41.A a2.env).bind fun (y42, y43) => ((at_ y43.h_.Twos a3.N).bind fun x45 => ((spec_l11Bind.f K y43 a2.node 1 x45.B y42).bind fun (y46, y47) => ((spec_l11Look.f K y47 x1.C y46).bind fun y49 => (some y49)))))))) else (jn (fun (v51 : Bool) => if v51 = true then (if (!(decide (a3.Kind = 3))) = true then (some (⟨a0.mode, a0.node, a0.env, a0.val, a0.stack, a0.h_, a0.ev, true⟩ : spec_l11State)) else (if x1.Kind = 10 then ((at_ a0.h_.Twos a3.N).bind fun x56 => ((spec_l11Done.f K a0 a2.node x56.A).bind fun y57 => (some y57))) else ((at_ a0.h_.Twos a3.N).bind fun x59 => ((spec_l11Done.f K a0 a2.node x59.B).bind fun y60 => (some y60))))) else (if x1.Kind = 15 then (gd ((a0.h_.Refs.length + 1) * 16 ≤ 140737488355328) ((spec_l11Done.f K (⟨a0.mode, a0.node, a0.env, a0.val, a0.stack, (⟨a0.h_.Envs, a0.h_.Clos, a0.h_.Twos, (a0.h_.Refs ++ ([a3] : List impl_Val))⟩ : impl_Heap), a0.ev, a0.stuck⟩ : spec_l11State) a2.node (⟨5, (w64 (((a0.h_.Refs ++ ([a3] : List impl_Val)).length : Int) - 1))⟩ : impl_Val)).bind fun y63 => (some y63))) else (if x1.Kind = 16 then (if (!(decide (a3.Kind = 5))) = true then (some (⟨a0.mode, a0.node, a0.env, a0.val, a0.stack, a0.h_, a0.ev, true⟩ : spec_l11State)) else ((at_ a0.h_.Refs a3.N).bind fun x67 => ((spec_l11Done.f K a0 a2.node x67).bind fun y68 => (some y68)))) else (if x1.Kind = 18 then (jn (fun (v71 : spec_l11State) => some (⟨2, v71.node, v71.env, a3, v71.stack, v71.h_, v71.ev, v71.stuck⟩ : spec_l11State)) (fun j => if a0.stuck = true then (j (⟨a0.mode, a0.node, a0.env, a0.val, a0.stack, a0.h_, a0.ev, true⟩ : spec_l11State)) else (j (⟨a0.mode, a0.node, a0.env, a0.val, a0.stack, a0.h_, a0.ev, (!(decide (a3.Kind = 0)))⟩ : spec_l11State)))) else (some a0))))) (fun j => if x1.Kind = 10 then (j true) else (j (decide (x1.Kind = 11)))))))))) (fun j => if x1.Kind = 4 then (j true) else (if x1.Kind = 8 then (j true) else (if x1.Kind = 9 then (j true) else (if x1.Kind = 13 then (j true) else (j (decide (x1.Kind = 17))))))))
theorem spec_l11First.ev   {K : Nat} {a0 : spec_l11State} {a1 : List impl_Node} {a2 : spec_l11Frame} {a3 : impl_Val} {r : spec_l11State} (h : spec_l11First.f  K a0 a1 a2 a3 = some r) : E 58 [(.ptr a0.q), (.d (.l true 7 (a1.map impl_Node.e))), (.agg (a2.e.map .d)), (.agg (a3.e.map .d))] = some ([], [(.ptr r.q)]) := by
  refine Ev_intro (fn := Tryz.f58) rfl (by kernel_rfl) (c := _) rfl ⟨rfl, by simp⟩ (vs := [(.ptr 266 0 1 0), (.d (.l true 7 (a1.map impl_Node.e))), (.agg [(.d (.p (.int .i64 a2.node))), (.d (.p (.int .i64 a2.env))), (.d (.p (.int .i64 a2.val.Kind))), (.d (.p (.int .i64 a2.val.N))), (.d (.p (.int .i64 a2.stage)))]), (.agg [(.d (.p (.int .i64 a3.Kind))), (.d (.p (.int .i64 a3.N)))])]) (h0 := (((((((Hp.nil.put 266 1005 (1, (some (.row true true 5 (a0.stack.map spec_l11Frame.e))))).put 266 1006 (1, (some (.row true true 5 (a0.h_.Envs.map impl_EnvCell.e))))).put 266 1007 (1, (some (.row true true 2 (a0.h_.Clos.map impl_Clo.e))))).put 266 1008 (1, (some (.row true true 4 (a0.h_.Twos.map impl_Two.e))))).put 266 1009 (1, (some (.row true true 2 (a0.h_.Refs.map impl_Val.e))))).put 266 1010 (1, (some (.row true true 3 (a0.ev.map impl_Event.e))))).put 266 0 (1, (some (.box [(.d (.p (.int .i64 a0.mode))), (.d (.p (.int .i64 a0.node))), (.d (.p (.int .i64 a0.env))), (.d (.p (.int .i64 a0.val.Kind))), (.d (.p (.int .i64 a0.val.N))), (.own 266 1005 1), (.own 266 1006 1), (.own 266 1007 1), (.own 266 1008 1), (.own 266 1009 1), (.own 266 1010 1), (.d (.p (.bool a0.stuck)))]))))) (by kernel_rfl) (evP_spec _ ?_)
  unfold spec_l11First.f at h
  refine goR ?_
  refine bindG h fun x1 hx1 h => ?_
  refine anM (at_ix rfl hx1) ?_
  refine exM (impl_Node.e x1) (at_get rfl hx1) ?_
  refine Re.mk 266 [(0, (.ptr 266 0 1 0)), (6, (.ptr 6 0 2 0)), (7, (.ptr 7 0 2 0)), (8, (.ptr 8 0 2 0))] [(6, 0, 2, (some (.box [(.d (.p (.int .i64 a2.node))), (.d (.p (.int .i64 a2.env))), (.d (.p (.int .i64 a2.val.Kind))), (.d (.p (.int .i64 a2.val.N))), (.d (.p (.int .i64 a2.stage)))]))), (7, 0, 2, (some (.box [(.d (.p (.int .i64 a3.Kind))), (.d (.p (.int .i64 a3.N)))]))), (8, 0, 2, (some (.box [(.d (.p (.int .i64 x1.Kind))), (.d (.p (.int .i64 x1.A))), (.d (.p (.int .i64 x1.B))), (.d (.p (.int .i64 x1.C))), (.d (.p (.int .i64 x1.N))), (.d (.p (.string x1.Name))), (.d (.p (.string x1.Other)))]))), (266, 0, 1, (some (.box [(.d (.p (.int .i64 a0.mode))), (.d (.p (.int .i64 a0.node))), (.d (.p (.int .i64 a0.env))), (.d (.p (.int .i64 a0.val.Kind))), (.d (.p (.int .i64 a0.val.N))), (.own 266 1005 2), (.own 266 1006 2), (.own 266 1007 2), (.own 266 1008 2), (.own 266 1009 2), (.own 266 1010 2), (.d (.p (.bool a0.stuck)))]))), (266, 1005, 2, (some (.row true true 5 (a0.stack.map spec_l11Frame.e)))), (266, 1006, 2, (some (.row true true 5 (a0.h_.Envs.map impl_EnvCell.e)))), (266, 1007, 2, (some (.row true true 2 (a0.h_.Clos.map impl_Clo.e)))), (266, 1008, 2, (some (.row true true 4 (a0.h_.Twos.map impl_Two.e)))), (266, 1009, 2, (some (.row true true 2 (a0.h_.Refs.map impl_Val.e)))), (266, 1010, 2, (some (.row true true 3 (a0.ev.map impl_Event.e))))] (by exact ⟨rfl, ⟨(by kernel_rfl), (by kernel_rfl), (by kernel_rfl), (by kernel_rfl), trivial⟩, ⟨(by kernel_rfl), (by kernel_rfl), (by kernel_rfl), (by kernel_rfl), (by kernel_rfl), (by kernel_rfl), (by kernel_rfl), (by kernel_rfl), (by kernel_rfl), (by kernel_rfl), trivial⟩⟩) ?_
  intro e hp
  refine goR ?_
  refine Re.mk 266 [(0, (.ptr 266 0 1 0)), (6, (.ptr 6 0 2 0)), (7, (.ptr 7 0 2 0)), (8, (.ptr 8 0 2 0)), (9, (.ptr 9 0 2 0))] [(6, 0, 2, (some (.box [(.d (.p (.int .i64 a2.node))), (.d (.p (.int .i64 a2.env))), (.d (.p (.int .i64 a2.val.Kind))), (.d (.p (.int .i64 a2.val.N))), (.d (.p (.int .i64 a2.stage)))]))), (7, 0, 2, (some (.box [(.d (.p (.int .i64 a3.Kind))), (.d (.p (.int .i64 a3.N)))]))), (8, 0, 2, (some (.box [(.d (.p (.int .i64 x1.Kind))), (.d (.p (.int .i64 x1.A))), (.d (.p (.int .i64 x1.B))), (.d (.p (.int .i64 x1.C))), (.d (.p (.int .i64 x1.N))), (.d (.p (.string x1.Name))), (.d (.p (.string x1.Other)))]))), (9, 0, 2, (some (.box [(.d (.p (.int .i64 a2.node))), (.d (.p (.int .i64 0))), (.d (.p (.int .i64 0))), (.d (.p (.int .i64 0))), (.d (.p (.int .i64 2)))]))), (266, 0, 1, (some (.box [(.d (.p (.int .i64 a0.mode))), (.d (.p (.int .i64 a0.node))), (.d (.p (.int .i64 a0.env))), (.d (.p (.int .i64 a0.val.Kind))), (.d (.p (.int .i64 a0.val.N))), (.own 266 1005 2), (.own 266 1006 2), (.own 266 1007 2), (.own 266 1008 2), (.own 266 1009 2), (.own 266 1010 2), (.d (.p (.bool a0.stuck)))]))), (266, 1005, 2, (some (.row true true 5 (a0.stack.map spec_l11Frame.e)))), (266, 1006, 2, (some (.row true true 5 (a0.h_.Envs.map impl_EnvCell.e)))), (266, 1007, 2, (some (.row true true 2 (a0.h_.Clos.map impl_Clo.e)))), (266, 1008, 2, (some (.row true true 4 (a0.h_.Twos.map impl_Two.e)))), (266, 1009, 2, (some (.row true true 2 (a0.h_.Refs.map impl_Val.e)))), (266, 1010, 2, (some (.row true true 3 (a0.ev.map impl_Event.e))))] (by exact ⟨rfl, ⟨(by kernel_rfl), (by kernel_rfl), (by kernel_rfl), (by kernel_rfl), (by kernel_rfl), trivial⟩, ⟨(by kernel_rfl), (by kernel_rfl), (by kernel_rfl), (by kernel_rfl), (by kernel_rfl), (by kernel_rfl), (by kernel_rfl), (by kernel_rfl), (by kernel_rfl), (by kernel_rfl), (by kernel_rfl), trivial⟩⟩) ?_
  intro e hp
  refine seqJ h 266 (fun x => [(0, (.ptr 266 0 1 0)), (6, (.ptr 6 0 2 0)), (7, (.ptr 7 0 2 0)), (8, (.ptr 8 0 2 0)), (9, (.ptr 9 0 2 0)), (20, (.d (.p (.int .i64 x1.Kind)))), (21, (.d (.p (.bool x))))]) (fun x => [(6, 0, 2, (some (.box [(.d (.p (.int .i64 a2.node))), (.d (.p (.int .i64 a2.env))), (.d (.p (.int .i64 a2.val.Kind))), (.d (.p (.int .i64 a2.val.N))), (.d (.p (.int .i64 a2.stage)))]))), (7, 0, 2, (some (.box [(.d (.p (.int .i64 a3.Kind))), (.d (.p (.int .i64 a3.N)))]))), (8, 0, 2, (some (.box [(.d (.p (.int .i64 x1.Kind))), (.d (.p (.int .i64 x1.A))), (.d (.p (.int .i64 x1.B))), (.d (.p (.int .i64 x1.C))), (.d (.p (.int .i64 x1.N))), (.d (.p (.string x1.Name))), (.d (.p (.string x1.Other)))]))), (9, 0, 2, (some (.box [(.d (.p (.int .i64 a2.node))), (.d (.p (.int .i64 0))), (.d (.p (.int .i64 0))), (.d (.p (.int .i64 0))), (.d (.p (.int .i64 2)))]))), (266, 0, 1, (some (.box [(.d (.p (.int .i64 a0.mode))), (.d (.p (.int .i64 a0.node))), (.d (.p (.int .i64 a0.env))), (.d (.p (.int .i64 a0.val.Kind))), (.d (.p (.int .i64 a0.val.N))), (.own 266 1005 2), (.own 266 1006 2), (.own 266 1007 2), (.own 266 1008 2), (.own 266 1009 2), (.own 266 1010 2), (.d (.p (.bool a0.stuck)))]))), (266, 1005, 2, (some (.row true true 5 (a0.stack.map spec_l11Frame.e)))), (266, 1006, 2, (some (.row true true 5 (a0.h_.Envs.map impl_EnvCell.e)))), (266, 1007, 2, (some (.row true true 2 (a0.h_.Clos.map impl_Clo.e)))), (266, 1008, 2, (some (.row true true 4 (a0.h_.Twos.map impl_Two.e)))), (266, 1009, 2, (some (.row true true 2 (a0.h_.Refs.map impl_Val.e)))), (266, 1010, 2, (some (.row true true 3 (a0.ev.map impl_Event.e))))]) (fun J h => ?_) ?_
  · try ((with_reducible apply cdX); exact rfl)
    refine iteF h (fun c3 h => ?_) (fun c3 h => ?_)
    · exact ⟨true, h, ⟨rfl, ⟨(by kernel_rfl), (by kernel_rfl), (by kernel_rfl), (by kernel_rfl), (by kernel_rfl), (by kernel_rfl), (by kernel_rfl), trivial⟩, ⟨(by kernel_rfl), (by kernel_rfl), (by kernel_rfl), (by kernel_rfl), (by kernel_rfl), (by kernel_rfl), (by kernel_rfl), (by kernel_rfl), (by kernel_rfl), (by kernel_rfl), (by kernel_rfl), trivial⟩⟩⟩
    · try ((with_reducible apply cdX); exact rfl)
      refine iteF h (fun c4 h => ?_) (fun c4 h => ?_)
      · exact ⟨true, h, ⟨rfl, ⟨(by kernel_rfl), (by kernel_rfl), (by kernel_rfl), (by kernel_rfl), (by kernel_rfl), (by kernel_rfl), (by kernel_rfl), trivial⟩, ⟨(by kernel_rfl), (by kernel_rfl), (by kernel_rfl), (by kernel_rfl), (by kernel_rfl), (by kernel_rfl), (by kernel_rfl), (by kernel_rfl), (by kernel_rfl), (by kernel_rfl), (by kernel_rfl), trivial⟩⟩⟩
      · try ((with_reducible apply cdX); exact rfl)
        refine iteF h (fun c5 h => ?_) (fun c5 h => ?_)
        · exact ⟨true, h, ⟨rfl, ⟨(by kernel_rfl), (by kernel_rfl), (by kernel_rfl), (by kernel_rfl), (by kernel_rfl), (by kernel_rfl), (by kernel_rfl), trivial⟩, ⟨(by kernel_rfl), (by kernel_rfl), (by kernel_rfl), (by kernel_rfl), (by kernel_rfl), (by kernel_rfl), (by kernel_rfl), (by kernel_rfl), (by kernel_rfl), (by kernel_rfl), (by kernel_rfl), trivial⟩⟩⟩
        · try ((with_reducible apply cdX); exact rfl)
          refine iteF h (fun c6 h => ?_) (fun c6 h => ?_)
          · exact ⟨true, h, ⟨rfl, ⟨(by kernel_rfl), (by kernel_rfl), (by kernel_rfl), (by kernel_rfl), (by kernel_rfl), (by kernel_rfl), (by kernel_rfl), trivial⟩, ⟨(by kernel_rfl), (by kernel_rfl), (by kernel_rfl), (by kernel_rfl), (by kernel_rfl), (by kernel_rfl), (by kernel_rfl), (by kernel_rfl), (by kernel_rfl), (by kernel_rfl), (by kernel_rfl), trivial⟩⟩⟩
          · exact ⟨(decide (x1.Kind = 17)), h, ⟨rfl, ⟨(by kernel_rfl), (by kernel_rfl), (by kernel_rfl), (by kernel_rfl), (by kernel_rfl), (by kernel_rfl), (by kernel_rfl), trivial⟩, ⟨(by kernel_rfl), (by kernel_rfl), (by kernel_rfl), (by kernel_rfl), (by kernel_rfl), (by kernel_rfl), (by kernel_rfl), (by kernel_rfl), (by kernel_rfl), (by kernel_rfl), (by kernel_rfl), trivial⟩⟩⟩
  · rintro v2 h e hp
    try ((with_reducible apply cdX); exact rfl)
    refine ifB h (fun c7 h => ?_) (fun c7 h => ?_)
    · refine bindG h fun y8 hy9 h => ?_
      refine exM ([], [(.ptr y8.q)]) ?_ ?_
      · exact spec_l11Push.ev hy9
      refine bindG h fun y10 hy11 h => ?_
      refine exM ([], [(.ptr y10.q)]) ?_ ?_
      · exact spec_l11Look.ev hy11
      exact retE (enc := spec_l11First.enc) h (by kernel_rfl)
    · try ((with_reducible apply cdX); exact rfl)
      refine iteF h (fun c12 h => ?_) (fun c12 h => ?_)
      · refine bindG h fun y13 hy14 h => ?_
        refine exM ([], [(.ptr y13.q)]) ?_ ?_
        · exact spec_l11Push.ev hy14
        refine ⟨[[], [50, 51, 52, 53, 54, 55], [50, 51, 52, 53, 54, 55], [], [47, 48, 52, 53, 54], [47, 48, 52, 53, 54], [47, 48, 50, 51, 53, 54], [47, 48, 50, 51, 52], [47, 48, 50, 51, 52], [47, 999999, 8, 48, 999999, 8], []], [[], [999999, 8], [999999, 8], [], [], [], [], [], [], [], []], by kernel_rfl, ?_⟩
        refine bindG h ?_
        rintro ⟨y15, y16⟩ hy17 h
        refine exM ([(.d (.p (.int .i64 y15)))], [(.ptr y16.q)]) ?_ ?_
        · exact spec_l11Bind.ev hy17
        refine bindG h fun y18 hy19 h => ?_
        refine exM ([], [(.ptr y18.q)]) ?_ ?_
        · exact spec_l11Look.ev hy19
        exact retE (enc := spec_l11First.enc) h (by kernel_rfl)
      · try ((with_reducible apply cdX); exact rfl)
        refine iteF h (fun c20 h => ?_) (fun c20 h => ?_)
        · refine bindG h fun y21 hy22 h => ?_
          refine exM ([], [(.ptr y21.q)]) ?_ ?_
          · exact spec_l11Done.ev hy22
          exact retE (enc := spec_l11First.enc) h (by kernel_rfl)
        · try ((with_reducible apply cdX); exact rfl)
          refine iteF h (fun c23 h => ?_) (fun c23 h => ?_)
          · refine seqJ h 266 (fun x => [(0, (.ptr 266 0 1 0)), (6, (.ptr 6 0 2 0)), (7, (.ptr 7 0 2 0)), (8, (.ptr 8 0 2 0)), (9, (.ptr 9 0 2 0))]) (fun x => [(6, 0, 2, (some (.box [(.d (.p (.int .i64 a2.node))), (.d (.p (.int .i64 a2.env))), (.d (.p (.int .i64 a2.val.Kind))), (.d (.p (.int .i64 a2.val.N))), (.d (.p (.int .i64 a2.stage)))]))), (7, 0, 2, (some (.box [(.d (.p (.int .i64 a3.Kind))), (.d (.p (.int .i64 a3.N)))]))), (8, 0, 2, (some (.box [(.d (.p (.int .i64 x1.Kind))), (.d (.p (.int .i64 x1.A))), (.d (.p (.int .i64 x1.B))), (.d (.p (.int .i64 x1.C))), (.d (.p (.int .i64 x1.N))), (.d (.p (.string x1.Name))), (.d (.p (.string x1.Other)))]))), (9, 0, 2, (some (.box [(.d (.p (.int .i64 a2.node))), (.d (.p (.int .i64 0))), (.d (.p (.int .i64 0))), (.d (.p (.int .i64 0))), (.d (.p (.int .i64 2)))]))), (266, 0, 1, (some (.box [(.d (.p (.int .i64 x.mode))), (.d (.p (.int .i64 x.node))), (.d (.p (.int .i64 x.env))), (.d (.p (.int .i64 x.val.Kind))), (.d (.p (.int .i64 x.val.N))), (.own 266 1005 2), (.own 266 1006 2), (.own 266 1007 2), (.own 266 1008 2), (.own 266 1009 2), (.own 266 1010 2), (.d (.p (.bool x.stuck)))]))), (266, 1005, 2, (some (.row true true 5 (x.stack.map spec_l11Frame.e)))), (266, 1006, 2, (some (.row true true 5 (x.h_.Envs.map impl_EnvCell.e)))), (266, 1007, 2, (some (.row true true 2 (x.h_.Clos.map impl_Clo.e)))), (266, 1008, 2, (some (.row true true 4 (x.h_.Twos.map impl_Two.e)))), (266, 1009, 2, (some (.row true true 2 (x.h_.Refs.map impl_Val.e)))), (266, 1010, 2, (some (.row true true 3 (x.ev.map impl_Event.e))))]) (fun J h => ?_) ?_
            · try ((with_reducible apply cdX); exact rfl)
              refine ifB h (fun c25 h => ?_) (fun c25 h => ?_)
              · refine Ask.T rfl ?_
                refine Ask.T rfl ?_
                refine Ask.T rfl ?_
                exact ⟨(⟨a0.mode, a0.node, a0.env, a0.val, a0.stack, a0.h_, a0.ev, true⟩ : spec_l11State), h, ⟨rfl, ⟨(by kernel_rfl), (by kernel_rfl), (by kernel_rfl), (by kernel_rfl), (by kernel_rfl), trivial⟩, ⟨(by kernel_rfl), (by kernel_rfl), (by kernel_rfl), (by kernel_rfl), (by kernel_rfl), (by kernel_rfl), (by kernel_rfl), (by kernel_rfl), (by kernel_rfl), (by kernel_rfl), (by kernel_rfl), trivial⟩⟩⟩
              · refine Ask.F rfl ?_
                refine Ask.F rfl ?_
                refine Ask.F rfl ?_
                exact ⟨(⟨a0.mode, a0.node, a0.env, a0.val, a0.stack, a0.h_, a0.ev, (!(decide (a3.Kind = 0)))⟩ : spec_l11State), h, ⟨rfl, ⟨(by kernel_rfl), (by kernel_rfl), (by kernel_rfl), (by kernel_rfl), (by kernel_rfl), trivial⟩, ⟨(by kernel_rfl), (by kernel_rfl), (by kernel_rfl), (by kernel_rfl), (by kernel_rfl), (by kernel_rfl), (by kernel_rfl), (by kernel_rfl), (by kernel_rfl), (by kernel_rfl), (by kernel_rfl), trivial⟩⟩⟩
            · rintro v24 h e hp
              refine bindG h fun y26 hy27 h => ?_
              refine exM ([], [(.ptr y26.q)]) ?_ ?_
              · exact spec_l11Push.ev hy27
              refine ifB h (fun c28 h => ?_) (fun c28 h => ?_)
              · refine bindG h fun y29 hy30 h => ?_
                refine exM ([], [(.ptr y29.q)]) ?_ ?_
                · exact spec_l11Look.ev hy30
                exact retE (enc := spec_l11First.enc) h (by kernel_rfl)
              · refine bindG h fun y31 hy32 h => ?_
                refine exM ([], [(.ptr y31.q)]) ?_ ?_
                · exact spec_l11Look.ev hy32
                exact retE (enc := spec_l11First.enc) h (by kernel_rfl)
          · try ((with_reducible apply cdX); exact rfl)
            refine iteF h (fun c33 h => ?_) (fun c33 h => ?_)
            · refine bindG h fun y34 hy35 h => ?_
              refine exM ([], [(.ptr y34.q)]) ?_ ?_
              · exact spec_l11Push.ev hy35
              refine goS ?_
              try ((with_reducible apply cdX); exact rfl)
              refine ifB h (fun c36 h => ?_) (fun c36 h => ?_)
              · refine seqJ h 266 (fun x => [(0, (.ptr 266 0 1 0)), (6, (.ptr 6 0 2 0)), (8, (.ptr 8 0 2 0))]) (fun x => [(6, 0, 2, (some (.box [(.d (.p (.int .i64 a2.node))), (.d (.p (.int .i64 a2.env))), (.d (.p (.int .i64 a2.val.Kind))), (.d (.p (.int .i64 a2.val.N))), (.d (.p (.int .i64 a2.stage)))]))), (8, 0, 2, (some (.box [(.d (.p (.int .i64 x1.Kind))), (.d (.p (.int .i64 x1.A))), (.d (.p (.int .i64 x1.B))), (.d (.p (.int .i64 x1.C))), (.d (.p (.int .i64 x1.N))), (.d (.p (.string x1.Name))), (.d (.p (.string x1.Other)))]))), (266, 0, 1, (some (.box [(.d (.p (.int .i64 x.mode))), (.d (.p (.int .i64 x.node))), (.d (.p (.int .i64 x.env))), (.d (.p (.int .i64 x.val.Kind))), (.d (.p (.int .i64 x.val.N))), (.own 266 1005 2), (.own 266 1006 2), (.own 266 1007 2), (.own 266 1008 2), (.own 266 1009 2), (.own 266 1010 2), (.d (.p (.bool x.stuck)))]))), (266, 1005, 2, (some (.row true true 5 (x.stack.map spec_l11Frame.e)))), (266, 1006, 2, (some (.row true true 5 (x.h_.Envs.map impl_EnvCell.e)))), (266, 1007, 2, (some (.row true true 2 (x.h_.Clos.map impl_Clo.e)))), (266, 1008, 2, (some (.row true true 4 (x.h_.Twos.map impl_Two.e)))), (266, 1009, 2, (some (.row true true 2 (x.h_.Refs.map impl_Val.e)))), (266, 1010, 2, (some (.row true true 3 (x.ev.map impl_Event.e))))]) (fun J h => ?_) ?_
                · try ((with_reducible apply cdX); exact rfl)
                  refine ifB h (fun c38 h => ?_) (fun c38 h => ?_)
                  · refine Ask.T rfl ?_
                    refine Ask.T rfl ?_
                    refine Ask.T rfl ?_
                    exact ⟨(⟨y34.mode, y34.node, y34.env, y34.val, y34.stack, y34.h_, y34.ev, true⟩ : spec_l11State), h, ⟨rfl, ⟨(by kernel_rfl), (by kernel_rfl), (by kernel_rfl), trivial⟩, ⟨(by kernel_rfl), (by kernel_rfl), (by kernel_rfl), (by kernel_rfl), (by kernel_rfl), (by kernel_rfl), (by kernel_rfl), (by kernel_rfl), (by kernel_rfl), trivial⟩⟩⟩
                  · refine Ask.F rfl ?_
                    refine Ask.F rfl ?_
                    refine Ask.F rfl ?_
                    exact ⟨(⟨y34.mode, y34.node, y34.env, y34.val, y34.stack, y34.h_, y34.ev, (!(decide (a3.Kind = 2)))⟩ : spec_l11State), h, ⟨rfl, ⟨(by kernel_rfl), (by kernel_rfl), (by kernel_rfl), trivial⟩, ⟨(by kernel_rfl), (by kernel_rfl), (by kernel_rfl), (by kernel_rfl), (by kernel_rfl), (by kernel_rfl), (by kernel_rfl), (by kernel_rfl), (by kernel_rfl), trivial⟩⟩⟩
                · rintro v37 h e hp
                  refine bindG h fun y39 hy40 h => ?_
                  refine exM ([], [(.ptr y39.q)]) ?_ ?_
                  · exact spec_l11Look.ev hy40
                  exact retE (enc := spec_l11First.enc) h (by kernel_rfl)
              · refine ⟨[[], [126, 127, 128, 129, 130, 131, 132, 133, 134, 135, 136], [126, 127, 128, 129, 130, 131, 132, 133, 134, 135, 136], [], [123, 124, 130, 131, 135, 136], [123, 124, 130, 131, 135, 136], [123, 124, 130, 131, 135, 136], [123, 124, 130, 131, 135, 136], [123, 124, 126, 127, 128, 129, 135, 136], [123, 124, 126, 127, 128, 129, 135, 136], [123, 124, 135, 136], [123, 124, 135, 136], [123, 124, 135, 136], [123, 124, 126, 127, 128, 129, 130, 131, 132, 133, 134], [123, 124, 126, 127, 128, 129, 130, 131, 132, 133, 134], [], []], [], by kernel_rfl, ?_⟩
                refine bindG h fun x41 hx41 h => ?_
                refine anM (at_ix rfl hx41) ?_
                refine anM (at_lt rfl hx41) ?_
                refine exM (impl_Two.e x41) (at_get rfl hx41) ?_
                refine bindG h ?_
                rintro ⟨y42, y43⟩ hy44 h
                refine exM ([(.d (.p (.int .i64 y42)))], [(.ptr y43.q)]) ?_ ?_
                · exact spec_l11Bind.ev hy44
                refine ⟨[[], [142, 143, 144, 145, 146, 147, 148, 149, 150], [142, 143, 144, 145, 146, 147, 148, 149, 150], [], [139, 140, 146, 147], [139, 140, 146, 147], [139, 140, 146, 147], [139, 140, 146, 147], [139, 140, 142, 143, 144, 145], [139, 140, 142, 143, 144, 145], [139, 140], [139, 140], [139, 140], [], [], []], [], by kernel_rfl, ?_⟩
                refine bindG h fun x45 hx45 h => ?_
                refine anM (at_ix rfl hx45) ?_
                refine anM (at_lt rfl hx45) ?_
                refine exM (impl_Two.e x45) (at_get rfl hx45) ?_
                refine bindG h ?_
                rintro ⟨y46, y47⟩ hy48 h
                refine exM ([(.d (.p (.int .i64 y46)))], [(.ptr y47.q)]) ?_ ?_
                · exact spec_l11Bind.ev hy48
                refine bindG h fun y49 hy50 h => ?_
                refine exM ([], [(.ptr y49.q)]) ?_ ?_
                · exact spec_l11Look.ev hy50
                exact retE (enc := spec_l11First.enc) h (by kernel_rfl)
            · refine seqJ h 266 (fun x => [(0, (.ptr 266 0 1 0)), (6, (.ptr 6 0 2 0)), (7, (.ptr 7 0 2 0)), (8, (.ptr 8 0 2 0)), (20, (.d (.p (.int .i64 x1.Kind)))), (158, (.d (.p (.bool x))))]) (fun x => [(6, 0, 2, (some (.box [(.d (.p (.int .i64 a2.node))), (.d (.p (.int .i64 a2.env))), (.d (.p (.int .i64 a2.val.Kind))), (.d (.p (.int .i64 a2.val.N))), (.d (.p (.int .i64 a2.stage)))]))), (7, 0, 2, (some (.box [(.d (.p (.int .i64 a3.Kind))), (.d (.p (.int .i64 a3.N)))]))), (8, 0, 2, (some (.box [(.d (.p (.int .i64 x1.Kind))), (.d (.p (.int .i64 x1.A))), (.d (.p (.int .i64 x1.B))), (.d (.p (.int .i64 x1.C))), (.d (.p (.int .i64 x1.N))), (.d (.p (.string x1.Name))), (.d (.p (.string x1.Other)))]))), (266, 0, 1, (some (.box [(.d (.p (.int .i64 a0.mode))), (.d (.p (.int .i64 a0.node))), (.d (.p (.int .i64 a0.env))), (.d (.p (.int .i64 a0.val.Kind))), (.d (.p (.int .i64 a0.val.N))), (.own 266 1005 2), (.own 266 1006 2), (.own 266 1007 2), (.own 266 1008 2), (.own 266 1009 2), (.own 266 1010 2), (.d (.p (.bool a0.stuck)))]))), (266, 1005, 2, (some (.row true true 5 (a0.stack.map spec_l11Frame.e)))), (266, 1006, 2, (some (.row true true 5 (a0.h_.Envs.map impl_EnvCell.e)))), (266, 1007, 2, (some (.row true true 2 (a0.h_.Clos.map impl_Clo.e)))), (266, 1008, 2, (some (.row true true 4 (a0.h_.Twos.map impl_Two.e)))), (266, 1009, 2, (some (.row true true 2 (a0.h_.Refs.map impl_Val.e)))), (266, 1010, 2, (some (.row true true 3 (a0.ev.map impl_Event.e))))]) (fun J h => ?_) ?_
              · try ((with_reducible apply cdX); exact rfl)
                refine iteF h (fun c52 h => ?_) (fun c52 h => ?_)
                · exact ⟨true, h, ⟨rfl, ⟨(by kernel_rfl), (by kernel_rfl), (by kernel_rfl), (by kernel_rfl), (by kernel_rfl), (by kernel_rfl), trivial⟩, ⟨(by kernel_rfl), (by kernel_rfl), (by kernel_rfl), (by kernel_rfl), (by kernel_rfl), (by kernel_rfl), (by kernel_rfl), (by kernel_rfl), (by kernel_rfl), (by kernel_rfl), trivial⟩⟩⟩
                · exact ⟨(decide (x1.Kind = 11)), h, ⟨rfl, ⟨(by kernel_rfl), (by kernel_rfl), (by kernel_rfl), (by kernel_rfl), (by kernel_rfl), (by kernel_rfl), trivial⟩, ⟨(by kernel_rfl), (by kernel_rfl), (by kernel_rfl), (by kernel_rfl), (by kernel_rfl), (by kernel_rfl), (by kernel_rfl), (by kernel_rfl), (by kernel_rfl), (by kernel_rfl), trivial⟩⟩⟩
              · rintro v51 h e hp
                try ((with_reducible apply cdX); exact rfl)
                refine ifB h (fun c53 h => ?_) (fun c53 h => ?_)
                · refine goS ?_
                  try ((with_reducible apply cdX); exact rfl)
                  refine ifB h (fun c54 h => ?_) (fun c54 h => ?_)
                  · refine goS ?_
                    exact retE (enc := spec_l11First.enc) h (by kernel_rfl)
                  · try ((with_reducible apply cdX); exact rfl)
                    refine iteF h (fun c55 h => ?_) (fun c55 h => ?_)
                    · refine ⟨[[], [174, 175, 176, 177, 178, 179, 180, 181, 182], [174, 175, 176, 177, 178, 179, 180, 181, 182], [], [171, 172, 178, 179], [171, 172, 178, 179], [171, 172, 178, 179], [171, 172, 178, 179], [171, 172, 174, 175, 176, 177], [171, 172, 174, 175, 176, 177], [171, 172], [171, 172], [171, 172], []], [], by kernel_rfl, ?_⟩
                      refine bindG h fun x56 hx56 h => ?_
                      refine anM (at_ix rfl hx56) ?_
                      refine anM (at_lt rfl hx56) ?_
                      refine exM (impl_Two.e x56) (at_get rfl hx56) ?_
                      refine bindG h fun y57 hy58 h => ?_
                      refine exM ([], [(.ptr y57.q)]) ?_ ?_
                      · exact spec_l11Done.ev hy58
                      exact retE (enc := spec_l11First.enc) h (by kernel_rfl)
                    · refine ⟨[[], [188, 189, 190, 191, 192, 193, 194, 195, 196], [188, 189, 190, 191, 192, 193, 194, 195, 196], [], [185, 186, 192, 193], [185, 186, 192, 193], [185, 186, 192, 193], [185, 186, 192, 193], [185, 186, 188, 189, 190, 191], [185, 186, 188, 189, 190, 191], [185, 186], [185, 186], [185, 186], []], [], by kernel_rfl, ?_⟩
                      refine bindG h fun x59 hx59 h => ?_
                      refine anM (at_ix rfl hx59) ?_
                      refine anM (at_lt rfl hx59) ?_
                      refine exM (impl_Two.e x59) (at_get rfl hx59) ?_
                      refine bindG h fun y60 hy61 h => ?_
                      refine exM ([], [(.ptr y60.q)]) ?_ ?_
                      · exact spec_l11Done.ev hy61
                      exact retE (enc := spec_l11First.enc) h (by kernel_rfl)
                · try ((with_reducible apply cdX); exact rfl)
                  refine iteF h (fun c62 h => ?_) (fun c62 h => ?_)
                  · refine goR ?_
                    refine ⟨[[], [], [206, 207], [206, 207], [206, 207], [206, 207], [202, 203, 204, 205], [202, 203, 204, 205], [], [], [], [], []], [], by kernel_rfl, ?_⟩
                    refine eqM (([a3] : List impl_Val).map impl_Val.e) rfl ?_
                    refine gdG h fun hc h => ?_
                    refine anM (apB hc) ?_
                    refine eqM ((a0.h_.Refs ++ ([a3] : List impl_Val)).map impl_Val.e) (mApp rfl rfl) ?_
                    refine Re.mk 266 [(0, (.ptr 266 0 1 0)), (6, (.ptr 6 0 2 0))] [(6, 0, 2, (some (.box [(.d (.p (.int .i64 a2.node))), (.d (.p (.int .i64 a2.env))), (.d (.p (.int .i64 a2.val.Kind))), (.d (.p (.int .i64 a2.val.N))), (.d (.p (.int .i64 a2.stage)))]))), (266, 0, 1, (some (.box [(.d (.p (.int .i64 a0.mode))), (.d (.p (.int .i64 a0.node))), (.d (.p (.int .i64 a0.env))), (.d (.p (.int .i64 a0.val.Kind))), (.d (.p (.int .i64 a0.val.N))), (.own 266 1005 2), (.own 266 1006 2), (.own 266 1007 2), (.own 266 1008 2), (.own 266 1009 2), (.own 266 1010 2), (.d (.p (.bool a0.stuck)))]))), (266, 1005, 2, (some (.row true true 5 (a0.stack.map spec_l11Frame.e)))), (266, 1006, 2, (some (.row true true 5 (a0.h_.Envs.map impl_EnvCell.e)))), (266, 1007, 2, (some (.row true true 2 (a0.h_.Clos.map impl_Clo.e)))), (266, 1008, 2, (some (.row true true 4 (a0.h_.Twos.map impl_Two.e)))), (266, 1009, 2, (some (.row true true 2 ((a0.h_.Refs ++ ([a3] : List impl_Val)).map impl_Val.e)))), (266, 1010, 2, (some (.row true true 3 (a0.ev.map impl_Event.e))))] (by exact ⟨rfl, ⟨(by kernel_rfl), (by kernel_rfl), trivial⟩, ⟨(by kernel_rfl), (by kernel_rfl), (by kernel_rfl), (by kernel_rfl), (by kernel_rfl), (by kernel_rfl), (by kernel_rfl), (by kernel_rfl), trivial⟩⟩) ?_
                    intro e hp
                    refine ⟨[[], [216, 217, 218, 219, 220], [216, 217, 218, 219, 220], [], [213, 214], [213, 214], [213, 214], [213, 214], [213, 214], [], [], []], [], by kernel_rfl, ?_⟩
                    refine eqM (((a0.h_.Refs ++ ([a3] : List impl_Val)).length : Int) : Int) (mLen rfl) ?_
                    refine bindG h fun y63 hy64 h => ?_
                    refine exM ([], [(.ptr y63.q)]) ?_ ?_
                    · exact spec_l11Done.ev hy64
                    exact retE (enc := spec_l11First.enc) h (by kernel_rfl)
                  · try ((with_reducible apply cdX); exact rfl)
                    refine iteF h (fun c65 h => ?_) (fun c65 h => ?_)
                    · refine goS ?_
                      try ((with_reducible apply cdX); exact rfl)
                      refine ifB h (fun c66 h => ?_) (fun c66 h => ?_)
                      · refine goS ?_
                        exact retE (enc := spec_l11First.enc) h (by kernel_rfl)
                      · refine ⟨[[], [236, 237, 238, 239, 240, 241, 242, 243], [236, 237, 238, 239, 240, 241, 242, 243], [], [233, 234, 240, 241], [233, 234, 240, 241], [233, 234, 240, 241], [233, 234, 240, 241], [233, 234, 236, 237, 238, 239], [233, 234, 236, 237, 238, 239], [233, 234], [233, 234], []], [], by kernel_rfl, ?_⟩
                        refine bindG h fun x67 hx67 h => ?_
                        refine anM (at_ix rfl hx67) ?_
                        refine exM (impl_Val.e x67) (at_get rfl hx67) ?_
                        refine bindG h fun y68 hy69 h => ?_
                        refine exM ([], [(.ptr y68.q)]) ?_ ?_
                        · exact spec_l11Done.ev hy69
                        exact retE (enc := spec_l11First.enc) h (by kernel_rfl)
                    · try ((with_reducible apply cdX); exact rfl)
                      refine iteF h (fun c70 h => ?_) (fun c70 h => ?_)
                      · refine seqJ h 266 (fun x => [(0, (.ptr 266 0 1 0)), (7, (.ptr 7 0 2 0))]) (fun x => [(7, 0, 2, (some (.box [(.d (.p (.int .i64 a3.Kind))), (.d (.p (.int .i64 a3.N)))]))), (266, 0, 1, (some (.box [(.d (.p (.int .i64 x.mode))), (.d (.p (.int .i64 x.node))), (.d (.p (.int .i64 x.env))), (.d (.p (.int .i64 x.val.Kind))), (.d (.p (.int .i64 x.val.N))), (.own 266 1005 2), (.own 266 1006 2), (.own 266 1007 2), (.own 266 1008 2), (.own 266 1009 2), (.own 266 1010 2), (.d (.p (.bool x.stuck)))]))), (266, 1005, 2, (some (.row true true 5 (x.stack.map spec_l11Frame.e)))), (266, 1006, 2, (some (.row true true 5 (x.h_.Envs.map impl_EnvCell.e)))), (266, 1007, 2, (some (.row true true 2 (x.h_.Clos.map impl_Clo.e)))), (266, 1008, 2, (some (.row true true 4 (x.h_.Twos.map impl_Two.e)))), (266, 1009, 2, (some (.row true true 2 (x.h_.Refs.map impl_Val.e)))), (266, 1010, 2, (some (.row true true 3 (x.ev.map impl_Event.e))))]) (fun J h => ?_) ?_
                        · try ((with_reducible apply cdX); exact rfl)
                          refine ifB h (fun c72 h => ?_) (fun c72 h => ?_)
                          · refine Ask.T rfl ?_
                            refine Ask.T rfl ?_
                            refine Ask.T rfl ?_
                            exact ⟨(⟨a0.mode, a0.node, a0.env, a0.val, a0.stack, a0.h_, a0.ev, true⟩ : spec_l11State), h, ⟨rfl, ⟨(by kernel_rfl), (by kernel_rfl), trivial⟩, ⟨(by kernel_rfl), (by kernel_rfl), (by kernel_rfl), (by kernel_rfl), (by kernel_rfl), (by kernel_rfl), (by kernel_rfl), (by kernel_rfl), trivial⟩⟩⟩
                          · refine Ask.F rfl ?_
                            refine Ask.F rfl ?_
                            refine Ask.F rfl ?_
                            exact ⟨(⟨a0.mode, a0.node, a0.env, a0.val, a0.stack, a0.h_, a0.ev, (!(decide (a3.Kind = 0)))⟩ : spec_l11State), h, ⟨rfl, ⟨(by kernel_rfl), (by kernel_rfl), trivial⟩, ⟨(by kernel_rfl), (by kernel_rfl), (by kernel_rfl), (by kernel_rfl), (by kernel_rfl), (by kernel_rfl), (by kernel_rfl), (by kernel_rfl), trivial⟩⟩⟩
                        · rintro v71 h e hp
                          refine goR ?_
                          refine Re.mk 266 [(0, (.ptr 266 0 1 0)), (7, (.ptr 7 0 2 0))] [(7, 0, 2, (some (.box [(.d (.p (.int .i64 a3.Kind))), (.d (.p (.int .i64 a3.N)))]))), (266, 0, 1, (some (.box [(.d (.p (.int .i64 2))), (.d (.p (.int .i64 v71.node))), (.d (.p (.int .i64 v71.env))), (.d (.p (.int .i64 v71.val.Kind))), (.d (.p (.int .i64 v71.val.N))), (.own 266 1005 2), (.own 266 1006 2), (.own 266 1007 2), (.own 266 1008 2), (.own 266 1009 2), (.own 266 1010 2), (.d (.p (.bool v71.stuck)))]))), (266, 1005, 2, (some (.row true true 5 (v71.stack.map spec_l11Frame.e)))), (266, 1006, 2, (some (.row true true 5 (v71.h_.Envs.map impl_EnvCell.e)))), (266, 1007, 2, (some (.row true true 2 (v71.h_.Clos.map impl_Clo.e)))), (266, 1008, 2, (some (.row true true 4 (v71.h_.Twos.map impl_Two.e)))), (266, 1009, 2, (some (.row true true 2 (v71.h_.Refs.map impl_Val.e)))), (266, 1010, 2, (some (.row true true 3 (v71.ev.map impl_Event.e))))] (by exact ⟨rfl, ⟨(by kernel_rfl), (by kernel_rfl), trivial⟩, ⟨(by kernel_rfl), (by kernel_rfl), (by kernel_rfl), (by kernel_rfl), (by kernel_rfl), (by kernel_rfl), (by kernel_rfl), (by kernel_rfl), trivial⟩⟩) ?_
                          intro e hp
                          exact retE (enc := spec_l11First.enc) h (by kernel_rfl)
                      · exact retE (enc := spec_l11First.enc) h (by kernel_rfl)
def spec_l11Two.enc (r : impl_Val × spec_l11State) : Res := ([(.agg (r.1.e.map .d))], [(.ptr [(.d (.p (.int .i64 r.2.mode))), (.d (.p (.int .i64 r.2.node))), (.d (.p (.int .i64 r.2.env))), (.d (.p (.int .i64 r.2.val.Kind))), (.d (.p (.int .i64 r.2.val.N))), (.own true 5 (r.2.stack.map spec_l11Frame.e)), (.own true 5 (r.2.h_.Envs.map impl_EnvCell.e)), (.own true 2 (r.2.h_.Clos.map impl_Clo.e)), (.own true 4 (r.2.h_.Twos.map impl_Two.e)), (.own true 2 (r.2.h_.Refs.map impl_Val.e)), (.own true 3 (r.2.ev.map impl_Event.e)), (.d (.p (.bool r.2.stuck)))])])
def spec_l11Two.f  (K : Nat) (a0 : spec_l11State) (a1 : Int) (a2 : impl_Val) (a3 : impl_Val) : Option (impl_Val × spec_l11State) := gd ((a0.h_.Twos.length + 1) * 32 ≤ 140737488355328) (some ((⟨a1, (w64 (((a0.h_.Twos ++ ([(⟨a2, a3⟩ : impl_Two)] : List impl_Two)).length : Int) - 1))⟩ : impl_Val), (⟨a0.mode, a0.node, a0.env, a0.val, a0.stack, (⟨a0.h_.Envs, a0.h_.Clos, (a0.h_.Twos ++ ([(⟨a2, a3⟩ : impl_Two)] : List impl_Two)), a0.h_.Refs⟩ : impl_Heap), a0.ev, a0.stuck⟩ : spec_l11State)))
theorem spec_l11Two.ev   {K : Nat} {a0 : spec_l11State} {a1 : Int} {a2 : impl_Val} {a3 : impl_Val} {r : impl_Val × spec_l11State} (h : spec_l11Two.f  K a0 a1 a2 a3 = some r) : E 85 [(.ptr a0.q), (.d (.p (.int .i64 a1))), (.agg (a2.e.map .d)), (.agg (a3.e.map .d))] = some ([(.agg (r.1.e.map .d))], [(.ptr [(.d (.p (.int .i64 r.2.mode))), (.d (.p (.int .i64 r.2.node))), (.d (.p (.int .i64 r.2.env))), (.d (.p (.int .i64 r.2.val.Kind))), (.d (.p (.int .i64 r.2.val.N))), (.own true 5 (r.2.stack.map spec_l11Frame.e)), (.own true 5 (r.2.h_.Envs.map impl_EnvCell.e)), (.own true 2 (r.2.h_.Clos.map impl_Clo.e)), (.own true 4 (r.2.h_.Twos.map impl_Two.e)), (.own true 2 (r.2.h_.Refs.map impl_Val.e)), (.own true 3 (r.2.ev.map impl_Event.e)), (.d (.p (.bool r.2.stuck)))])]) := by
  refine Ev_intro (fn := Tryz.f85) rfl (by kernel_rfl) (c := _) rfl ⟨rfl, by simp⟩ (vs := [(.ptr 32 0 1 0), (.d (.p (.int .i64 a1))), (.agg [(.d (.p (.int .i64 a2.Kind))), (.d (.p (.int .i64 a2.N)))]), (.agg [(.d (.p (.int .i64 a3.Kind))), (.d (.p (.int .i64 a3.N)))])]) (h0 := (((((((Hp.nil.put 32 1005 (1, (some (.row true true 5 (a0.stack.map spec_l11Frame.e))))).put 32 1006 (1, (some (.row true true 5 (a0.h_.Envs.map impl_EnvCell.e))))).put 32 1007 (1, (some (.row true true 2 (a0.h_.Clos.map impl_Clo.e))))).put 32 1008 (1, (some (.row true true 4 (a0.h_.Twos.map impl_Two.e))))).put 32 1009 (1, (some (.row true true 2 (a0.h_.Refs.map impl_Val.e))))).put 32 1010 (1, (some (.row true true 3 (a0.ev.map impl_Event.e))))).put 32 0 (1, (some (.box [(.d (.p (.int .i64 a0.mode))), (.d (.p (.int .i64 a0.node))), (.d (.p (.int .i64 a0.env))), (.d (.p (.int .i64 a0.val.Kind))), (.d (.p (.int .i64 a0.val.N))), (.own 32 1005 1), (.own 32 1006 1), (.own 32 1007 1), (.own 32 1008 1), (.own 32 1009 1), (.own 32 1010 1), (.d (.p (.bool a0.stuck)))]))))) (by kernel_rfl) (evP_spec _ ?_)
  unfold spec_l11Two.f at h
  refine goR ?_
  refine ⟨[[], [], [15, 16, 18], [15, 16, 18], [15, 16, 18], [15, 16, 18], [11, 12, 13, 14, 16], [11, 12, 13, 14, 15], [], [11, 12, 13, 14], [], [], [], [], []], [], by kernel_rfl, ?_⟩
  refine eqM (([(⟨a2, a3⟩ : impl_Two)] : List impl_Two).map impl_Two.e) rfl ?_
  refine gdG h fun hc h => ?_
  refine anM (apB hc) ?_
  refine eqM ((a0.h_.Twos ++ ([(⟨a2, a3⟩ : impl_Two)] : List impl_Two)).map impl_Two.e) (mApp rfl rfl) ?_
  refine Re.mk 32 [(0, (.ptr 32 0 1 0)), (1, (.d (.p (.int .i64 a1)))), (8, (.ptr 8 0 2 0))] [(8, 0, 2, (some (.box [(.d (.p (.int .i64 0))), (.d (.p (.int .i64 0)))]))), (32, 0, 1, (some (.box [(.d (.p (.int .i64 a0.mode))), (.d (.p (.int .i64 a0.node))), (.d (.p (.int .i64 a0.env))), (.d (.p (.int .i64 a0.val.Kind))), (.d (.p (.int .i64 a0.val.N))), (.own 32 1005 2), (.own 32 1006 2), (.own 32 1007 2), (.own 32 1008 2), (.own 32 1009 2), (.own 32 1010 2), (.d (.p (.bool a0.stuck)))]))), (32, 1005, 2, (some (.row true true 5 (a0.stack.map spec_l11Frame.e)))), (32, 1006, 2, (some (.row true true 5 (a0.h_.Envs.map impl_EnvCell.e)))), (32, 1007, 2, (some (.row true true 2 (a0.h_.Clos.map impl_Clo.e)))), (32, 1008, 2, (some (.row true true 4 ((a0.h_.Twos ++ ([(⟨a2, a3⟩ : impl_Two)] : List impl_Two)).map impl_Two.e)))), (32, 1009, 2, (some (.row true true 2 (a0.h_.Refs.map impl_Val.e)))), (32, 1010, 2, (some (.row true true 3 (a0.ev.map impl_Event.e))))] (by exact ⟨rfl, ⟨(by kernel_rfl), (by kernel_rfl), (by kernel_rfl), trivial⟩, ⟨(by kernel_rfl), (by kernel_rfl), (by kernel_rfl), (by kernel_rfl), (by kernel_rfl), (by kernel_rfl), (by kernel_rfl), (by kernel_rfl), trivial⟩⟩) ?_
  intro e hp
  refine goS ?_
  refine eqM (((a0.h_.Twos ++ ([(⟨a2, a3⟩ : impl_Two)] : List impl_Two)).length : Int) : Int) (mLen rfl) ?_
  exact retE (enc := spec_l11Two.enc) h (by kernel_rfl)
def spec_l11Prim.enc (r : Int) : Res := ([(.d (.p (.int .i64 r)))], [])
def spec_l11Prim.f  (K : Nat) (a0 : Int) (a1 : Int) (a2 : Int) : Option (Int) := if a0 = 0 then (some (Int.tmod (w64 (a1 + a2)) 65536)) else (if a0 = 1 then (some (Int.tmod (w64 ((w64 (a1 - a2)) + 65536)) 65536)) else (if a0 = 2 then (if a1 < a2 then (some 1) else (some 0)) else (if a1 = a2 then (some 1) else (some 0))))
theorem spec_l11Prim.ev   {K : Nat} {a0 : Int} {a1 : Int} {a2 : Int} {r : Int} (h : spec_l11Prim.f  K a0 a1 a2 = some r) : E 86 [(.d (.p (.int .i64 a0))), (.d (.p (.int .i64 a1))), (.d (.p (.int .i64 a2)))] = some ([(.d (.p (.int .i64 r)))], []) := by
  refine Ev_intro (fn := Tryz.f86) rfl (by kernel_rfl) (c := _) rfl ⟨rfl, by simp⟩ rfl (evP_spec _ ?_)
  unfold spec_l11Prim.f at h
  refine goS ?_
  try ((with_reducible apply cdX); exact rfl)
  refine iteF h (fun c1 h => ?_) (fun c1 h => ?_)
  · refine anM (by decide) ?_
    exact retE (enc := spec_l11Prim.enc) h rfl
  · try ((with_reducible apply cdX); exact rfl)
    refine iteF h (fun c2 h => ?_) (fun c2 h => ?_)
    · refine anM (by decide) ?_
      exact retE (enc := spec_l11Prim.enc) h rfl
    · try ((with_reducible apply cdX); exact rfl)
      refine iteF h (fun c3 h => ?_) (fun c3 h => ?_)
      · refine goS ?_
        try ((with_reducible apply cdX); exact rfl)
        refine iteF h (fun c4 h => ?_) (fun c4 h => ?_)
        · exact retE (enc := spec_l11Prim.enc) h rfl
        · exact retE (enc := spec_l11Prim.enc) h rfl
      · refine goS ?_
        try ((with_reducible apply cdX); exact rfl)
        refine iteF h (fun c5 h => ?_) (fun c5 h => ?_)
        · exact retE (enc := spec_l11Prim.enc) h rfl
        · exact retE (enc := spec_l11Prim.enc) h rfl
end Go.Proofs.YtifomiglajcanaaGreatDoorE
