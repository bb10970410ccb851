/- For Go functions of the program: their Lean functions, and that Go answers as these do. Written by a program of the session (evprint.py). -/
import Derived.Test.YtifomiglajcanaaGreatDoorZV1
set_option linter.unusedSimpArgs false
set_option linter.unusedVariables false
namespace Go.Proofs.YtifomiglajcanaaGreatDoorE
open Go.Ev
set_option linter.unusedVariables false
set_option maxRecDepth 100000
set_option maxHeartbeats 4000000
def impl_machine_looks.enc (r : impl_machine) : Res := ([], [(.ptr r.q)])
def impl_machine_looks.f  (K : Nat) (a0 : impl_machine) : Option (impl_machine) := (at_ a0.l a0.node).bind fun x1 => (if x1.Kind = 2 then ((impl_machine_done.f K a0 a0.node (⟨0, x1.N⟩ : impl_Val)).bind fun y3 => (some y3)) else (if x1.Kind = 12 then ((impl_machine_done.f K a0 a0.node (⟨2, 0⟩ : impl_Val)).bind fun y6 => (some y6)) else (if x1.Kind = 1 then ((at_ a0.uses a0.node).bind fun x9 => ((impl_Heap_lookUp.f K a0.Heap a0.env x9).bind fun (y10, y11, y12) => ((impl_machine_done.f K (⟨y12, a0.l, a0.uses, a0.do_, a0.node, a0.env, a0.v_, a0.frames, a0.events, a0.stuck⟩ : impl_machine) a0.node y10).bind fun y14 => (some y14)))) else (if x1.Kind = 3 then (gd ((a0.Heap.Clos.length + 1) * 16 ≤ 140737488355328) ((impl_machine_done.f K (⟨(⟨a0.Heap.Envs, (a0.Heap.Clos ++ ([(⟨a0.node, a0.env⟩ : impl_Clo)] : List impl_Clo)), a0.Heap.Twos, a0.Heap.Refs⟩ : impl_Heap), a0.l, a0.uses, a0.do_, a0.node, a0.env, a0.v_, a0.frames, a0.events, a0.stuck⟩ : impl_machine) a0.node (⟨1, (w64 (((a0.Heap.Clos ++ ([(⟨a0.node, a0.env⟩ : impl_Clo)] : List impl_Clo)).length : Int) - 1))⟩ : impl_Val)).bind fun y17 => (some y17))) else (if x1.Kind = 6 then ((impl_machine_cell.f K a0 a0.node 0 (⟨1, (a0.Heap.Clos.length : Int)⟩ : impl_Val) a0.env).bind fun (y20, y21) => (gd ((y21.Heap.Clos.length + 1) * 16 ≤ 140737488355328) ((impl_machine_pass.f K (⟨(⟨y21.Heap.Envs, (y21.Heap.Clos ++ ([(⟨a0.node, y20⟩ : impl_Clo)] : List impl_Clo)), y21.Heap.Twos, y21.Heap.Refs⟩ : impl_Heap), y21.l, y21.uses, y21.do_, y21.node, y21.env, y21.v_, y21.frames, y21.events, y21.stuck⟩ : impl_machine) a0.node).bind fun y23 => ((impl_machine_look.f K y23 x1.B y20).bind fun y25 => (some y25))))) else ((impl_machine_push.f K a0 (⟨1, a0.node, a0.env, (⟨0, 0⟩ : impl_Val)⟩ : impl_frame)).bind fun y27 => ((impl_machine_look.f K y27 x1.A y27.env).bind fun y29 => (some y29))))))))
theorem impl_machine_looks.ev   {K : Nat} {a0 : impl_machine} {r : impl_machine} (h : impl_machine_looks.f  K a0 = some r) : E 65 [(.ptr a0.q)] = some ([], [(.ptr r.q)]) := by
  refine Ev_intro (fn := Tryz.f65) rfl (by kernel_rfl) (c := _) rfl ⟨rfl, by simp⟩ (vs := [(.ptr 145 0 1 0)]) (h0 := ((((((((Hp.nil.put 145 1000 (1, (some (.row true true 5 (a0.Heap.Envs.map impl_EnvCell.e))))).put 145 1001 (1, (some (.row true true 2 (a0.Heap.Clos.map impl_Clo.e))))).put 145 1002 (1, (some (.row true true 4 (a0.Heap.Twos.map impl_Two.e))))).put 145 1003 (1, (some (.row true true 2 (a0.Heap.Refs.map impl_Val.e))))).put 145 1005 (1, (some (.row true true 2 (a0.uses.map impl_Bind.e))))).put 145 1011 (1, (some (.row true true 5 (a0.frames.map impl_frame.e))))).put 145 1012 (1, (some (.row true true 3 (a0.events.map impl_Event.e))))).put 145 0 (1, (some (.box [(.own 145 1000 1), (.own 145 1001 1), (.own 145 1002 1), (.own 145 1003 1), (.d (.l true 7 (a0.l.map impl_Node.e))), (.own 145 1005 1), (.d (.p (.int .i64 a0.do_))), (.d (.p (.int .i64 a0.node))), (.d (.p (.int .i64 a0.env))), (.d (.p (.int .i64 a0.v_.Kind))), (.d (.p (.int .i64 a0.v_.N))), (.own 145 1011 1), (.own 145 1012 1), (.d (.p (.bool a0.stuck)))]))))) (by kernel_rfl) (evP_spec _ ?_)
  unfold impl_machine_looks.f at h
  refine goR ?_
  refine ⟨[[], [12, 13, 14, 16, 17, 18, 19, 20, 3], [12, 13, 14, 16, 17, 18, 19, 20, 3], [12, 13, 14, 16, 17, 18, 19, 20, 3], [], [8, 9, 10, 16, 17, 18, 3, 2], [8, 9, 10, 16, 17, 18, 3, 2], [8, 9, 10, 16, 17, 18, 3, 2], [], [8, 9, 10, 12, 13, 14, 3, 2], [8, 9, 10, 12, 13, 14, 3, 2], [8, 9, 10, 12, 13, 14, 3, 2], [8, 9, 10, 3, 2], [8, 9, 10, 3, 2], [8, 9, 10, 12, 13, 14, 16, 17, 18, 19, 20], [12, 999999, 0, 125, 145, 160, 13, 999999, 0, 125, 145, 160, 14, 999999, 0, 125, 145, 160, 16, 999999, 0, 125, 145, 160, 17, 999999, 0, 125, 145, 160, 18, 999999, 0, 125, 145, 160, 19, 999999, 14, 18, 20, 999999, 14], []], [[], [], [], [], [], [999999, 0, 125, 145, 160], [999999, 0, 125, 145, 160], [999999, 0, 125, 145, 160], [], [999999, 0, 125, 145, 160], [999999, 0, 125, 145, 160], [999999, 0, 125, 145, 160], [999999, 14, 18], [999999, 14], [], [], []], by kernel_rfl, ?_⟩
  refine bindG h fun x1 hx1 h => ?_
  refine anM (at_ix rfl hx1) ?_
  refine exM (impl_Node.e x1) (at_get rfl hx1) ?_
  refine Re.mk 145 [(0, (.ptr 145 0 1 0)), (2, (.d (.p (.int .i64 a0.node)))), (3, (.ptr 3 0 2 0))] [(3, 0, 2, (some (.box [(.d (.p (.int .i64 x1.Kind))), (.d (.p (.int .i64 x1.A))), (.d (.p (.int .i64 x1.B))), (.d (.p (.int .i64 x1.C))), (.d (.p (.int .i64 x1.N))), (.d (.p (.string x1.Name))), (.d (.p (.string x1.Other)))]))), (145, 0, 1, (some (.box [(.own 145 1000 2), (.own 145 1001 2), (.own 145 1002 2), (.own 145 1003 2), (.d (.l true 7 (a0.l.map impl_Node.e))), (.own 145 1005 2), (.d (.p (.int .i64 a0.do_))), (.d (.p (.int .i64 a0.node))), (.d (.p (.int .i64 a0.env))), (.d (.p (.int .i64 a0.v_.Kind))), (.d (.p (.int .i64 a0.v_.N))), (.own 145 1011 2), (.own 145 1012 2), (.d (.p (.bool a0.stuck)))]))), (145, 1000, 2, (some (.row true true 5 (a0.Heap.Envs.map impl_EnvCell.e)))), (145, 1001, 2, (some (.row true true 2 (a0.Heap.Clos.map impl_Clo.e)))), (145, 1002, 2, (some (.row true true 4 (a0.Heap.Twos.map impl_Two.e)))), (145, 1003, 2, (some (.row true true 2 (a0.Heap.Refs.map impl_Val.e)))), (145, 1005, 2, (some (.row true true 2 (a0.uses.map impl_Bind.e)))), (145, 1011, 2, (some (.row true true 5 (a0.frames.map impl_frame.e)))), (145, 1012, 2, (some (.row true true 3 (a0.events.map impl_Event.e))))] (by exact ⟨rfl, ⟨(by kernel_rfl), (by kernel_rfl), (by kernel_rfl), trivial⟩, ⟨(by kernel_rfl), (by kernel_rfl), (by kernel_rfl), (by kernel_rfl), (by kernel_rfl), (by kernel_rfl), (by kernel_rfl), (by kernel_rfl), (by kernel_rfl), trivial⟩⟩) ?_
  intro e hp
  try ((with_reducible apply cdX); exact rfl)
  refine iteF h (fun c2 h => ?_) (fun c2 h => ?_)
  · refine bindG h fun y3 hy4 h => ?_
    refine exM ([], [(.ptr y3.q)]) ?_ ?_
    · exact impl_machine_done.ev hy4
    exact retE (enc := impl_machine_looks.enc) h (by kernel_rfl)
  · try ((with_reducible apply cdX); exact rfl)
    refine iteF h (fun c5 h => ?_) (fun c5 h => ?_)
    · refine bindG h fun y6 hy7 h => ?_
      refine exM ([], [(.ptr y6.q)]) ?_ ?_
      · exact impl_machine_done.ev hy7
      exact retE (enc := impl_machine_looks.enc) h (by kernel_rfl)
    · try ((with_reducible apply cdX); exact rfl)
      refine iteF h (fun c8 h => ?_) (fun c8 h => ?_)
      · refine goR ?_
        refine ⟨[[], [60, 61, 62, 64, 65, 66, 68, 69, 4], [60, 61, 62, 64, 65, 66, 68, 69, 4], [], [57, 58, 64, 65, 66, 68, 69, 4], [57, 58, 64, 65, 66, 68, 69, 4], [57, 58, 64, 65, 66, 68, 69, 4], [], [57, 58, 60, 61, 62, 4], [57, 58, 60, 61, 62, 4], [57, 58, 60, 61, 62, 4], [], [57, 58, 60, 61, 62, 4], [57, 58, 60, 61, 62, 4], [4], [], [], [], [57, 58, 60, 61, 62, 64, 65, 66, 68, 69, 70], [], []], [], by kernel_rfl, ?_⟩
        refine bindG h fun x9 hx9 h => ?_
        refine anM (at_ix rfl hx9) ?_
        refine exM (impl_Bind.e x9) (at_get rfl hx9) ?_
        refine bindG h ?_
        rintro ⟨y10, y11, y12⟩ hy13 h
        refine exM ([(.agg (y10.e.map .d)), (.d (.p (.bool y11)))], [(.ptr y12.q)]) ?_ ?_
        · exact impl_Heap_lookUp.ev hy13
        refine Re.mk 145 [(0, (.ptr 145 0 1 0)), (2, (.d (.p (.int .i64 a0.node)))), (4, (.ptr 4 0 2 0))] [(4, 0, 2, (some (.box [(.d (.p (.int .i64 y10.Kind))), (.d (.p (.int .i64 y10.N)))]))), (145, 0, 1, (some (.box [(.own 145 1000 2), (.own 145 1001 2), (.own 145 1002 2), (.own 145 1003 2), (.d (.l true 7 (a0.l.map impl_Node.e))), (.own 145 1005 2), (.d (.p (.int .i64 a0.do_))), (.d (.p (.int .i64 a0.node))), (.d (.p (.int .i64 a0.env))), (.d (.p (.int .i64 a0.v_.Kind))), (.d (.p (.int .i64 a0.v_.N))), (.own 145 1011 2), (.own 145 1012 2), (.d (.p (.bool a0.stuck)))]))), (145, 1000, 2, (some (.row true true 5 (y12.Envs.map impl_EnvCell.e)))), (145, 1001, 2, (some (.row true true 2 (y12.Clos.map impl_Clo.e)))), (145, 1002, 2, (some (.row true true 4 (y12.Twos.map impl_Two.e)))), (145, 1003, 2, (some (.row true true 2 (y12.Refs.map impl_Val.e)))), (145, 1005, 2, (some (.row true true 2 (a0.uses.map impl_Bind.e)))), (145, 1011, 2, (some (.row true true 5 (a0.frames.map impl_frame.e)))), (145, 1012, 2, (some (.row true true 3 (a0.events.map impl_Event.e))))] (by exact ⟨rfl, ⟨(by kernel_rfl), (by kernel_rfl), (by kernel_rfl), trivial⟩, ⟨(by kernel_rfl), (by kernel_rfl), (by kernel_rfl), (by kernel_rfl), (by kernel_rfl), (by kernel_rfl), (by kernel_rfl), (by kernel_rfl), (by kernel_rfl), trivial⟩⟩) ?_
        intro e hp
        refine bindG h fun y14 hy15 h => ?_
        refine exM ([], [(.ptr y14.q)]) ?_ ?_
        · exact impl_machine_done.ev hy15
        exact retE (enc := impl_machine_looks.enc) h (by kernel_rfl)
      · try ((with_reducible apply cdX); exact rfl)
        refine iteF h (fun c16 h => ?_) (fun c16 h => ?_)
        · refine goR ?_
          refine ⟨[[], [], [87, 88, 89, 91], [87, 88, 89, 91], [87, 88, 89, 91], [87, 88, 89, 91], [], [], [81, 82, 83, 84], [81, 82, 83, 84], [81, 82, 83, 84], [], [81, 82, 83, 84], [], [], [], [], []], [], by kernel_rfl, ?_⟩
          refine eqM (([(⟨a0.node, a0.env⟩ : impl_Clo)] : List impl_Clo).map impl_Clo.e) rfl ?_
          refine gdG h fun hc h => ?_
          refine anM (apB hc) ?_
          refine eqM ((a0.Heap.Clos ++ ([(⟨a0.node, a0.env⟩ : impl_Clo)] : List impl_Clo)).map impl_Clo.e) (mApp rfl rfl) ?_
          refine Re.mk 145 [(0, (.ptr 145 0 1 0)), (2, (.d (.p (.int .i64 a0.node))))] [(145, 0, 1, (some (.box [(.own 145 1000 2), (.own 145 1001 2), (.own 145 1002 2), (.own 145 1003 2), (.d (.l true 7 (a0.l.map impl_Node.e))), (.own 145 1005 2), (.d (.p (.int .i64 a0.do_))), (.d (.p (.int .i64 a0.node))), (.d (.p (.int .i64 a0.env))), (.d (.p (.int .i64 a0.v_.Kind))), (.d (.p (.int .i64 a0.v_.N))), (.own 145 1011 2), (.own 145 1012 2), (.d (.p (.bool a0.stuck)))]))), (145, 1000, 2, (some (.row true true 5 (a0.Heap.Envs.map impl_EnvCell.e)))), (145, 1001, 2, (some (.row true true 2 ((a0.Heap.Clos ++ ([(⟨a0.node, a0.env⟩ : impl_Clo)] : List impl_Clo)).map impl_Clo.e)))), (145, 1002, 2, (some (.row true true 4 (a0.Heap.Twos.map impl_Two.e)))), (145, 1003, 2, (some (.row true true 2 (a0.Heap.Refs.map impl_Val.e)))), (145, 1005, 2, (some (.row true true 2 (a0.uses.map impl_Bind.e)))), (145, 1011, 2, (some (.row true true 5 (a0.frames.map impl_frame.e)))), (145, 1012, 2, (some (.row true true 3 (a0.events.map impl_Event.e))))] (by exact ⟨rfl, ⟨(by kernel_rfl), (by kernel_rfl), trivial⟩, ⟨(by kernel_rfl), (by kernel_rfl), (by kernel_rfl), (by kernel_rfl), (by kernel_rfl), (by kernel_rfl), (by kernel_rfl), (by kernel_rfl), trivial⟩⟩) ?_
          intro e hp
          refine eqM (((a0.Heap.Clos ++ ([(⟨a0.node, a0.env⟩ : impl_Clo)] : List impl_Clo)).length : Int) : Int) (mLen rfl) ?_
          refine bindG h fun y17 hy18 h => ?_
          refine exM ([], [(.ptr y17.q)]) ?_ ?_
          · exact impl_machine_done.ev hy18
          exact retE (enc := impl_machine_looks.enc) h (by kernel_rfl)
        · try ((with_reducible apply cdX); exact rfl)
          refine iteF h (fun c19 h => ?_) (fun c19 h => ?_)
          · refine ⟨[[], [], [], [119, 120, 121], [119, 120, 121], [119, 120, 121], [119, 120, 121], [119, 120, 121], [], [], [112, 113, 114, 115, 116], [112, 113, 114, 115, 116], [112, 113, 114, 115, 116], [], []], [], by kernel_rfl, ?_⟩
            refine eqM ((a0.Heap.Clos.length : Int) : Int) (mLen rfl) ?_
            refine bindG h ?_
            rintro ⟨y20, y21⟩ hy22 h
            refine exM ([(.d (.p (.int .i64 y20)))], [(.ptr y21.q)]) ?_ ?_
            · exact impl_machine_cell.ev hy22
            refine goR ?_
            refine eqM (([(⟨a0.node, y20⟩ : impl_Clo)] : List impl_Clo).map impl_Clo.e) rfl ?_
            refine gdG h fun hc h => ?_
            refine anM (apB hc) ?_
            refine eqM ((y21.Heap.Clos ++ ([(⟨a0.node, y20⟩ : impl_Clo)] : List impl_Clo)).map impl_Clo.e) (mApp rfl rfl) ?_
            refine Re.mk 145 [(0, (.ptr 145 0 1 0)), (2, (.d (.p (.int .i64 a0.node)))), (3, (.ptr 3 0 2 0)), (6, (.d (.p (.int .i64 y20))))] [(3, 0, 2, (some (.box [(.d (.p (.int .i64 x1.Kind))), (.d (.p (.int .i64 x1.A))), (.d (.p (.int .i64 x1.B))), (.d (.p (.int .i64 x1.C))), (.d (.p (.int .i64 x1.N))), (.d (.p (.string x1.Name))), (.d (.p (.string x1.Other)))]))), (145, 0, 1, (some (.box [(.own 145 1000 2), (.own 145 1001 2), (.own 145 1002 2), (.own 145 1003 2), (.d (.l true 7 (y21.l.map impl_Node.e))), (.own 145 1005 2), (.d (.p (.int .i64 y21.do_))), (.d (.p (.int .i64 y21.node))), (.d (.p (.int .i64 y21.env))), (.d (.p (.int .i64 y21.v_.Kind))), (.d (.p (.int .i64 y21.v_.N))), (.own 145 1011 2), (.own 145 1012 2), (.d (.p (.bool y21.stuck)))]))), (145, 1000, 2, (some (.row true true 5 (y21.Heap.Envs.map impl_EnvCell.e)))), (145, 1001, 2, (some (.row true true 2 ((y21.Heap.Clos ++ ([(⟨a0.node, y20⟩ : impl_Clo)] : List impl_Clo)).map impl_Clo.e)))), (145, 1002, 2, (some (.row true true 4 (y21.Heap.Twos.map impl_Two.e)))), (145, 1003, 2, (some (.row true true 2 (y21.Heap.Refs.map impl_Val.e)))), (145, 1005, 2, (some (.row true true 2 (y21.uses.map impl_Bind.e)))), (145, 1011, 2, (some (.row true true 5 (y21.frames.map impl_frame.e)))), (145, 1012, 2, (some (.row true true 3 (y21.events.map impl_Event.e))))] (by exact ⟨rfl, ⟨(by kernel_rfl), (by kernel_rfl), (by kernel_rfl), (by kernel_rfl), trivial⟩, ⟨(by kernel_rfl), (by kernel_rfl), (by kernel_rfl), (by kernel_rfl), (by kernel_rfl), (by kernel_rfl), (by kernel_rfl), (by kernel_rfl), (by kernel_rfl), trivial⟩⟩) ?_
            intro e hp
            refine bindG h fun y23 hy24 h => ?_
            refine exM ([], [(.ptr y23.q)]) ?_ ?_
            · exact impl_machine_pass.ev hy24
            refine bindG h fun y25 hy26 h => ?_
            refine exM ([], [(.ptr y25.q)]) ?_ ?_
            · exact impl_machine_look.ev hy26
            exact retE (enc := impl_machine_looks.enc) h (by kernel_rfl)
          · refine bindG h fun y27 hy28 h => ?_
            refine exM ([], [(.ptr y27.q)]) ?_ ?_
            · exact impl_machine_push.ev hy28
            refine ⟨[[], [35, 36, 37], [35, 36, 37], [], [32, 33], [32, 33], [32, 33], []], [], by kernel_rfl, ?_⟩
            refine bindG h fun y29 hy30 h => ?_
            refine exM ([], [(.ptr y29.q)]) ?_ ?_
            · exact impl_machine_look.ev hy30
            exact retE (enc := impl_machine_looks.enc) h (by kernel_rfl)
def impl_isList.enc (r : Bool) : Res := ([(.d (.p (.bool r)))], [])
def impl_isList.f  (K : Nat) (a0 : impl_Val) : Option (Bool) := if a0.Kind = 2 then (some true) else (some (decide (a0.Kind = 4)))
theorem impl_isList.ev   {K : Nat} {a0 : impl_Val} {r : Bool} (h : impl_isList.f  K a0 = some r) : E 95 [(.agg (a0.e.map .d))] = some ([(.d (.p (.bool r)))], []) := by
  refine Ev_intro (fn := Tryz.f95) rfl (by kernel_rfl) (c := _) rfl ⟨rfl, by simp⟩ rfl (evP_spec _ ?_)
  unfold impl_isList.f at h
  refine goS ?_
  try ((with_reducible apply cdX); exact rfl)
  refine iteF h (fun c1 h => ?_) (fun c1 h => ?_)
  · refine Ask.T rfl ?_
    refine Ask.T rfl ?_
    refine Ask.T rfl ?_
    exact retE (enc := impl_isList.enc) h rfl
  · refine Ask.F rfl ?_
    refine Ask.F rfl ?_
    refine Ask.F rfl ?_
    exact retE (enc := impl_isList.enc) h rfl
def impl_machine_match.enc (r : impl_machine) : Res := ([], [(.ptr r.q)])
def impl_machine_match.f  (K : Nat) (a0 : impl_machine) (a1 : impl_frame) (a2 : impl_Node) (a3 : impl_Val) : Option (impl_machine) := (impl_machine_pass.f K a0 a1.node).bind fun y1 => (if a3.Kind = 2 then ((impl_machine_look.f K y1 a2.B a1.env).bind fun y4 => (some y4)) else ((at_ y1.Heap.Twos a3.N).bind fun x6 => ((impl_machine_cell.f K y1 a1.node 0 x6.A a1.env).bind fun (y7, y8) => ((at_ y8.Heap.Twos a3.N).bind fun x10 => ((impl_machine_cell.f K y8 a1.node 1 x10.B y7).bind fun (y11, y12) => ((impl_machine_look.f K y12 a2.C y11).bind fun y14 => (some y14)))))))
theorem impl_machine_match.ev   {K : Nat} {a0 : impl_machine} {a1 : impl_frame} {a2 : impl_Node} {a3 : impl_Val} {r : impl_machine} (h : impl_machine_match.f  K a0 a1 a2 a3 = some r) : E 96 [(.ptr a0.q), (.agg (a1.e.map .d)), (.agg (a2.e.map .d)), (.agg (a3.e.map .d))] = some ([], [(.ptr r.q)]) := by
  refine Ev_intro (fn := Tryz.f96) rfl (by kernel_rfl) (c := _) rfl ⟨rfl, by simp⟩ (vs := [(.ptr 58 0 1 0), (.agg [(.d (.p (.int .i64 a1.wait))), (.d (.p (.int .i64 a1.node))), (.d (.p (.int .i64 a1.env))), (.d (.p (.int .i64 a1.v_.Kind))), (.d (.p (.int .i64 a1.v_.N)))]), (.agg [(.d (.p (.int .i64 a2.Kind))), (.d (.p (.int .i64 a2.A))), (.d (.p (.int .i64 a2.B))), (.d (.p (.int .i64 a2.C))), (.d (.p (.int .i64 a2.N))), (.d (.p (.string a2.Name))), (.d (.p (.string a2.Other)))]), (.agg [(.d (.p (.int .i64 a3.Kind))), (.d (.p (.int .i64 a3.N)))])]) (h0 := ((((((((Hp.nil.put 58 1000 (1, (some (.row true true 5 (a0.Heap.Envs.map impl_EnvCell.e))))).put 58 1001 (1, (some (.row true true 2 (a0.Heap.Clos.map impl_Clo.e))))).put 58 1002 (1, (some (.row true true 4 (a0.Heap.Twos.map impl_Two.e))))).put 58 1003 (1, (some (.row true true 2 (a0.Heap.Refs.map impl_Val.e))))).put 58 1005 (1, (some (.row true true 2 (a0.uses.map impl_Bind.e))))).put 58 1011 (1, (some (.row true true 5 (a0.frames.map impl_frame.e))))).put 58 1012 (1, (some (.row true true 3 (a0.events.map impl_Event.e))))).put 58 0 (1, (some (.box [(.own 58 1000 1), (.own 58 1001 1), (.own 58 1002 1), (.own 58 1003 1), (.d (.l true 7 (a0.l.map impl_Node.e))), (.own 58 1005 1), (.d (.p (.int .i64 a0.do_))), (.d (.p (.int .i64 a0.node))), (.d (.p (.int .i64 a0.env))), (.d (.p (.int .i64 a0.v_.Kind))), (.d (.p (.int .i64 a0.v_.N))), (.own 58 1011 1), (.own 58 1012 1), (.d (.p (.bool a0.stuck)))]))))) (by kernel_rfl) (evP_spec _ ?_)
  unfold impl_machine_match.f at h
  refine bindG h fun y1 hy2 h => ?_
  refine exM ([], [(.ptr y1.q)]) ?_ ?_
  · exact impl_machine_pass.ev hy2
  refine goS ?_
  try ((with_reducible apply cdX); exact rfl)
  refine iteF h (fun c3 h => ?_) (fun c3 h => ?_)
  · refine bindG h fun y4 hy5 h => ?_
    refine exM ([], [(.ptr y4.q)]) ?_ ?_
    · exact impl_machine_look.ev hy5
    exact retE (enc := impl_machine_match.enc) h (by kernel_rfl)
  · refine ⟨[[], [26, 27, 28, 29, 30, 31, 32, 33, 34, 35, 36], [26, 27, 28, 29, 30, 31, 32, 33, 34, 35, 36], [], [23, 24, 30, 31, 35, 36], [23, 24, 30, 31, 35, 36], [23, 24, 30, 31, 35, 36], [23, 24, 30, 31, 35, 36], [23, 24, 26, 27, 28, 29, 35, 36], [23, 24, 26, 27, 28, 29, 35, 36], [23, 24, 35, 36], [23, 24, 35, 36], [23, 24, 35, 36], [23, 24, 26, 27, 28, 29, 30, 31, 32, 33, 34], [23, 24, 26, 27, 28, 29, 30, 31, 32, 33, 34], [], []], [], by kernel_rfl, ?_⟩
    refine bindG h fun x6 hx6 h => ?_
    refine anM (at_ix rfl hx6) ?_
    refine anM (at_lt rfl hx6) ?_
    refine exM (impl_Two.e x6) (at_get rfl hx6) ?_
    refine bindG h ?_
    rintro ⟨y7, y8⟩ hy9 h
    refine exM ([(.d (.p (.int .i64 y7)))], [(.ptr y8.q)]) ?_ ?_
    · exact impl_machine_cell.ev hy9
    refine ⟨[[], [42, 43, 44, 45, 46, 47, 48, 49, 50], [42, 43, 44, 45, 46, 47, 48, 49, 50], [], [39, 40, 46, 47], [39, 40, 46, 47], [39, 40, 46, 47], [39, 40, 46, 47], [39, 40, 42, 43, 44, 45], [39, 40, 42, 43, 44, 45], [39, 40], [39, 40], [39, 40], [], [], []], [], by kernel_rfl, ?_⟩
    refine bindG h fun x10 hx10 h => ?_
    refine anM (at_ix rfl hx10) ?_
    refine anM (at_lt rfl hx10) ?_
    refine exM (impl_Two.e x10) (at_get rfl hx10) ?_
    refine bindG h ?_
    rintro ⟨y11, y12⟩ hy13 h
    refine exM ([(.d (.p (.int .i64 y11)))], [(.ptr y12.q)]) ?_ ?_
    · exact impl_machine_cell.ev hy13
    refine bindG h fun y14 hy15 h => ?_
    refine exM ([], [(.ptr y14.q)]) ?_ ?_
    · exact impl_machine_look.ev hy15
    exact retE (enc := impl_machine_match.enc) h (by kernel_rfl)
def impl_machine_take.enc (r : impl_machine) : Res := ([], [(.ptr r.q)])
def impl_machine_take.f  (K : Nat) (a0 : impl_machine) (a1 : impl_frame) (a2 : impl_Node) (a3 : impl_Val) : Option (impl_machine) := jn (fun (v1 : Bool) => if v1 = true then ((at_ a0.Heap.Twos a3.N).bind fun x4 => ((impl_machine_done.f K a0 a1.node x4.A).bind fun y5 => (some y5))) else (jn (fun (v7 : Bool) => if v7 = true then ((at_ a0.Heap.Twos a3.N).bind fun x10 => ((impl_machine_done.f K a0 a1.node x10.B).bind fun y11 => (some y11))) else (jn (fun (v13 : Bool) => if v13 = true then ((at_ a0.Heap.Refs a3.N).bind fun x16 => ((impl_machine_done.f K a0 a1.node x16).bind fun y17 => (some y17))) else (jn (fun (v19 : Bool) => if v19 = true then (some (⟨a0.Heap, a0.l, a0.uses, 2, a0.node, a0.env, a0.v_, a0.frames, a0.events, a0.stuck⟩ : impl_machine)) else (some (⟨a0.Heap, a0.l, a0.uses, a0.do_, a0.node, a0.env, a0.v_, a0.frames, a0.events, true⟩ : impl_machine))) (fun j => if a2.Kind = 18 then (j (decide (a3.Kind = 0))) else (j false)))) (fun j => if a2.Kind = 16 then (j (decide (a3.Kind = 5))) else (j false)))) (fun j => if a2.Kind = 11 then (j (decide (a3.Kind = 3))) else (j false)))) (fun j => if a2.Kind = 10 then (j (decide (a3.Kind = 3))) else (j false))
theorem impl_machine_take.ev   {K : Nat} {a0 : impl_machine} {a1 : impl_frame} {a2 : impl_Node} {a3 : impl_Val} {r : impl_machine} (h : impl_machine_take.f  K a0 a1 a2 a3 = some r) : E 97 [(.ptr a0.q), (.agg (a1.e.map .d)), (.agg (a2.e.map .d)), (.agg (a3.e.map .d))] = some ([], [(.ptr r.q)]) := by
  refine Ev_intro (fn := Tryz.f97) rfl (by kernel_rfl) (c := _) rfl ⟨rfl, by simp⟩ (vs := [(.ptr 91 0 1 0), (.agg [(.d (.p (.int .i64 a1.wait))), (.d (.p (.int .i64 a1.node))), (.d (.p (.int .i64 a1.env))), (.d (.p (.int .i64 a1.v_.Kind))), (.d (.p (.int .i64 a1.v_.N)))]), (.agg [(.d (.p (.int .i64 a2.Kind))), (.d (.p (.int .i64 a2.A))), (.d (.p (.int .i64 a2.B))), (.d (.p (.int .i64 a2.C))), (.d (.p (.int .i64 a2.N))), (.d (.p (.string a2.Name))), (.d (.p (.string a2.Other)))]), (.agg [(.d (.p (.int .i64 a3.Kind))), (.d (.p (.int .i64 a3.N)))])]) (h0 := ((((((((Hp.nil.put 91 1000 (1, (some (.row true true 5 (a0.Heap.Envs.map impl_EnvCell.e))))).put 91 1001 (1, (some (.row true true 2 (a0.Heap.Clos.map impl_Clo.e))))).put 91 1002 (1, (some (.row true true 4 (a0.Heap.Twos.map impl_Two.e))))).put 91 1003 (1, (some (.row true true 2 (a0.Heap.Refs.map impl_Val.e))))).put 91 1005 (1, (some (.row true true 2 (a0.uses.map impl_Bind.e))))).put 91 1011 (1, (some (.row true true 5 (a0.frames.map impl_frame.e))))).put 91 1012 (1, (some (.row true true 3 (a0.events.map impl_Event.e))))).put 91 0 (1, (some (.box [(.own 91 1000 1), (.own 91 1001 1), (.own 91 1002 1), (.own 91 1003 1), (.d (.l true 7 (a0.l.map impl_Node.e))), (.own 91 1005 1), (.d (.p (.int .i64 a0.do_))), (.d (.p (.int .i64 a0.node))), (.d (.p (.int .i64 a0.env))), (.d (.p (.int .i64 a0.v_.Kind))), (.d (.p (.int .i64 a0.v_.N))), (.own 91 1011 1), (.own 91 1012 1), (.d (.p (.bool a0.stuck)))]))))) (by kernel_rfl) (evP_spec _ ?_)
  unfold impl_machine_take.f at h
  refine seqJ h 91 (fun x => [(0, (.ptr 91 0 1 0)), (5, (.ptr 5 0 2 0)), (6, (.ptr 6 0 2 0)), (7, (.ptr 7 0 2 0)), (11, (.d (.p (.bool x))))]) (fun x => [(5, 0, 2, (some (.box [(.d (.p (.int .i64 a1.wait))), (.d (.p (.int .i64 a1.node))), (.d (.p (.int .i64 a1.env))), (.d (.p (.int .i64 a1.v_.Kind))), (.d (.p (.int .i64 a1.v_.N)))]))), (6, 0, 2, (some (.box [(.d (.p (.int .i64 a2.Kind))), (.d (.p (.int .i64 a2.A))), (.d (.p (.int .i64 a2.B))), (.d (.p (.int .i64 a2.C))), (.d (.p (.int .i64 a2.N))), (.d (.p (.string a2.Name))), (.d (.p (.string a2.Other)))]))), (7, 0, 2, (some (.box [(.d (.p (.int .i64 a3.Kind))), (.d (.p (.int .i64 a3.N)))]))), (91, 0, 1, (some (.box [(.own 91 1000 2), (.own 91 1001 2), (.own 91 1002 2), (.own 91 1003 2), (.d (.l true 7 (a0.l.map impl_Node.e))), (.own 91 1005 2), (.d (.p (.int .i64 a0.do_))), (.d (.p (.int .i64 a0.node))), (.d (.p (.int .i64 a0.env))), (.d (.p (.int .i64 a0.v_.Kind))), (.d (.p (.int .i64 a0.v_.N))), (.own 91 1011 2), (.own 91 1012 2), (.d (.p (.bool a0.stuck)))]))), (91, 1000, 2, (some (.row true true 5 (a0.Heap.Envs.map impl_EnvCell.e)))), (91, 1001, 2, (some (.row true true 2 (a0.Heap.Clos.map impl_Clo.e)))), (91, 1002, 2, (some (.row true true 4 (a0.Heap.Twos.map impl_Two.e)))), (91, 1003, 2, (some (.row true true 2 (a0.Heap.Refs.map impl_Val.e)))), (91, 1005, 2, (some (.row true true 2 (a0.uses.map impl_Bind.e)))), (91, 1011, 2, (some (.row true true 5 (a0.frames.map impl_frame.e)))), (91, 1012, 2, (some (.row true true 3 (a0.events.map impl_Event.e))))]) (fun J h => ?_) ?_
  · try ((with_reducible apply cdX); exact rfl)
    refine iteF h (fun c2 h => ?_) (fun c2 h => ?_)
    · refine Ask.T rfl ?_
      refine Ask.T rfl ?_
      refine Ask.T rfl ?_
      exact ⟨(decide (a3.Kind = 3)), h, ⟨rfl, ⟨(by kernel_rfl), (by kernel_rfl), (by kernel_rfl), (by kernel_rfl), (by kernel_rfl), trivial⟩, ⟨(by kernel_rfl), (by kernel_rfl), (by kernel_rfl), (by kernel_rfl), (by kernel_rfl), (by kernel_rfl), (by kernel_rfl), (by kernel_rfl), (by kernel_rfl), (by kernel_rfl), (by kernel_rfl), trivial⟩⟩⟩
    · refine Ask.F rfl ?_
      refine Ask.F rfl ?_
      refine Ask.F rfl ?_
      exact ⟨false, h, ⟨rfl, ⟨(by kernel_rfl), (by kernel_rfl), (by kernel_rfl), (by kernel_rfl), (by kernel_rfl), trivial⟩, ⟨(by kernel_rfl), (by kernel_rfl), (by kernel_rfl), (by kernel_rfl), (by kernel_rfl), (by kernel_rfl), (by kernel_rfl), (by kernel_rfl), (by kernel_rfl), (by kernel_rfl), (by kernel_rfl), trivial⟩⟩⟩
  · rintro v1 h e hp
    try ((with_reducible apply cdX); exact rfl)
    refine ifB h (fun c3 h => ?_) (fun c3 h => ?_)
    · refine ⟨[[], [24, 25, 26, 27, 28, 29, 30, 31, 32], [24, 25, 26, 27, 28, 29, 30, 31, 32], [], [21, 22, 28, 29], [21, 22, 28, 29], [21, 22, 28, 29], [21, 22, 28, 29], [21, 22, 24, 25, 26, 27], [21, 22, 24, 25, 26, 27], [21, 22], [21, 22], [21, 22], []], [], by kernel_rfl, ?_⟩
      refine bindG h fun x4 hx4 h => ?_
      refine anM (at_ix rfl hx4) ?_
      refine anM (at_lt rfl hx4) ?_
      refine exM (impl_Two.e x4) (at_get rfl hx4) ?_
      refine bindG h fun y5 hy6 h => ?_
      refine exM ([], [(.ptr y5.q)]) ?_ ?_
      · exact impl_machine_done.ev hy6
      exact retE (enc := impl_machine_take.enc) h (by kernel_rfl)
    · refine seqJ h 91 (fun x => [(0, (.ptr 91 0 1 0)), (5, (.ptr 5 0 2 0)), (6, (.ptr 6 0 2 0)), (7, (.ptr 7 0 2 0)), (34, (.d (.p (.bool x))))]) (fun x => [(5, 0, 2, (some (.box [(.d (.p (.int .i64 a1.wait))), (.d (.p (.int .i64 a1.node))), (.d (.p (.int .i64 a1.env))), (.d (.p (.int .i64 a1.v_.Kind))), (.d (.p (.int .i64 a1.v_.N)))]))), (6, 0, 2, (some (.box [(.d (.p (.int .i64 a2.Kind))), (.d (.p (.int .i64 a2.A))), (.d (.p (.int .i64 a2.B))), (.d (.p (.int .i64 a2.C))), (.d (.p (.int .i64 a2.N))), (.d (.p (.string a2.Name))), (.d (.p (.string a2.Other)))]))), (7, 0, 2, (some (.box [(.d (.p (.int .i64 a3.Kind))), (.d (.p (.int .i64 a3.N)))]))), (91, 0, 1, (some (.box [(.own 91 1000 2), (.own 91 1001 2), (.own 91 1002 2), (.own 91 1003 2), (.d (.l true 7 (a0.l.map impl_Node.e))), (.own 91 1005 2), (.d (.p (.int .i64 a0.do_))), (.d (.p (.int .i64 a0.node))), (.d (.p (.int .i64 a0.env))), (.d (.p (.int .i64 a0.v_.Kind))), (.d (.p (.int .i64 a0.v_.N))), (.own 91 1011 2), (.own 91 1012 2), (.d (.p (.bool a0.stuck)))]))), (91, 1000, 2, (some (.row true true 5 (a0.Heap.Envs.map impl_EnvCell.e)))), (91, 1001, 2, (some (.row true true 2 (a0.Heap.Clos.map impl_Clo.e)))), (91, 1002, 2, (some (.row true true 4 (a0.Heap.Twos.map impl_Two.e)))), (91, 1003, 2, (some (.row true true 2 (a0.Heap.Refs.map impl_Val.e)))), (91, 1005, 2, (some (.row true true 2 (a0.uses.map impl_Bind.e)))), (91, 1011, 2, (some (.row true true 5 (a0.frames.map impl_frame.e)))), (91, 1012, 2, (some (.row true true 3 (a0.events.map impl_Event.e))))]) (fun J h => ?_) ?_
      · try ((with_reducible apply cdX); exact rfl)
        refine iteF h (fun c8 h => ?_) (fun c8 h => ?_)
        · refine Ask.T rfl ?_
          refine Ask.T rfl ?_
          refine Ask.T rfl ?_
          exact ⟨(decide (a3.Kind = 3)), h, ⟨rfl, ⟨(by kernel_rfl), (by kernel_rfl), (by kernel_rfl), (by kernel_rfl), (by kernel_rfl), trivial⟩, ⟨(by kernel_rfl), (by kernel_rfl), (by kernel_rfl), (by kernel_rfl), (by kernel_rfl), (by kernel_rfl), (by kernel_rfl), (by kernel_rfl), (by kernel_rfl), (by kernel_rfl), (by kernel_rfl), trivial⟩⟩⟩
        · refine Ask.F rfl ?_
          refine Ask.F rfl ?_
          refine Ask.F rfl ?_
          exact ⟨false, h, ⟨rfl, ⟨(by kernel_rfl), (by kernel_rfl), (by kernel_rfl), (by kernel_rfl), (by kernel_rfl), trivial⟩, ⟨(by kernel_rfl), (by kernel_rfl), (by kernel_rfl), (by kernel_rfl), (by kernel_rfl), (by kernel_rfl), (by kernel_rfl), (by kernel_rfl), (by kernel_rfl), (by kernel_rfl), (by kernel_rfl), trivial⟩⟩⟩
      · rintro v7 h e hp
        try ((with_reducible apply cdX); exact rfl)
        refine ifB h (fun c9 h => ?_) (fun c9 h => ?_)
        · refine ⟨[[], [47, 48, 49, 50, 51, 52, 53, 54, 55], [47, 48, 49, 50, 51, 52, 53, 54, 55], [], [44, 45, 51, 52], [44, 45, 51, 52], [44, 45, 51, 52], [44, 45, 51, 52], [44, 45, 47, 48, 49, 50], [44, 45, 47, 48, 49, 50], [44, 45], [44, 45], [44, 45], []], [], by kernel_rfl, ?_⟩
          refine bindG h fun x10 hx10 h => ?_
          refine anM (at_ix rfl hx10) ?_
          refine anM (at_lt rfl hx10) ?_
          refine exM (impl_Two.e x10) (at_get rfl hx10) ?_
          refine bindG h fun y11 hy12 h => ?_
          refine exM ([], [(.ptr y11.q)]) ?_ ?_
          · exact impl_machine_done.ev hy12
          exact retE (enc := impl_machine_take.enc) h (by kernel_rfl)
        · refine seqJ h 91 (fun x => [(0, (.ptr 91 0 1 0)), (5, (.ptr 5 0 2 0)), (6, (.ptr 6 0 2 0)), (7, (.ptr 7 0 2 0)), (57, (.d (.p (.bool x))))]) (fun x => [(5, 0, 2, (some (.box [(.d (.p (.int .i64 a1.wait))), (.d (.p (.int .i64 a1.node))), (.d (.p (.int .i64 a1.env))), (.d (.p (.int .i64 a1.v_.Kind))), (.d (.p (.int .i64 a1.v_.N)))]))), (6, 0, 2, (some (.box [(.d (.p (.int .i64 a2.Kind))), (.d (.p (.int .i64 a2.A))), (.d (.p (.int .i64 a2.B))), (.d (.p (.int .i64 a2.C))), (.d (.p (.int .i64 a2.N))), (.d (.p (.string a2.Name))), (.d (.p (.string a2.Other)))]))), (7, 0, 2, (some (.box [(.d (.p (.int .i64 a3.Kind))), (.d (.p (.int .i64 a3.N)))]))), (91, 0, 1, (some (.box [(.own 91 1000 2), (.own 91 1001 2), (.own 91 1002 2), (.own 91 1003 2), (.d (.l true 7 (a0.l.map impl_Node.e))), (.own 91 1005 2), (.d (.p (.int .i64 a0.do_))), (.d (.p (.int .i64 a0.node))), (.d (.p (.int .i64 a0.env))), (.d (.p (.int .i64 a0.v_.Kind))), (.d (.p (.int .i64 a0.v_.N))), (.own 91 1011 2), (.own 91 1012 2), (.d (.p (.bool a0.stuck)))]))), (91, 1000, 2, (some (.row true true 5 (a0.Heap.Envs.map impl_EnvCell.e)))), (91, 1001, 2, (some (.row true true 2 (a0.Heap.Clos.map impl_Clo.e)))), (91, 1002, 2, (some (.row true true 4 (a0.Heap.Twos.map impl_Two.e)))), (91, 1003, 2, (some (.row true true 2 (a0.Heap.Refs.map impl_Val.e)))), (91, 1005, 2, (some (.row true true 2 (a0.uses.map impl_Bind.e)))), (91, 1011, 2, (some (.row true true 5 (a0.frames.map impl_frame.e)))), (91, 1012, 2, (some (.row true true 3 (a0.events.map impl_Event.e))))]) (fun J h => ?_) ?_
          · try ((with_reducible apply cdX); exact rfl)
            refine iteF h (fun c14 h => ?_) (fun c14 h => ?_)
            · refine Ask.T rfl ?_
              refine Ask.T rfl ?_
              refine Ask.T rfl ?_
              exact ⟨(decide (a3.Kind = 5)), h, ⟨rfl, ⟨(by kernel_rfl), (by kernel_rfl), (by kernel_rfl), (by kernel_rfl), (by kernel_rfl), trivial⟩, ⟨(by kernel_rfl), (by kernel_rfl), (by kernel_rfl), (by kernel_rfl), (by kernel_rfl), (by kernel_rfl), (by kernel_rfl), (by kernel_rfl), (by kernel_rfl), (by kernel_rfl), (by kernel_rfl), trivial⟩⟩⟩
            · refine Ask.F rfl ?_
              refine Ask.F rfl ?_
              refine Ask.F rfl ?_
              exact ⟨false, h, ⟨rfl, ⟨(by kernel_rfl), (by kernel_rfl), (by kernel_rfl), (by kernel_rfl), (by kernel_rfl), trivial⟩, ⟨(by kernel_rfl), (by kernel_rfl), (by kernel_rfl), (by kernel_rfl), (by kernel_rfl), (by kernel_rfl), (by kernel_rfl), (by kernel_rfl), (by kernel_rfl), (by kernel_rfl), (by kernel_rfl), trivial⟩⟩⟩
          · rintro v13 h e hp
            try ((with_reducible apply cdX); exact rfl)
            refine ifB h (fun c15 h => ?_) (fun c15 h => ?_)
            · refine ⟨[[], [70, 71, 72, 73, 74, 75, 76, 77], [70, 71, 72, 73, 74, 75, 76, 77], [], [67, 68, 74, 75], [67, 68, 74, 75], [67, 68, 74, 75], [67, 68, 74, 75], [67, 68, 70, 71, 72, 73], [67, 68, 70, 71, 72, 73], [67, 68], [67, 68], []], [], by kernel_rfl, ?_⟩
              refine bindG h fun x16 hx16 h => ?_
              refine anM (at_ix rfl hx16) ?_
              refine exM (impl_Val.e x16) (at_get rfl hx16) ?_
              refine bindG h fun y17 hy18 h => ?_
              refine exM ([], [(.ptr y17.q)]) ?_ ?_
              · exact impl_machine_done.ev hy18
              exact retE (enc := impl_machine_take.enc) h (by kernel_rfl)
            · refine seqJ h 91 (fun x => [(0, (.ptr 91 0 1 0)), (79, (.d (.p (.bool x))))]) (fun x => [(91, 0, 1, (some (.box [(.own 91 1000 2), (.own 91 1001 2), (.own 91 1002 2), (.own 91 1003 2), (.d (.l true 7 (a0.l.map impl_Node.e))), (.own 91 1005 2), (.d (.p (.int .i64 a0.do_))), (.d (.p (.int .i64 a0.node))), (.d (.p (.int .i64 a0.env))), (.d (.p (.int .i64 a0.v_.Kind))), (.d (.p (.int .i64 a0.v_.N))), (.own 91 1011 2), (.own 91 1012 2), (.d (.p (.bool a0.stuck)))]))), (91, 1000, 2, (some (.row true true 5 (a0.Heap.Envs.map impl_EnvCell.e)))), (91, 1001, 2, (some (.row true true 2 (a0.Heap.Clos.map impl_Clo.e)))), (91, 1002, 2, (some (.row true true 4 (a0.Heap.Twos.map impl_Two.e)))), (91, 1003, 2, (some (.row true true 2 (a0.Heap.Refs.map impl_Val.e)))), (91, 1005, 2, (some (.row true true 2 (a0.uses.map impl_Bind.e)))), (91, 1011, 2, (some (.row true true 5 (a0.frames.map impl_frame.e)))), (91, 1012, 2, (some (.row true true 3 (a0.events.map impl_Event.e))))]) (fun J h => ?_) ?_
              · try ((with_reducible apply cdX); exact rfl)
                refine iteF h (fun c20 h => ?_) (fun c20 h => ?_)
                · refine Ask.T rfl ?_
                  refine Ask.T rfl ?_
                  refine Ask.T rfl ?_
                  exact ⟨(decide (a3.Kind = 0)), h, ⟨rfl, ⟨(by kernel_rfl), (by kernel_rfl), trivial⟩, ⟨(by kernel_rfl), (by kernel_rfl), (by kernel_rfl), (by kernel_rfl), (by kernel_rfl), (by kernel_rfl), (by kernel_rfl), (by kernel_rfl), trivial⟩⟩⟩
                · refine Ask.F rfl ?_
                  refine Ask.F rfl ?_
                  refine Ask.F rfl ?_
                  exact ⟨false, h, ⟨rfl, ⟨(by kernel_rfl), (by kernel_rfl), trivial⟩, ⟨(by kernel_rfl), (by kernel_rfl), (by kernel_rfl), (by kernel_rfl), (by kernel_rfl), (by kernel_rfl), (by kernel_rfl), (by kernel_rfl), trivial⟩⟩⟩
              · rintro v19 h e hp
                try ((with_reducible apply cdX); exact rfl)
                refine ifB h (fun c21 h => ?_) (fun c21 h => ?_)
                · exact retE (enc := impl_machine_take.enc) h (by kernel_rfl)
                · exact retE (enc := impl_machine_take.enc) h (by kernel_rfl)
def impl_machine_first.enc (r : impl_machine) : Res := ([], [(.ptr r.q)])
def impl_machine_first.f  (K : Nat) (a0 : impl_machine) (a1 : impl_frame) : Option (impl_machine) := (at_ a0.l a1.node).bind fun x1 => (jn (fun (v2 : Bool) => if v2 = true then ((impl_machine_push.f K a0 (⟨2, a1.node, a1.env, a0.v_⟩ : impl_frame)).bind fun y8 => ((impl_machine_look.f K y8 x1.B a1.env).bind fun y10 => (some y10))) else (if x1.Kind = 5 then ((impl_machine_pass.f K a0 a1.node).bind fun y13 => ((impl_machine_cell.f K y13 a1.node 0 a0.v_ a1.env).bind fun (y15, y16) => ((impl_machine_look.f K y16 x1.B y15).bind fun y18 => (some y18)))) else (if x1.Kind = 19 then ((impl_machine_done.f K a0 a1.node a0.v_).bind fun y21 => (some y21)) else (jn (fun (v23 : Bool) => if v23 = true then ((impl_machine_pass.f K a0 a1.node).bind fun y26 => (if (!(decide (a0.v_.N = 0))) = true then ((impl_machine_look.f K y26 x1.B a1.env).bind fun y29 => (some y29)) else ((impl_machine_look.f K y26 x1.C a1.env).bind fun y31 => (some y31)))) else (jn (fun (v33 : Bool) => if v33 = true then ((impl_machine_match.f K a0 a1 x1 a0.v_).bind fun y38 => (some y38)) else (if x1.Kind = 15 then (gd ((a0.Heap.Refs.length + 1) * 16 ≤ 140737488355328) ((impl_machine_done.f K (⟨(⟨a0.Heap.Envs, a0.Heap.Clos, a0.Heap.Twos, (a0.Heap.Refs ++ ([a0.v_] : List impl_Val))⟩ : impl_Heap), a0.l, a0.uses, a0.do_, a0.node, a0.env, a0.v_, a0.frames, a0.events, a0.stuck⟩ : impl_machine) a1.node (⟨5, (w64 (((a0.Heap.Refs ++ ([a0.v_] : List impl_Val)).length : Int) - 1))⟩ : impl_Val)).bind fun y41 => (some y41))) else ((impl_machine_take.f K a0 a1 x1 a0.v_).bind fun y43 => (some y43)))) (fun j => if x1.Kind = 14 then ((impl_isList.f K a0.v_).bind fun y35 => (j y35)) else (j false)))) (fun j => if x1.Kind = 7 then (j (decide (a0.v_.Kind = 0))) else (j false)))))) (fun j => if x1.Kind = 4 then (j true) else (if x1.Kind = 8 then (j true) else (if x1.Kind = 9 then (j true) else (if x1.Kind = 13 then (j true) else (j (decide (x1.Kind = 17))))))))
theorem impl_machine_first.ev   {K : Nat} {a0 : impl_machine} {a1 : impl_frame} {r : impl_machine} (h : impl_machine_first.f  K a0 a1 = some r) : E 69 [(.ptr a0.q), (.agg (a1.e.map .d))] = some ([], [(.ptr r.q)]) := by
  refine Ev_intro (fn := Tryz.f69) rfl (by kernel_rfl) (c := _) rfl ⟨rfl, by simp⟩ (vs := [(.ptr 160 0 1 0), (.agg [(.d (.p (.int .i64 a1.wait))), (.d (.p (.int .i64 a1.node))), (.d (.p (.int .i64 a1.env))), (.d (.p (.int .i64 a1.v_.Kind))), (.d (.p (.int .i64 a1.v_.N)))])]) (h0 := ((((((((Hp.nil.put 160 1000 (1, (some (.row true true 5 (a0.Heap.Envs.map impl_EnvCell.e))))).put 160 1001 (1, (some (.row true true 2 (a0.Heap.Clos.map impl_Clo.e))))).put 160 1002 (1, (some (.row true true 4 (a0.Heap.Twos.map impl_Two.e))))).put 160 1003 (1, (some (.row true true 2 (a0.Heap.Refs.map impl_Val.e))))).put 160 1005 (1, (some (.row true true 2 (a0.uses.map impl_Bind.e))))).put 160 1011 (1, (some (.row true true 5 (a0.frames.map impl_frame.e))))).put 160 1012 (1, (some (.row true true 3 (a0.events.map impl_Event.e))))).put 160 0 (1, (some (.box [(.own 160 1000 1), (.own 160 1001 1), (.own 160 1002 1), (.own 160 1003 1), (.d (.l true 7 (a0.l.map impl_Node.e))), (.own 160 1005 1), (.d (.p (.int .i64 a0.do_))), (.d (.p (.int .i64 a0.node))), (.d (.p (.int .i64 a0.env))), (.d (.p (.int .i64 a0.v_.Kind))), (.d (.p (.int .i64 a0.v_.N))), (.own 160 1011 1), (.own 160 1012 1), (.d (.p (.bool a0.stuck)))]))))) (by kernel_rfl) (evP_spec _ ?_)
  unfold impl_machine_first.f at h
  refine goR ?_
  refine ⟨[[], [11, 12, 16, 17, 18, 4, 5], [11, 12, 16, 17, 18, 4, 5], [11, 12, 16, 17, 18, 4, 5], [8, 9, 10, 16, 17, 18, 4, 5], [8, 9, 10, 16, 17, 18, 4, 5], [16, 17, 18, 4, 5], [16, 17, 18, 4, 5], [], [8, 9, 10, 11, 12, 13, 14, 4, 5], [8, 9, 10, 11, 12, 13, 14, 4, 5], [8, 9, 10, 11, 12, 13, 14, 4, 5], [8, 9, 10, 11, 12, 13, 14, 16, 17, 18, 5], [8, 9, 10, 11, 12, 13, 14, 16, 17, 18, 4], [16, 999999, 0, 125, 145, 160, 17, 999999, 0, 125, 145, 160, 18, 999999, 0, 125, 145, 160], []], [[], [], [], [], [], [], [], [], [], [999999, 0, 125, 145, 160], [999999, 0, 125, 145, 160], [999999, 0, 125, 145, 160], [], [], [], []], by kernel_rfl, ?_⟩
  refine bindG h fun x1 hx1 h => ?_
  refine anM (at_ix rfl hx1) ?_
  refine exM (impl_Node.e x1) (at_get rfl hx1) ?_
  refine Re.mk 160 [(0, (.ptr 160 0 1 0)), (3, (.ptr 3 0 2 0)), (4, (.ptr 4 0 2 0)), (5, (.ptr 5 0 2 0))] [(3, 0, 2, (some (.box [(.d (.p (.int .i64 a1.wait))), (.d (.p (.int .i64 a1.node))), (.d (.p (.int .i64 a1.env))), (.d (.p (.int .i64 a1.v_.Kind))), (.d (.p (.int .i64 a1.v_.N)))]))), (4, 0, 2, (some (.box [(.d (.p (.int .i64 x1.Kind))), (.d (.p (.int .i64 x1.A))), (.d (.p (.int .i64 x1.B))), (.d (.p (.int .i64 x1.C))), (.d (.p (.int .i64 x1.N))), (.d (.p (.string x1.Name))), (.d (.p (.string x1.Other)))]))), (5, 0, 2, (some (.box [(.d (.p (.int .i64 a0.v_.Kind))), (.d (.p (.int .i64 a0.v_.N)))]))), (160, 0, 1, (some (.box [(.own 160 1000 2), (.own 160 1001 2), (.own 160 1002 2), (.own 160 1003 2), (.d (.l true 7 (a0.l.map impl_Node.e))), (.own 160 1005 2), (.d (.p (.int .i64 a0.do_))), (.d (.p (.int .i64 a0.node))), (.d (.p (.int .i64 a0.env))), (.d (.p (.int .i64 a0.v_.Kind))), (.d (.p (.int .i64 a0.v_.N))), (.own 160 1011 2), (.own 160 1012 2), (.d (.p (.bool a0.stuck)))]))), (160, 1000, 2, (some (.row true true 5 (a0.Heap.Envs.map impl_EnvCell.e)))), (160, 1001, 2, (some (.row true true 2 (a0.Heap.Clos.map impl_Clo.e)))), (160, 1002, 2, (some (.row true true 4 (a0.Heap.Twos.map impl_Two.e)))), (160, 1003, 2, (some (.row true true 2 (a0.Heap.Refs.map impl_Val.e)))), (160, 1005, 2, (some (.row true true 2 (a0.uses.map impl_Bind.e)))), (160, 1011, 2, (some (.row true true 5 (a0.frames.map impl_frame.e)))), (160, 1012, 2, (some (.row true true 3 (a0.events.map impl_Event.e))))] (by exact ⟨rfl, ⟨(by kernel_rfl), (by kernel_rfl), (by kernel_rfl), (by kernel_rfl), trivial⟩, ⟨(by kernel_rfl), (by kernel_rfl), (by kernel_rfl), (by kernel_rfl), (by kernel_rfl), (by kernel_rfl), (by kernel_rfl), (by kernel_rfl), (by kernel_rfl), (by kernel_rfl), (by kernel_rfl), trivial⟩⟩) ?_
  intro e hp
  refine seqJ h 160 (fun x => [(0, (.ptr 160 0 1 0)), (3, (.ptr 3 0 2 0)), (4, (.ptr 4 0 2 0)), (5, (.ptr 5 0 2 0)), (24, (.d (.p (.bool x))))]) (fun x => [(3, 0, 2, (some (.box [(.d (.p (.int .i64 a1.wait))), (.d (.p (.int .i64 a1.node))), (.d (.p (.int .i64 a1.env))), (.d (.p (.int .i64 a1.v_.Kind))), (.d (.p (.int .i64 a1.v_.N)))]))), (4, 0, 2, (some (.box [(.d (.p (.int .i64 x1.Kind))), (.d (.p (.int .i64 x1.A))), (.d (.p (.int .i64 x1.B))), (.d (.p (.int .i64 x1.C))), (.d (.p (.int .i64 x1.N))), (.d (.p (.string x1.Name))), (.d (.p (.string x1.Other)))]))), (5, 0, 2, (some (.box [(.d (.p (.int .i64 a0.v_.Kind))), (.d (.p (.int .i64 a0.v_.N)))]))), (160, 0, 1, (some (.box [(.own 160 1000 2), (.own 160 1001 2), (.own 160 1002 2), (.own 160 1003 2), (.d (.l true 7 (a0.l.map impl_Node.e))), (.own 160 1005 2), (.d (.p (.int .i64 a0.do_))), (.d (.p (.int .i64 a0.node))), (.d (.p (.int .i64 a0.env))), (.d (.p (.int .i64 a0.v_.Kind))), (.d (.p (.int .i64 a0.v_.N))), (.own 160 1011 2), (.own 160 1012 2), (.d (.p (.bool a0.stuck)))]))), (160, 1000, 2, (some (.row true true 5 (a0.Heap.Envs.map impl_EnvCell.e)))), (160, 1001, 2, (some (.row true true 2 (a0.Heap.Clos.map impl_Clo.e)))), (160, 1002, 2, (some (.row true true 4 (a0.Heap.Twos.map impl_Two.e)))), (160, 1003, 2, (some (.row true true 2 (a0.Heap.Refs.map impl_Val.e)))), (160, 1005, 2, (some (.row true true 2 (a0.uses.map impl_Bind.e)))), (160, 1011, 2, (some (.row true true 5 (a0.frames.map impl_frame.e)))), (160, 1012, 2, (some (.row true true 3 (a0.events.map impl_Event.e))))]) (fun J h => ?_) ?_
  · try ((with_reducible apply cdX); exact rfl)
    refine iteF h (fun c3 h => ?_) (fun c3 h => ?_)
    · refine Ask.T rfl ?_
      refine Ask.T rfl ?_
      refine Ask.T rfl ?_
      refine Ask.T rfl ?_
      refine Ask.T rfl ?_
      refine Ask.T rfl ?_
      refine Ask.T rfl ?_
      refine Ask.T rfl ?_
      refine Ask.T rfl ?_
      refine Ask.T rfl ?_
      refine Ask.T rfl ?_
      refine Ask.T rfl ?_
      refine Ask.T rfl ?_
      refine Ask.T rfl ?_
      refine Ask.T rfl ?_
      exact ⟨true, h, ⟨rfl, ⟨(by kernel_rfl), (by kernel_rfl), (by kernel_rfl), (by kernel_rfl), (by kernel_rfl), trivial⟩, ⟨(by kernel_rfl), (by kernel_rfl), (by kernel_rfl), (by kernel_rfl), (by kernel_rfl), (by kernel_rfl), (by kernel_rfl), (by kernel_rfl), (by kernel_rfl), (by kernel_rfl), (by kernel_rfl), trivial⟩⟩⟩
    · refine Ask.F rfl ?_
      refine Ask.F rfl ?_
      refine Ask.F rfl ?_
      refine iteF h (fun c4 h => ?_) (fun c4 h => ?_)
      · refine Ask.T rfl ?_
        refine Ask.T rfl ?_
        refine Ask.T rfl ?_
        refine Ask.T rfl ?_
        refine Ask.T rfl ?_
        refine Ask.T rfl ?_
        refine Ask.T rfl ?_
        refine Ask.T rfl ?_
        refine Ask.T rfl ?_
        refine Ask.T rfl ?_
        refine Ask.T rfl ?_
        exact ⟨true, h, ⟨rfl, ⟨(by kernel_rfl), (by kernel_rfl), (by kernel_rfl), (by kernel_rfl), (by kernel_rfl), trivial⟩, ⟨(by kernel_rfl), (by kernel_rfl), (by kernel_rfl), (by kernel_rfl), (by kernel_rfl), (by kernel_rfl), (by kernel_rfl), (by kernel_rfl), (by kernel_rfl), (by kernel_rfl), (by kernel_rfl), trivial⟩⟩⟩
      · refine Ask.F rfl ?_
        refine Ask.F rfl ?_
        refine Ask.F rfl ?_
        refine iteF h (fun c5 h => ?_) (fun c5 h => ?_)
        · refine Ask.T rfl ?_
          refine Ask.T rfl ?_
          refine Ask.T rfl ?_
          refine Ask.T rfl ?_
          refine Ask.T rfl ?_
          refine Ask.T rfl ?_
          refine Ask.T rfl ?_
          exact ⟨true, h, ⟨rfl, ⟨(by kernel_rfl), (by kernel_rfl), (by kernel_rfl), (by kernel_rfl), (by kernel_rfl), trivial⟩, ⟨(by kernel_rfl), (by kernel_rfl), (by kernel_rfl), (by kernel_rfl), (by kernel_rfl), (by kernel_rfl), (by kernel_rfl), (by kernel_rfl), (by kernel_rfl), (by kernel_rfl), (by kernel_rfl), trivial⟩⟩⟩
        · refine Ask.F rfl ?_
          refine Ask.F rfl ?_
          refine Ask.F rfl ?_
          refine iteF h (fun c6 h => ?_) (fun c6 h => ?_)
          · refine Ask.T rfl ?_
            refine Ask.T rfl ?_
            refine Ask.T rfl ?_
            exact ⟨true, h, ⟨rfl, ⟨(by kernel_rfl), (by kernel_rfl), (by kernel_rfl), (by kernel_rfl), (by kernel_rfl), trivial⟩, ⟨(by kernel_rfl), (by kernel_rfl), (by kernel_rfl), (by kernel_rfl), (by kernel_rfl), (by kernel_rfl), (by kernel_rfl), (by kernel_rfl), (by kernel_rfl), (by kernel_rfl), (by kernel_rfl), trivial⟩⟩⟩
          · refine Ask.F rfl ?_
            refine Ask.F rfl ?_
            refine Ask.F rfl ?_
            exact ⟨(decide (x1.Kind = 17)), h, ⟨rfl, ⟨(by kernel_rfl), (by kernel_rfl), (by kernel_rfl), (by kernel_rfl), (by kernel_rfl), trivial⟩, ⟨(by kernel_rfl), (by kernel_rfl), (by kernel_rfl), (by kernel_rfl), (by kernel_rfl), (by kernel_rfl), (by kernel_rfl), (by kernel_rfl), (by kernel_rfl), (by kernel_rfl), (by kernel_rfl), trivial⟩⟩⟩
  · rintro v2 h e hp
    try ((with_reducible apply cdX); exact rfl)
    refine ifB h (fun c7 h => ?_) (fun c7 h => ?_)
    · refine bindG h fun y8 hy9 h => ?_
      refine exM ([], [(.ptr y8.q)]) ?_ ?_
      · exact impl_machine_push.ev hy9
      refine bindG h fun y10 hy11 h => ?_
      refine exM ([], [(.ptr y10.q)]) ?_ ?_
      · exact impl_machine_look.ev hy11
      exact retE (enc := impl_machine_first.enc) h (by kernel_rfl)
    · try ((with_reducible apply cdX); exact rfl)
      refine iteF h (fun c12 h => ?_) (fun c12 h => ?_)
      · refine bindG h fun y13 hy14 h => ?_
        refine exM ([], [(.ptr y13.q)]) ?_ ?_
        · exact impl_machine_pass.ev hy14
        refine bindG h ?_
        rintro ⟨y15, y16⟩ hy17 h
        refine exM ([(.d (.p (.int .i64 y15)))], [(.ptr y16.q)]) ?_ ?_
        · exact impl_machine_cell.ev hy17
        refine bindG h fun y18 hy19 h => ?_
        refine exM ([], [(.ptr y18.q)]) ?_ ?_
        · exact impl_machine_look.ev hy19
        exact retE (enc := impl_machine_first.enc) h (by kernel_rfl)
      · try ((with_reducible apply cdX); exact rfl)
        refine iteF h (fun c20 h => ?_) (fun c20 h => ?_)
        · refine bindG h fun y21 hy22 h => ?_
          refine exM ([], [(.ptr y21.q)]) ?_ ?_
          · exact impl_machine_done.ev hy22
          exact retE (enc := impl_machine_first.enc) h (by kernel_rfl)
        · refine seqJ h 160 (fun x => [(0, (.ptr 160 0 1 0)), (3, (.ptr 3 0 2 0)), (4, (.ptr 4 0 2 0)), (5, (.ptr 5 0 2 0)), (91, (.d (.p (.bool x))))]) (fun x => [(3, 0, 2, (some (.box [(.d (.p (.int .i64 a1.wait))), (.d (.p (.int .i64 a1.node))), (.d (.p (.int .i64 a1.env))), (.d (.p (.int .i64 a1.v_.Kind))), (.d (.p (.int .i64 a1.v_.N)))]))), (4, 0, 2, (some (.box [(.d (.p (.int .i64 x1.Kind))), (.d (.p (.int .i64 x1.A))), (.d (.p (.int .i64 x1.B))), (.d (.p (.int .i64 x1.C))), (.d (.p (.int .i64 x1.N))), (.d (.p (.string x1.Name))), (.d (.p (.string x1.Other)))]))), (5, 0, 2, (some (.box [(.d (.p (.int .i64 a0.v_.Kind))), (.d (.p (.int .i64 a0.v_.N)))]))), (160, 0, 1, (some (.box [(.own 160 1000 2), (.own 160 1001 2), (.own 160 1002 2), (.own 160 1003 2), (.d (.l true 7 (a0.l.map impl_Node.e))), (.own 160 1005 2), (.d (.p (.int .i64 a0.do_))), (.d (.p (.int .i64 a0.node))), (.d (.p (.int .i64 a0.env))), (.d (.p (.int .i64 a0.v_.Kind))), (.d (.p (.int .i64 a0.v_.N))), (.own 160 1011 2), (.own 160 1012 2), (.d (.p (.bool a0.stuck)))]))), (160, 1000, 2, (some (.row true true 5 (a0.Heap.Envs.map impl_EnvCell.e)))), (160, 1001, 2, (some (.row true true 2 (a0.Heap.Clos.map impl_Clo.e)))), (160, 1002, 2, (some (.row true true 4 (a0.Heap.Twos.map impl_Two.e)))), (160, 1003, 2, (some (.row true true 2 (a0.Heap.Refs.map impl_Val.e)))), (160, 1005, 2, (some (.row true true 2 (a0.uses.map impl_Bind.e)))), (160, 1011, 2, (some (.row true true 5 (a0.frames.map impl_frame.e)))), (160, 1012, 2, (some (.row true true 3 (a0.events.map impl_Event.e))))]) (fun J h => ?_) ?_
          · try ((with_reducible apply cdX); exact rfl)
            refine iteF h (fun c24 h => ?_) (fun c24 h => ?_)
            · refine Ask.T rfl ?_
              refine Ask.T rfl ?_
              refine Ask.T rfl ?_
              exact ⟨(decide (a0.v_.Kind = 0)), h, ⟨rfl, ⟨(by kernel_rfl), (by kernel_rfl), (by kernel_rfl), (by kernel_rfl), (by kernel_rfl), trivial⟩, ⟨(by kernel_rfl), (by kernel_rfl), (by kernel_rfl), (by kernel_rfl), (by kernel_rfl), (by kernel_rfl), (by kernel_rfl), (by kernel_rfl), (by kernel_rfl), (by kernel_rfl), (by kernel_rfl), trivial⟩⟩⟩
            · refine Ask.F rfl ?_
              refine Ask.F rfl ?_
              refine Ask.F rfl ?_
              exact ⟨false, h, ⟨rfl, ⟨(by kernel_rfl), (by kernel_rfl), (by kernel_rfl), (by kernel_rfl), (by kernel_rfl), trivial⟩, ⟨(by kernel_rfl), (by kernel_rfl), (by kernel_rfl), (by kernel_rfl), (by kernel_rfl), (by kernel_rfl), (by kernel_rfl), (by kernel_rfl), (by kernel_rfl), (by kernel_rfl), (by kernel_rfl), trivial⟩⟩⟩
          · rintro v23 h e hp
            try ((with_reducible apply cdX); exact rfl)
            refine ifB h (fun c25 h => ?_) (fun c25 h => ?_)
            · refine bindG h fun y26 hy27 h => ?_
              refine exM ([], [(.ptr y26.q)]) ?_ ?_
              · exact impl_machine_pass.ev hy27
              refine ifB h (fun c28 h => ?_) (fun c28 h => ?_)
              · refine bindG h fun y29 hy30 h => ?_
                refine exM ([], [(.ptr y29.q)]) ?_ ?_
                · exact impl_machine_look.ev hy30
                exact retE (enc := impl_machine_first.enc) h (by kernel_rfl)
              · refine bindG h fun y31 hy32 h => ?_
                refine exM ([], [(.ptr y31.q)]) ?_ ?_
                · exact impl_machine_look.ev hy32
                exact retE (enc := impl_machine_first.enc) h (by kernel_rfl)
            · refine seqJ h 160 (fun x => [(0, (.ptr 160 0 1 0)), (3, (.ptr 3 0 2 0)), (4, (.ptr 4 0 2 0)), (5, (.ptr 5 0 2 0)), (119, (.d (.p (.bool x))))]) (fun x => [(3, 0, 2, (some (.box [(.d (.p (.int .i64 a1.wait))), (.d (.p (.int .i64 a1.node))), (.d (.p (.int .i64 a1.env))), (.d (.p (.int .i64 a1.v_.Kind))), (.d (.p (.int .i64 a1.v_.N)))]))), (4, 0, 2, (some (.box [(.d (.p (.int .i64 x1.Kind))), (.d (.p (.int .i64 x1.A))), (.d (.p (.int .i64 x1.B))), (.d (.p (.int .i64 x1.C))), (.d (.p (.int .i64 x1.N))), (.d (.p (.string x1.Name))), (.d (.p (.string x1.Other)))]))), (5, 0, 2, (some (.box [(.d (.p (.int .i64 a0.v_.Kind))), (.d (.p (.int .i64 a0.v_.N)))]))), (160, 0, 1, (some (.box [(.own 160 1000 2), (.own 160 1001 2), (.own 160 1002 2), (.own 160 1003 2), (.d (.l true 7 (a0.l.map impl_Node.e))), (.own 160 1005 2), (.d (.p (.int .i64 a0.do_))), (.d (.p (.int .i64 a0.node))), (.d (.p (.int .i64 a0.env))), (.d (.p (.int .i64 a0.v_.Kind))), (.d (.p (.int .i64 a0.v_.N))), (.own 160 1011 2), (.own 160 1012 2), (.d (.p (.bool a0.stuck)))]))), (160, 1000, 2, (some (.row true true 5 (a0.Heap.Envs.map impl_EnvCell.e)))), (160, 1001, 2, (some (.row true true 2 (a0.Heap.Clos.map impl_Clo.e)))), (160, 1002, 2, (some (.row true true 4 (a0.Heap.Twos.map impl_Two.e)))), (160, 1003, 2, (some (.row true true 2 (a0.Heap.Refs.map impl_Val.e)))), (160, 1005, 2, (some (.row true true 2 (a0.uses.map impl_Bind.e)))), (160, 1011, 2, (some (.row true true 5 (a0.frames.map impl_frame.e)))), (160, 1012, 2, (some (.row true true 3 (a0.events.map impl_Event.e))))]) (fun J h => ?_) ?_
              · try ((with_reducible apply cdX); exact rfl)
                refine iteF h (fun c34 h => ?_) (fun c34 h => ?_)
                · refine Ask.T rfl ?_
                  refine bindG h fun y35 hy36 h => ?_
                  refine exM ([(.d (.p (.bool y35)))], []) ?_ ?_
                  · exact impl_isList.ev hy36
                  refine Ask.T rfl ?_
                  exact ⟨y35, h, ⟨rfl, ⟨(by kernel_rfl), (by kernel_rfl), (by kernel_rfl), (by kernel_rfl), (by kernel_rfl), trivial⟩, ⟨(by kernel_rfl), (by kernel_rfl), (by kernel_rfl), (by kernel_rfl), (by kernel_rfl), (by kernel_rfl), (by kernel_rfl), (by kernel_rfl), (by kernel_rfl), (by kernel_rfl), (by kernel_rfl), trivial⟩⟩⟩
                · refine Ask.F rfl ?_
                  refine Ask.F rfl ?_
                  exact ⟨false, h, ⟨rfl, ⟨(by kernel_rfl), (by kernel_rfl), (by kernel_rfl), (by kernel_rfl), (by kernel_rfl), trivial⟩, ⟨(by kernel_rfl), (by kernel_rfl), (by kernel_rfl), (by kernel_rfl), (by kernel_rfl), (by kernel_rfl), (by kernel_rfl), (by kernel_rfl), (by kernel_rfl), (by kernel_rfl), (by kernel_rfl), trivial⟩⟩⟩
              · rintro v33 h e hp
                try ((with_reducible apply cdX); exact rfl)
                refine ifB h (fun c37 h => ?_) (fun c37 h => ?_)
                · refine bindG h fun y38 hy39 h => ?_
                  refine exM ([], [(.ptr y38.q)]) ?_ ?_
                  · exact impl_machine_match.ev hy39
                  exact retE (enc := impl_machine_first.enc) h (by kernel_rfl)
                · try ((with_reducible apply cdX); exact rfl)
                  refine iteF h (fun c40 h => ?_) (fun c40 h => ?_)
                  · refine goR ?_
                    refine ⟨[[], [], [142, 143], [142, 143], [142, 143], [142, 143], [138, 139, 140, 141], [138, 139, 140, 141], [], [], [], [], []], [], by kernel_rfl, ?_⟩
                    refine eqM (([a0.v_] : List impl_Val).map impl_Val.e) rfl ?_
                    refine gdG h fun hc h => ?_
                    refine anM (apB hc) ?_
                    refine eqM ((a0.Heap.Refs ++ ([a0.v_] : List impl_Val)).map impl_Val.e) (mApp rfl rfl) ?_
                    refine Re.mk 160 [(0, (.ptr 160 0 1 0)), (3, (.ptr 3 0 2 0))] [(3, 0, 2, (some (.box [(.d (.p (.int .i64 a1.wait))), (.d (.p (.int .i64 a1.node))), (.d (.p (.int .i64 a1.env))), (.d (.p (.int .i64 a1.v_.Kind))), (.d (.p (.int .i64 a1.v_.N)))]))), (160, 0, 1, (some (.box [(.own 160 1000 2), (.own 160 1001 2), (.own 160 1002 2), (.own 160 1003 2), (.d (.l true 7 (a0.l.map impl_Node.e))), (.own 160 1005 2), (.d (.p (.int .i64 a0.do_))), (.d (.p (.int .i64 a0.node))), (.d (.p (.int .i64 a0.env))), (.d (.p (.int .i64 a0.v_.Kind))), (.d (.p (.int .i64 a0.v_.N))), (.own 160 1011 2), (.own 160 1012 2), (.d (.p (.bool a0.stuck)))]))), (160, 1000, 2, (some (.row true true 5 (a0.Heap.Envs.map impl_EnvCell.e)))), (160, 1001, 2, (some (.row true true 2 (a0.Heap.Clos.map impl_Clo.e)))), (160, 1002, 2, (some (.row true true 4 (a0.Heap.Twos.map impl_Two.e)))), (160, 1003, 2, (some (.row true true 2 ((a0.Heap.Refs ++ ([a0.v_] : List impl_Val)).map impl_Val.e)))), (160, 1005, 2, (some (.row true true 2 (a0.uses.map impl_Bind.e)))), (160, 1011, 2, (some (.row true true 5 (a0.frames.map impl_frame.e)))), (160, 1012, 2, (some (.row true true 3 (a0.events.map impl_Event.e))))] (by exact ⟨rfl, ⟨(by kernel_rfl), (by kernel_rfl), trivial⟩, ⟨(by kernel_rfl), (by kernel_rfl), (by kernel_rfl), (by kernel_rfl), (by kernel_rfl), (by kernel_rfl), (by kernel_rfl), (by kernel_rfl), (by kernel_rfl), trivial⟩⟩) ?_
                    intro e hp
                    refine ⟨[[], [152, 153, 154, 155, 156], [152, 153, 154, 155, 156], [], [149, 150], [149, 150], [149, 150], [149, 150], [149, 150], [], [], []], [], by kernel_rfl, ?_⟩
                    refine eqM (((a0.Heap.Refs ++ ([a0.v_] : List impl_Val)).length : Int) : Int) (mLen rfl) ?_
                    refine bindG h fun y41 hy42 h => ?_
                    refine exM ([], [(.ptr y41.q)]) ?_ ?_
                    · exact impl_machine_done.ev hy42
                    exact retE (enc := impl_machine_first.enc) h (by kernel_rfl)
                  · refine bindG h fun y43 hy44 h => ?_
                    refine exM ([], [(.ptr y43.q)]) ?_ ?_
                    · exact impl_machine_take.ev hy44
                    exact retE (enc := impl_machine_first.enc) h (by kernel_rfl)
def impl_machine_two.enc (r : impl_Val × impl_machine) : Res := ([(.agg (r.1.e.map .d))], [(.ptr [(.own true 5 (r.2.Heap.Envs.map impl_EnvCell.e)), (.own true 2 (r.2.Heap.Clos.map impl_Clo.e)), (.own true 4 (r.2.Heap.Twos.map impl_Two.e)), (.own true 2 (r.2.Heap.Refs.map impl_Val.e)), (.d (.l true 7 (r.2.l.map impl_Node.e))), (.own true 2 (r.2.uses.map impl_Bind.e)), (.d (.p (.int .i64 r.2.do_))), (.d (.p (.int .i64 r.2.node))), (.d (.p (.int .i64 r.2.env))), (.d (.p (.int .i64 r.2.v_.Kind))), (.d (.p (.int .i64 r.2.v_.N))), (.own true 5 (r.2.frames.map impl_frame.e)), (.own true 3 (r.2.events.map impl_Event.e)), (.d (.p (.bool r.2.stuck)))])])
def impl_machine_two.f  (K : Nat) (a0 : impl_machine) (a1 : Int) (a2 : impl_Val) (a3 : impl_Val) : Option (impl_Val × impl_machine) := gd ((a0.Heap.Twos.length + 1) * 32 ≤ 140737488355328) (some ((⟨a1, (w64 (((a0.Heap.Twos ++ ([(⟨a2, a3⟩ : impl_Two)] : List impl_Two)).length : Int) - 1))⟩ : impl_Val), (⟨(⟨a0.Heap.Envs, a0.Heap.Clos, (a0.Heap.Twos ++ ([(⟨a2, a3⟩ : impl_Two)] : List impl_Two)), a0.Heap.Refs⟩ : impl_Heap), a0.l, a0.uses, a0.do_, a0.node, a0.env, a0.v_, a0.frames, a0.events, a0.stuck⟩ : impl_machine)))
theorem impl_machine_two.ev   {K : Nat} {a0 : impl_machine} {a1 : Int} {a2 : impl_Val} {a3 : impl_Val} {r : impl_Val × impl_machine} (h : impl_machine_two.f  K a0 a1 a2 a3 = some r) : E 98 [(.ptr a0.q), (.d (.p (.int .i64 a1))), (.agg (a2.e.map .d)), (.agg (a3.e.map .d))] = some ([(.agg (r.1.e.map .d))], [(.ptr [(.own true 5 (r.2.Heap.Envs.map impl_EnvCell.e)), (.own true 2 (r.2.Heap.Clos.map impl_Clo.e)), (.own true 4 (r.2.Heap.Twos.map impl_Two.e)), (.own true 2 (r.2.Heap.Refs.map impl_Val.e)), (.d (.l true 7 (r.2.l.map impl_Node.e))), (.own true 2 (r.2.uses.map impl_Bind.e)), (.d (.p (.int .i64 r.2.do_))), (.d (.p (.int .i64 r.2.node))), (.d (.p (.int .i64 r.2.env))), (.d (.p (.int .i64 r.2.v_.Kind))), (.d (.p (.int .i64 r.2.v_.N))), (.own true 5 (r.2.frames.map impl_frame.e)), (.own true 3 (r.2.events.map impl_Event.e)), (.d (.p (.bool r.2.stuck)))])]) := by
  refine Ev_intro (fn := Tryz.f98) rfl (by kernel_rfl) (c := _) rfl ⟨rfl, by simp⟩ (vs := [(.ptr 32 0 1 0), (.d (.p (.int .i64 a1))), (.agg [(.d (.p (.int .i64 a2.Kind))), (.d (.p (.int .i64 a2.N)))]), (.agg [(.d (.p (.int .i64 a3.Kind))), (.d (.p (.int .i64 a3.N)))])]) (h0 := ((((((((Hp.nil.put 32 1000 (1, (some (.row true true 5 (a0.Heap.Envs.map impl_EnvCell.e))))).put 32 1001 (1, (some (.row true true 2 (a0.Heap.Clos.map impl_Clo.e))))).put 32 1002 (1, (some (.row true true 4 (a0.Heap.Twos.map impl_Two.e))))).put 32 1003 (1, (some (.row true true 2 (a0.Heap.Refs.map impl_Val.e))))).put 32 1005 (1, (some (.row true true 2 (a0.uses.map impl_Bind.e))))).put 32 1011 (1, (some (.row true true 5 (a0.frames.map impl_frame.e))))).put 32 1012 (1, (some (.row true true 3 (a0.events.map impl_Event.e))))).put 32 0 (1, (some (.box [(.own 32 1000 1), (.own 32 1001 1), (.own 32 1002 1), (.own 32 1003 1), (.d (.l true 7 (a0.l.map impl_Node.e))), (.own 32 1005 1), (.d (.p (.int .i64 a0.do_))), (.d (.p (.int .i64 a0.node))), (.d (.p (.int .i64 a0.env))), (.d (.p (.int .i64 a0.v_.Kind))), (.d (.p (.int .i64 a0.v_.N))), (.own 32 1011 1), (.own 32 1012 1), (.d (.p (.bool a0.stuck)))]))))) (by kernel_rfl) (evP_spec _ ?_)
  unfold impl_machine_two.f at h
  refine goR ?_
  refine ⟨[[], [], [15, 16, 18], [15, 16, 18], [15, 16, 18], [15, 16, 18], [11, 12, 13, 14, 16], [11, 12, 13, 14, 15], [], [11, 12, 13, 14], [], [], [], [], []], [], by kernel_rfl, ?_⟩
  refine eqM (([(⟨a2, a3⟩ : impl_Two)] : List impl_Two).map impl_Two.e) rfl ?_
  refine gdG h fun hc h => ?_
  refine anM (apB hc) ?_
  refine eqM ((a0.Heap.Twos ++ ([(⟨a2, a3⟩ : impl_Two)] : List impl_Two)).map impl_Two.e) (mApp rfl rfl) ?_
  refine Re.mk 32 [(0, (.ptr 32 0 1 0)), (1, (.d (.p (.int .i64 a1)))), (8, (.ptr 8 0 2 0))] [(8, 0, 2, (some (.box [(.d (.p (.int .i64 0))), (.d (.p (.int .i64 0)))]))), (32, 0, 1, (some (.box [(.own 32 1000 2), (.own 32 1001 2), (.own 32 1002 2), (.own 32 1003 2), (.d (.l true 7 (a0.l.map impl_Node.e))), (.own 32 1005 2), (.d (.p (.int .i64 a0.do_))), (.d (.p (.int .i64 a0.node))), (.d (.p (.int .i64 a0.env))), (.d (.p (.int .i64 a0.v_.Kind))), (.d (.p (.int .i64 a0.v_.N))), (.own 32 1011 2), (.own 32 1012 2), (.d (.p (.bool a0.stuck)))]))), (32, 1000, 2, (some (.row true true 5 (a0.Heap.Envs.map impl_EnvCell.e)))), (32, 1001, 2, (some (.row true true 2 (a0.Heap.Clos.map impl_Clo.e)))), (32, 1002, 2, (some (.row true true 4 ((a0.Heap.Twos ++ ([(⟨a2, a3⟩ : impl_Two)] : List impl_Two)).map impl_Two.e)))), (32, 1003, 2, (some (.row true true 2 (a0.Heap.Refs.map impl_Val.e)))), (32, 1005, 2, (some (.row true true 2 (a0.uses.map impl_Bind.e)))), (32, 1011, 2, (some (.row true true 5 (a0.frames.map impl_frame.e)))), (32, 1012, 2, (some (.row true true 3 (a0.events.map impl_Event.e))))] (by exact ⟨rfl, ⟨(by kernel_rfl), (by kernel_rfl), (by kernel_rfl), trivial⟩, ⟨(by kernel_rfl), (by kernel_rfl), (by kernel_rfl), (by kernel_rfl), (by kernel_rfl), (by kernel_rfl), (by kernel_rfl), (by kernel_rfl), (by kernel_rfl), trivial⟩⟩) ?_
  intro e hp
  refine goS ?_
  refine eqM (((a0.Heap.Twos ++ ([(⟨a2, a3⟩ : impl_Two)] : List impl_Two)).length : Int) : Int) (mLen rfl) ?_
  exact retE (enc := impl_machine_two.enc) h (by kernel_rfl)
def impl_prim.enc (r : Int) : Res := ([(.d (.p (.int .i64 r)))], [])
def impl_prim.f  (K : Nat) (a0 : Int) (a1 : Int) (a2 : Int) : Option (Int) := jn (fun (v1 : Bool) => if v1 = true then (some 1) else (some 0)) (fun j => if a0 = 0 then (some (Int.tmod (w64 (a1 + a2)) 65536)) else (if a0 = 1 then (some (Int.tmod (w64 ((w64 (a1 - a2)) + 65536)) 65536)) else (if a0 = 2 then (j (decide (a1 < a2))) else (j (decide (a1 = a2))))))
theorem impl_prim.ev   {K : Nat} {a0 : Int} {a1 : Int} {a2 : Int} {r : Int} (h : impl_prim.f  K a0 a1 a2 = some r) : E 99 [(.d (.p (.int .i64 a0))), (.d (.p (.int .i64 a1))), (.d (.p (.int .i64 a2)))] = some ([(.d (.p (.int .i64 r)))], []) := by
  refine Ev_intro (fn := Tryz.f99) rfl (by kernel_rfl) (c := _) rfl ⟨rfl, by simp⟩ rfl (evP_spec _ ?_)
  unfold impl_prim.f at h
  refine seqJ h 31 (fun x => [(7, (.d (.p (.bool x))))]) (fun x => []) (fun J h => ?_) ?_
  · try ((with_reducible apply cdX); exact rfl)
    refine iteF h (fun c2 h => ?_) (fun c2 h => ?_)
    · refine anM (by decide) ?_
      exact retE (enc := impl_prim.enc) h rfl
    · try ((with_reducible apply cdX); exact rfl)
      refine iteF h (fun c3 h => ?_) (fun c3 h => ?_)
      · refine anM (by decide) ?_
        exact retE (enc := impl_prim.enc) h rfl
      · try ((with_reducible apply cdX); exact rfl)
        refine iteF h (fun c4 h => ?_) (fun c4 h => ?_)
        · exact ⟨(decide (a1 < a2)), h, ⟨rfl, ⟨rfl, trivial⟩, trivial⟩⟩
        · exact ⟨(decide (a1 = a2)), h, ⟨rfl, ⟨rfl, trivial⟩, trivial⟩⟩
  · rintro v1 h e hp
    refine goS ?_
    try ((with_reducible apply cdX); exact rfl)
    refine ifB h (fun c5 h => ?_) (fun c5 h => ?_)
    · exact retE (enc := impl_prim.enc) h rfl
    · exact retE (enc := impl_prim.enc) h rfl
def impl_machine_call.enc (r : impl_machine) : Res := ([], [(.ptr r.q)])
def impl_machine_call.f  (K : Nat) (a0 : impl_machine) (a1 : Int) (a2 : impl_Val) (a3 : impl_Val) : Option (impl_machine) := (at_ a0.Heap.Clos a2.N).bind fun x1 => (jn (fun (v2 : Int) => gd ((a0.events.length + 1) * 24 ≤ 140737488355328) ((impl_machine_pass.f K (⟨a0.Heap, a0.l, a0.uses, a0.do_, a0.node, a0.env, a0.v_, a0.frames, (a0.events ++ ([(⟨1, a1, x1.Node⟩ : impl_Event)] : List impl_Event)), a0.stuck⟩ : impl_machine) a1).bind fun y5 => ((impl_machine_cell.f K y5 x1.Node v2 a3 x1.Env).bind fun (y7, y8) => ((at_ y8.l x1.Node).bind fun x10 => ((impl_machine_look.f K y8 x10.A y7).bind fun y11 => (some y11)))))) (fun j => (at_ a0.l x1.Node).bind fun x3 => (if x3.Kind = 6 then (j 1) else (j 0))))
theorem impl_machine_call.ev   {K : Nat} {a0 : impl_machine} {a1 : Int} {a2 : impl_Val} {a3 : impl_Val} {r : impl_machine} (h : impl_machine_call.f  K a0 a1 a2 a3 = some r) : E 100 [(.ptr a0.q), (.d (.p (.int .i64 a1))), (.agg (a2.e.map .d)), (.agg (a3.e.map .d))] = some ([], [(.ptr r.q)]) := by
  refine Ev_intro (fn := Tryz.f100) rfl (by kernel_rfl) (c := _) rfl ⟨rfl, by simp⟩ (vs := [(.ptr 66 0 1 0), (.d (.p (.int .i64 a1))), (.agg [(.d (.p (.int .i64 a2.Kind))), (.d (.p (.int .i64 a2.N)))]), (.agg [(.d (.p (.int .i64 a3.Kind))), (.d (.p (.int .i64 a3.N)))])]) (h0 := ((((((((Hp.nil.put 66 1000 (1, (some (.row true true 5 (a0.Heap.Envs.map impl_EnvCell.e))))).put 66 1001 (1, (some (.row true true 2 (a0.Heap.Clos.map impl_Clo.e))))).put 66 1002 (1, (some (.row true true 4 (a0.Heap.Twos.map impl_Two.e))))).put 66 1003 (1, (some (.row true true 2 (a0.Heap.Refs.map impl_Val.e))))).put 66 1005 (1, (some (.row true true 2 (a0.uses.map impl_Bind.e))))).put 66 1011 (1, (some (.row true true 5 (a0.frames.map impl_frame.e))))).put 66 1012 (1, (some (.row true true 3 (a0.events.map impl_Event.e))))).put 66 0 (1, (some (.box [(.own 66 1000 1), (.own 66 1001 1), (.own 66 1002 1), (.own 66 1003 1), (.d (.l true 7 (a0.l.map impl_Node.e))), (.own 66 1005 1), (.d (.p (.int .i64 a0.do_))), (.d (.p (.int .i64 a0.node))), (.d (.p (.int .i64 a0.env))), (.d (.p (.int .i64 a0.v_.Kind))), (.d (.p (.int .i64 a0.v_.N))), (.own 66 1011 1), (.own 66 1012 1), (.d (.p (.bool a0.stuck)))]))))) (by kernel_rfl) (evP_spec _ ?_)
  unfold impl_machine_call.f at h
  refine goR ?_
  refine ⟨[[], [16, 17, 8], [16, 17, 8], [16, 17, 8], [16, 17, 8], [12, 13, 14, 15, 8], [12, 13, 14, 15, 8], [8], [8], [12, 13, 14, 15, 16, 17, 18, 19], []], [], by kernel_rfl, ?_⟩
  refine bindG h fun x1 hx1 h => ?_
  refine anM (at_ix rfl hx1) ?_
  refine exM (impl_Clo.e x1) (at_get rfl hx1) ?_
  refine Re.mk 66 [(0, (.ptr 66 0 1 0)), (1, (.d (.p (.int .i64 a1)))), (7, (.ptr 7 0 2 0)), (8, (.ptr 8 0 2 0))] [(7, 0, 2, (some (.box [(.d (.p (.int .i64 a3.Kind))), (.d (.p (.int .i64 a3.N)))]))), (8, 0, 2, (some (.box [(.d (.p (.int .i64 x1.Node))), (.d (.p (.int .i64 x1.Env)))]))), (66, 0, 1, (some (.box [(.own 66 1000 2), (.own 66 1001 2), (.own 66 1002 2), (.own 66 1003 2), (.d (.l true 7 (a0.l.map impl_Node.e))), (.own 66 1005 2), (.d (.p (.int .i64 a0.do_))), (.d (.p (.int .i64 a0.node))), (.d (.p (.int .i64 a0.env))), (.d (.p (.int .i64 a0.v_.Kind))), (.d (.p (.int .i64 a0.v_.N))), (.own 66 1011 2), (.own 66 1012 2), (.d (.p (.bool a0.stuck)))]))), (66, 1000, 2, (some (.row true true 5 (a0.Heap.Envs.map impl_EnvCell.e)))), (66, 1001, 2, (some (.row true true 2 (a0.Heap.Clos.map impl_Clo.e)))), (66, 1002, 2, (some (.row true true 4 (a0.Heap.Twos.map impl_Two.e)))), (66, 1003, 2, (some (.row true true 2 (a0.Heap.Refs.map impl_Val.e)))), (66, 1005, 2, (some (.row true true 2 (a0.uses.map impl_Bind.e)))), (66, 1011, 2, (some (.row true true 5 (a0.frames.map impl_frame.e)))), (66, 1012, 2, (some (.row true true 3 (a0.events.map impl_Event.e))))] (by exact ⟨rfl, ⟨(by kernel_rfl), (by kernel_rfl), (by kernel_rfl), (by kernel_rfl), trivial⟩, ⟨(by kernel_rfl), (by kernel_rfl), (by kernel_rfl), (by kernel_rfl), (by kernel_rfl), (by kernel_rfl), (by kernel_rfl), (by kernel_rfl), (by kernel_rfl), (by kernel_rfl), trivial⟩⟩) ?_
  intro e hp
  refine seqJ h 66 (fun x => [(0, (.ptr 66 0 1 0)), (1, (.d (.p (.int .i64 a1)))), (7, (.ptr 7 0 2 0)), (8, (.ptr 8 0 2 0)), (9, (.d (.p (.int .i64 x))))]) (fun x => [(7, 0, 2, (some (.box [(.d (.p (.int .i64 a3.Kind))), (.d (.p (.int .i64 a3.N)))]))), (8, 0, 2, (some (.box [(.d (.p (.int .i64 x1.Node))), (.d (.p (.int .i64 x1.Env)))]))), (66, 0, 1, (some (.box [(.own 66 1000 2), (.own 66 1001 2), (.own 66 1002 2), (.own 66 1003 2), (.d (.l true 7 (a0.l.map impl_Node.e))), (.own 66 1005 2), (.d (.p (.int .i64 a0.do_))), (.d (.p (.int .i64 a0.node))), (.d (.p (.int .i64 a0.env))), (.d (.p (.int .i64 a0.v_.Kind))), (.d (.p (.int .i64 a0.v_.N))), (.own 66 1011 2), (.own 66 1012 2), (.d (.p (.bool a0.stuck)))]))), (66, 1000, 2, (some (.row true true 5 (a0.Heap.Envs.map impl_EnvCell.e)))), (66, 1001, 2, (some (.row true true 2 (a0.Heap.Clos.map impl_Clo.e)))), (66, 1002, 2, (some (.row true true 4 (a0.Heap.Twos.map impl_Two.e)))), (66, 1003, 2, (some (.row true true 2 (a0.Heap.Refs.map impl_Val.e)))), (66, 1005, 2, (some (.row true true 2 (a0.uses.map impl_Bind.e)))), (66, 1011, 2, (some (.row true true 5 (a0.frames.map impl_frame.e)))), (66, 1012, 2, (some (.row true true 3 (a0.events.map impl_Event.e))))]) (fun J h => ?_) ?_
  · refine ⟨[[], [24, 25], [24, 25], [24, 25], [21, 22, 23], [21, 22, 23], [], [], [], []], [], by kernel_rfl, ?_⟩
    refine bindG h fun x3 hx3 h => ?_
    refine anM (at_ix rfl hx3) ?_
    refine exM (impl_Node.e x3) (at_get rfl hx3) ?_
    refine iteF h (fun c4 h => ?_) (fun c4 h => ?_)
    · exact ⟨1, h, ⟨rfl, ⟨(by kernel_rfl), (by kernel_rfl), (by kernel_rfl), (by kernel_rfl), (by kernel_rfl), trivial⟩, ⟨(by kernel_rfl), (by kernel_rfl), (by kernel_rfl), (by kernel_rfl), (by kernel_rfl), (by kernel_rfl), (by kernel_rfl), (by kernel_rfl), (by kernel_rfl), (by kernel_rfl), trivial⟩⟩⟩
    · exact ⟨0, h, ⟨rfl, ⟨(by kernel_rfl), (by kernel_rfl), (by kernel_rfl), (by kernel_rfl), (by kernel_rfl), trivial⟩, ⟨(by kernel_rfl), (by kernel_rfl), (by kernel_rfl), (by kernel_rfl), (by kernel_rfl), (by kernel_rfl), (by kernel_rfl), (by kernel_rfl), (by kernel_rfl), (by kernel_rfl), trivial⟩⟩⟩
  · rintro v2 h e hp
    refine goR ?_
    refine ⟨[[], [], [36, 37, 39], [36, 37, 39], [36, 37, 39], [], [32, 33, 34], [32, 33, 34], [], [32, 33, 34], [], [], [], []], [], by kernel_rfl, ?_⟩
    refine eqM (([(⟨1, a1, x1.Node⟩ : impl_Event)] : List impl_Event).map impl_Event.e) rfl ?_
    refine gdG h fun hc h => ?_
    refine anM (apB hc) ?_
    refine eqM ((a0.events ++ ([(⟨1, a1, x1.Node⟩ : impl_Event)] : List impl_Event)).map impl_Event.e) (mApp rfl rfl) ?_
    refine Re.mk 66 [(0, (.ptr 66 0 1 0)), (1, (.d (.p (.int .i64 a1)))), (7, (.ptr 7 0 2 0)), (8, (.ptr 8 0 2 0)), (9, (.d (.p (.int .i64 v2))))] [(7, 0, 2, (some (.box [(.d (.p (.int .i64 a3.Kind))), (.d (.p (.int .i64 a3.N)))]))), (8, 0, 2, (some (.box [(.d (.p (.int .i64 x1.Node))), (.d (.p (.int .i64 x1.Env)))]))), (66, 0, 1, (some (.box [(.own 66 1000 2), (.own 66 1001 2), (.own 66 1002 2), (.own 66 1003 2), (.d (.l true 7 (a0.l.map impl_Node.e))), (.own 66 1005 2), (.d (.p (.int .i64 a0.do_))), (.d (.p (.int .i64 a0.node))), (.d (.p (.int .i64 a0.env))), (.d (.p (.int .i64 a0.v_.Kind))), (.d (.p (.int .i64 a0.v_.N))), (.own 66 1011 2), (.own 66 1012 2), (.d (.p (.bool a0.stuck)))]))), (66, 1000, 2, (some (.row true true 5 (a0.Heap.Envs.map impl_EnvCell.e)))), (66, 1001, 2, (some (.row true true 2 (a0.Heap.Clos.map impl_Clo.e)))), (66, 1002, 2, (some (.row true true 4 (a0.Heap.Twos.map impl_Two.e)))), (66, 1003, 2, (some (.row true true 2 (a0.Heap.Refs.map impl_Val.e)))), (66, 1005, 2, (some (.row true true 2 (a0.uses.map impl_Bind.e)))), (66, 1011, 2, (some (.row true true 5 (a0.frames.map impl_frame.e)))), (66, 1012, 2, (some (.row true true 3 ((a0.events ++ ([(⟨1, a1, x1.Node⟩ : impl_Event)] : List impl_Event)).map impl_Event.e))))] (by exact ⟨rfl, ⟨(by kernel_rfl), (by kernel_rfl), (by kernel_rfl), (by kernel_rfl), (by kernel_rfl), trivial⟩, ⟨(by kernel_rfl), (by kernel_rfl), (by kernel_rfl), (by kernel_rfl), (by kernel_rfl), (by kernel_rfl), (by kernel_rfl), (by kernel_rfl), (by kernel_rfl), (by kernel_rfl), trivial⟩⟩) ?_
    intro e hp
    refine bindG h fun y5 hy6 h => ?_
    refine exM ([], [(.ptr y5.q)]) ?_ ?_
    · exact impl_machine_pass.ev hy6
    refine bindG h ?_
    rintro ⟨y7, y8⟩ hy9 h
    refine exM ([(.d (.p (.int .i64 y7)))], [(.ptr y8.q)]) ?_ ?_
    · exact impl_machine_cell.ev hy9
    refine ⟨[[], [], [59, 60], [59, 60], [59, 60], [56, 57, 58], [56, 57, 58], [], [], [], [], []], [], by kernel_rfl, ?_⟩
    refine bindG h fun x10 hx10 h => ?_
    refine anM (at_ix rfl hx10) ?_
    refine exM (impl_Node.e x10) (at_get rfl hx10) ?_
    refine bindG h fun y11 hy12 h => ?_
    refine exM ([], [(.ptr y11.q)]) ?_ ?_
    · exact impl_machine_look.ev hy12
    exact retE (enc := impl_machine_call.enc) h (by kernel_rfl)
def impl_machine_second.enc (r : impl_machine) : Res := ([], [(.ptr r.q)])
def impl_machine_second.f  (K : Nat) (a0 : impl_machine) (a1 : impl_frame) : Option (impl_machine) := (at_ a0.l a1.node).bind fun x1 => (if x1.Kind = 9 then ((impl_machine_two.f K a0 3 a1.v_ a0.v_).bind fun (y3, y4) => ((impl_machine_done.f K y4 a1.node y3).bind fun y6 => (some y6))) else (jn (fun (v8 : Bool) => if v8 = true then ((impl_machine_two.f K a0 4 a1.v_ a0.v_).bind fun (y13, y14) => ((impl_machine_done.f K y14 a1.node y13).bind fun y16 => (some y16))) else (jn (fun (v18 : Bool) => if v18 = true then ((at_ a0.Heap.Refs a1.v_.N).bind fun x21 => ((impl_machine_done.f K (⟨(⟨a0.Heap.Envs, a0.Heap.Clos, a0.Heap.Twos, (a0.Heap.Refs.set (a1.v_.N).toNat a0.v_)⟩ : impl_Heap), a0.l, a0.uses, a0.do_, a0.node, a0.env, a0.v_, a0.frames, a0.events, a0.stuck⟩ : impl_machine) a1.node (⟨0, 0⟩ : impl_Val)).bind fun y22 => (some y22))) else (jn (fun (v24 : Bool) => if v24 = true then ((impl_prim.f K x1.N a1.v_.N a0.v_.N).bind fun y28 => ((impl_machine_done.f K a0 a1.node (⟨0, y28⟩ : impl_Val)).bind fun y30 => (some y30))) else (jn (fun (v32 : Bool) => if v32 = true then ((impl_machine_call.f K a0 a1.node a1.v_ a0.v_).bind fun y35 => (some y35)) else (some (⟨a0.Heap, a0.l, a0.uses, a0.do_, a0.node, a0.env, a0.v_, a0.frames, a0.events, true⟩ : impl_machine))) (fun j => if x1.Kind = 4 then (j (decide (a1.v_.Kind = 1))) else (j false)))) (fun j => if x1.Kind = 8 then (if a1.v_.Kind = 0 then (j (decide (a0.v_.Kind = 0))) else (j false)) else (j false)))) (fun j => if x1.Kind = 17 then (j (decide (a1.v_.Kind = 5))) else (j false)))) (fun j => if x1.Kind = 13 then ((impl_isList.f K a0.v_).bind fun y10 => (j y10)) else (j false))))
theorem impl_machine_second.ev   {K : Nat} {a0 : impl_machine} {a1 : impl_frame} {r : impl_machine} (h : impl_machine_second.f  K a0 a1 = some r) : E 70 [(.ptr a0.q), (.agg (a1.e.map .d))] = some ([], [(.ptr r.q)]) := by
  refine Ev_intro (fn := Tryz.f70) rfl (by kernel_rfl) (c := _) rfl ⟨rfl, by simp⟩ (vs := [(.ptr 125 0 1 0), (.agg [(.d (.p (.int .i64 a1.wait))), (.d (.p (.int .i64 a1.node))), (.d (.p (.int .i64 a1.env))), (.d (.p (.int .i64 a1.v_.Kind))), (.d (.p (.int .i64 a1.v_.N)))])]) (h0 := ((((((((Hp.nil.put 125 1000 (1, (some (.row true true 5 (a0.Heap.Envs.map impl_EnvCell.e))))).put 125 1001 (1, (some (.row true true 2 (a0.Heap.Clos.map impl_Clo.e))))).put 125 1002 (1, (some (.row true true 4 (a0.Heap.Twos.map impl_Two.e))))).put 125 1003 (1, (some (.row true true 2 (a0.Heap.Refs.map impl_Val.e))))).put 125 1005 (1, (some (.row true true 2 (a0.uses.map impl_Bind.e))))).put 125 1011 (1, (some (.row true true 5 (a0.frames.map impl_frame.e))))).put 125 1012 (1, (some (.row true true 3 (a0.events.map impl_Event.e))))).put 125 0 (1, (some (.box [(.own 125 1000 1), (.own 125 1001 1), (.own 125 1002 1), (.own 125 1003 1), (.d (.l true 7 (a0.l.map impl_Node.e))), (.own 125 1005 1), (.d (.p (.int .i64 a0.do_))), (.d (.p (.int .i64 a0.node))), (.d (.p (.int .i64 a0.env))), (.d (.p (.int .i64 a0.v_.Kind))), (.d (.p (.int .i64 a0.v_.N))), (.own 125 1011 1), (.own 125 1012 1), (.d (.p (.bool a0.stuck)))]))))) (by kernel_rfl) (evP_spec _ ?_)
  unfold impl_machine_second.f at h
  refine goR ?_
  refine ⟨[[], [12, 13, 17, 18, 19, 4, 5], [12, 13, 17, 18, 19, 4, 5], [12, 13, 17, 18, 19, 4, 5], [9, 10, 11, 17, 18, 19, 4, 5], [9, 10, 11, 17, 18, 19, 4, 5], [17, 18, 19, 4, 5], [17, 18, 19, 4, 5], [], [9, 10, 11, 12, 13, 14, 15, 4, 5], [9, 10, 11, 12, 13, 14, 15, 4, 5], [9, 10, 11, 12, 13, 14, 15, 4, 5], [9, 10, 11, 12, 13, 14, 15, 17, 18, 19, 5], [9, 10, 11, 12, 13, 14, 15, 17, 18, 19, 4], [17, 999999, 0, 125, 145, 160, 18, 999999, 0, 125, 145, 160, 19, 999999, 0, 125, 145, 160], []], [[], [], [], [], [], [], [], [], [], [999999, 0, 125, 145, 160], [999999, 0, 125, 145, 160], [999999, 0, 125, 145, 160], [], [], [], []], by kernel_rfl, ?_⟩
  refine bindG h fun x1 hx1 h => ?_
  refine anM (at_ix rfl hx1) ?_
  refine exM (impl_Node.e x1) (at_get rfl hx1) ?_
  refine Re.mk 125 [(0, (.ptr 125 0 1 0)), (3, (.ptr 3 0 2 0)), (4, (.ptr 4 0 2 0)), (5, (.ptr 5 0 2 0))] [(3, 0, 2, (some (.box [(.d (.p (.int .i64 a1.wait))), (.d (.p (.int .i64 a1.node))), (.d (.p (.int .i64 a1.env))), (.d (.p (.int .i64 a1.v_.Kind))), (.d (.p (.int .i64 a1.v_.N)))]))), (4, 0, 2, (some (.box [(.d (.p (.int .i64 x1.Kind))), (.d (.p (.int .i64 x1.A))), (.d (.p (.int .i64 x1.B))), (.d (.p (.int .i64 x1.C))), (.d (.p (.int .i64 x1.N))), (.d (.p (.string x1.Name))), (.d (.p (.string x1.Other)))]))), (5, 0, 2, (some (.box [(.d (.p (.int .i64 a0.v_.Kind))), (.d (.p (.int .i64 a0.v_.N)))]))), (125, 0, 1, (some (.box [(.own 125 1000 2), (.own 125 1001 2), (.own 125 1002 2), (.own 125 1003 2), (.d (.l true 7 (a0.l.map impl_Node.e))), (.own 125 1005 2), (.d (.p (.int .i64 a0.do_))), (.d (.p (.int .i64 a0.node))), (.d (.p (.int .i64 a0.env))), (.d (.p (.int .i64 a0.v_.Kind))), (.d (.p (.int .i64 a0.v_.N))), (.own 125 1011 2), (.own 125 1012 2), (.d (.p (.bool a0.stuck)))]))), (125, 1000, 2, (some (.row true true 5 (a0.Heap.Envs.map impl_EnvCell.e)))), (125, 1001, 2, (some (.row true true 2 (a0.Heap.Clos.map impl_Clo.e)))), (125, 1002, 2, (some (.row true true 4 (a0.Heap.Twos.map impl_Two.e)))), (125, 1003, 2, (some (.row true true 2 (a0.Heap.Refs.map impl_Val.e)))), (125, 1005, 2, (some (.row true true 2 (a0.uses.map impl_Bind.e)))), (125, 1011, 2, (some (.row true true 5 (a0.frames.map impl_frame.e)))), (125, 1012, 2, (some (.row true true 3 (a0.events.map impl_Event.e))))] (by exact ⟨rfl, ⟨(by kernel_rfl), (by kernel_rfl), (by kernel_rfl), (by kernel_rfl), trivial⟩, ⟨(by kernel_rfl), (by kernel_rfl), (by kernel_rfl), (by kernel_rfl), (by kernel_rfl), (by kernel_rfl), (by kernel_rfl), (by kernel_rfl), (by kernel_rfl), (by kernel_rfl), (by kernel_rfl), trivial⟩⟩) ?_
  intro e hp
  try ((with_reducible apply cdX); exact rfl)
  refine iteF h (fun c2 h => ?_) (fun c2 h => ?_)
  · refine goR ?_
    refine bindG h ?_
    rintro ⟨y3, y4⟩ hy5 h
    refine exM ([(.agg (y3.e.map .d))], [(.ptr y4.q)]) ?_ ?_
    · exact impl_machine_two.ev hy5
    refine Re.mk 125 [(0, (.ptr 125 0 1 0)), (3, (.ptr 3 0 2 0)), (6, (.ptr 6 0 2 0))] [(3, 0, 2, (some (.box [(.d (.p (.int .i64 a1.wait))), (.d (.p (.int .i64 a1.node))), (.d (.p (.int .i64 a1.env))), (.d (.p (.int .i64 a1.v_.Kind))), (.d (.p (.int .i64 a1.v_.N)))]))), (6, 0, 2, (some (.box [(.d (.p (.int .i64 y3.Kind))), (.d (.p (.int .i64 y3.N)))]))), (125, 0, 1, (some (.box [(.own 125 1000 2), (.own 125 1001 2), (.own 125 1002 2), (.own 125 1003 2), (.d (.l true 7 (y4.l.map impl_Node.e))), (.own 125 1005 2), (.d (.p (.int .i64 y4.do_))), (.d (.p (.int .i64 y4.node))), (.d (.p (.int .i64 y4.env))), (.d (.p (.int .i64 y4.v_.Kind))), (.d (.p (.int .i64 y4.v_.N))), (.own 125 1011 2), (.own 125 1012 2), (.d (.p (.bool y4.stuck)))]))), (125, 1000, 2, (some (.row true true 5 (y4.Heap.Envs.map impl_EnvCell.e)))), (125, 1001, 2, (some (.row true true 2 (y4.Heap.Clos.map impl_Clo.e)))), (125, 1002, 2, (some (.row true true 4 (y4.Heap.Twos.map impl_Two.e)))), (125, 1003, 2, (some (.row true true 2 (y4.Heap.Refs.map impl_Val.e)))), (125, 1005, 2, (some (.row true true 2 (y4.uses.map impl_Bind.e)))), (125, 1011, 2, (some (.row true true 5 (y4.frames.map impl_frame.e)))), (125, 1012, 2, (some (.row true true 3 (y4.events.map impl_Event.e))))] (by exact ⟨rfl, ⟨(by kernel_rfl), (by kernel_rfl), (by kernel_rfl), trivial⟩, ⟨(by kernel_rfl), (by kernel_rfl), (by kernel_rfl), (by kernel_rfl), (by kernel_rfl), (by kernel_rfl), (by kernel_rfl), (by kernel_rfl), (by kernel_rfl), (by kernel_rfl), trivial⟩⟩) ?_
    intro e hp
    refine bindG h fun y6 hy7 h => ?_
    refine exM ([], [(.ptr y6.q)]) ?_ ?_
    · exact impl_machine_done.ev hy7
    exact retE (enc := impl_machine_second.enc) h (by kernel_rfl)
  · refine seqJ h 125 (fun x => [(0, (.ptr 125 0 1 0)), (3, (.ptr 3 0 2 0)), (4, (.ptr 4 0 2 0)), (5, (.ptr 5 0 2 0)), (37, (.d (.p (.bool x))))]) (fun x => [(3, 0, 2, (some (.box [(.d (.p (.int .i64 a1.wait))), (.d (.p (.int .i64 a1.node))), (.d (.p (.int .i64 a1.env))), (.d (.p (.int .i64 a1.v_.Kind))), (.d (.p (.int .i64 a1.v_.N)))]))), (4, 0, 2, (some (.box [(.d (.p (.int .i64 x1.Kind))), (.d (.p (.int .i64 x1.A))), (.d (.p (.int .i64 x1.B))), (.d (.p (.int .i64 x1.C))), (.d (.p (.int .i64 x1.N))), (.d (.p (.string x1.Name))), (.d (.p (.string x1.Other)))]))), (5, 0, 2, (some (.box [(.d (.p (.int .i64 a0.v_.Kind))), (.d (.p (.int .i64 a0.v_.N)))]))), (125, 0, 1, (some (.box [(.own 125 1000 2), (.own 125 1001 2), (.own 125 1002 2), (.own 125 1003 2), (.d (.l true 7 (a0.l.map impl_Node.e))), (.own 125 1005 2), (.d (.p (.int .i64 a0.do_))), (.d (.p (.int .i64 a0.node))), (.d (.p (.int .i64 a0.env))), (.d (.p (.int .i64 a0.v_.Kind))), (.d (.p (.int .i64 a0.v_.N))), (.own 125 1011 2), (.own 125 1012 2), (.d (.p (.bool a0.stuck)))]))), (125, 1000, 2, (some (.row true true 5 (a0.Heap.Envs.map impl_EnvCell.e)))), (125, 1001, 2, (some (.row true true 2 (a0.Heap.Clos.map impl_Clo.e)))), (125, 1002, 2, (some (.row true true 4 (a0.Heap.Twos.map impl_Two.e)))), (125, 1003, 2, (some (.row true true 2 (a0.Heap.Refs.map impl_Val.e)))), (125, 1005, 2, (some (.row true true 2 (a0.uses.map impl_Bind.e)))), (125, 1011, 2, (some (.row true true 5 (a0.frames.map impl_frame.e)))), (125, 1012, 2, (some (.row true true 3 (a0.events.map impl_Event.e))))]) (fun J h => ?_) ?_
    · try ((with_reducible apply cdX); exact rfl)
      refine iteF h (fun c9 h => ?_) (fun c9 h => ?_)
      · refine Ask.T rfl ?_
        refine bindG h fun y10 hy11 h => ?_
        refine exM ([(.d (.p (.bool y10)))], []) ?_ ?_
        · exact impl_isList.ev hy11
        refine Ask.T rfl ?_
        exact ⟨y10, h, ⟨rfl, ⟨(by kernel_rfl), (by kernel_rfl), (by kernel_rfl), (by kernel_rfl), (by kernel_rfl), trivial⟩, ⟨(by kernel_rfl), (by kernel_rfl), (by kernel_rfl), (by kernel_rfl), (by kernel_rfl), (by kernel_rfl), (by kernel_rfl), (by kernel_rfl), (by kernel_rfl), (by kernel_rfl), (by kernel_rfl), trivial⟩⟩⟩
      · refine Ask.F rfl ?_
        refine Ask.F rfl ?_
        exact ⟨false, h, ⟨rfl, ⟨(by kernel_rfl), (by kernel_rfl), (by kernel_rfl), (by kernel_rfl), (by kernel_rfl), trivial⟩, ⟨(by kernel_rfl), (by kernel_rfl), (by kernel_rfl), (by kernel_rfl), (by kernel_rfl), (by kernel_rfl), (by kernel_rfl), (by kernel_rfl), (by kernel_rfl), (by kernel_rfl), (by kernel_rfl), trivial⟩⟩⟩
    · rintro v8 h e hp
      try ((with_reducible apply cdX); exact rfl)
      refine ifB h (fun c12 h => ?_) (fun c12 h => ?_)
      · refine goR ?_
        refine bindG h ?_
        rintro ⟨y13, y14⟩ hy15 h
        refine exM ([(.agg (y13.e.map .d))], [(.ptr y14.q)]) ?_ ?_
        · exact impl_machine_two.ev hy15
        refine Re.mk 125 [(0, (.ptr 125 0 1 0)), (3, (.ptr 3 0 2 0)), (7, (.ptr 7 0 2 0))] [(3, 0, 2, (some (.box [(.d (.p (.int .i64 a1.wait))), (.d (.p (.int .i64 a1.node))), (.d (.p (.int .i64 a1.env))), (.d (.p (.int .i64 a1.v_.Kind))), (.d (.p (.int .i64 a1.v_.N)))]))), (7, 0, 2, (some (.box [(.d (.p (.int .i64 y13.Kind))), (.d (.p (.int .i64 y13.N)))]))), (125, 0, 1, (some (.box [(.own 125 1000 2), (.own 125 1001 2), (.own 125 1002 2), (.own 125 1003 2), (.d (.l true 7 (y14.l.map impl_Node.e))), (.own 125 1005 2), (.d (.p (.int .i64 y14.do_))), (.d (.p (.int .i64 y14.node))), (.d (.p (.int .i64 y14.env))), (.d (.p (.int .i64 y14.v_.Kind))), (.d (.p (.int .i64 y14.v_.N))), (.own 125 1011 2), (.own 125 1012 2), (.d (.p (.bool y14.stuck)))]))), (125, 1000, 2, (some (.row true true 5 (y14.Heap.Envs.map impl_EnvCell.e)))), (125, 1001, 2, (some (.row true true 2 (y14.Heap.Clos.map impl_Clo.e)))), (125, 1002, 2, (some (.row true true 4 (y14.Heap.Twos.map impl_Two.e)))), (125, 1003, 2, (some (.row true true 2 (y14.Heap.Refs.map impl_Val.e)))), (125, 1005, 2, (some (.row true true 2 (y14.uses.map impl_Bind.e)))), (125, 1011, 2, (some (.row true true 5 (y14.frames.map impl_frame.e)))), (125, 1012, 2, (some (.row true true 3 (y14.events.map impl_Event.e))))] (by exact ⟨rfl, ⟨(by kernel_rfl), (by kernel_rfl), (by kernel_rfl), trivial⟩, ⟨(by kernel_rfl), (by kernel_rfl), (by kernel_rfl), (by kernel_rfl), (by kernel_rfl), (by kernel_rfl), (by kernel_rfl), (by kernel_rfl), (by kernel_rfl), (by kernel_rfl), trivial⟩⟩) ?_
        intro e hp
        refine bindG h fun y16 hy17 h => ?_
        refine exM ([], [(.ptr y16.q)]) ?_ ?_
        · exact impl_machine_done.ev hy17
        exact retE (enc := impl_machine_second.enc) h (by kernel_rfl)
      · refine seqJ h 125 (fun x => [(0, (.ptr 125 0 1 0)), (3, (.ptr 3 0 2 0)), (4, (.ptr 4 0 2 0)), (5, (.ptr 5 0 2 0)), (55, (.d (.p (.bool x))))]) (fun x => [(3, 0, 2, (some (.box [(.d (.p (.int .i64 a1.wait))), (.d (.p (.int .i64 a1.node))), (.d (.p (.int .i64 a1.env))), (.d (.p (.int .i64 a1.v_.Kind))), (.d (.p (.int .i64 a1.v_.N)))]))), (4, 0, 2, (some (.box [(.d (.p (.int .i64 x1.Kind))), (.d (.p (.int .i64 x1.A))), (.d (.p (.int .i64 x1.B))), (.d (.p (.int .i64 x1.C))), (.d (.p (.int .i64 x1.N))), (.d (.p (.string x1.Name))), (.d (.p (.string x1.Other)))]))), (5, 0, 2, (some (.box [(.d (.p (.int .i64 a0.v_.Kind))), (.d (.p (.int .i64 a0.v_.N)))]))), (125, 0, 1, (some (.box [(.own 125 1000 2), (.own 125 1001 2), (.own 125 1002 2), (.own 125 1003 2), (.d (.l true 7 (a0.l.map impl_Node.e))), (.own 125 1005 2), (.d (.p (.int .i64 a0.do_))), (.d (.p (.int .i64 a0.node))), (.d (.p (.int .i64 a0.env))), (.d (.p (.int .i64 a0.v_.Kind))), (.d (.p (.int .i64 a0.v_.N))), (.own 125 1011 2), (.own 125 1012 2), (.d (.p (.bool a0.stuck)))]))), (125, 1000, 2, (some (.row true true 5 (a0.Heap.Envs.map impl_EnvCell.e)))), (125, 1001, 2, (some (.row true true 2 (a0.Heap.Clos.map impl_Clo.e)))), (125, 1002, 2, (some (.row true true 4 (a0.Heap.Twos.map impl_Two.e)))), (125, 1003, 2, (some (.row true true 2 (a0.Heap.Refs.map impl_Val.e)))), (125, 1005, 2, (some (.row true true 2 (a0.uses.map impl_Bind.e)))), (125, 1011, 2, (some (.row true true 5 (a0.frames.map impl_frame.e)))), (125, 1012, 2, (some (.row true true 3 (a0.events.map impl_Event.e))))]) (fun J h => ?_) ?_
        · try ((with_reducible apply cdX); exact rfl)
          refine iteF h (fun c19 h => ?_) (fun c19 h => ?_)
          · refine Ask.T rfl ?_
            refine Ask.T rfl ?_
            refine Ask.T rfl ?_
            refine Ask.T rfl ?_
            exact ⟨(decide (a1.v_.Kind = 5)), h, ⟨rfl, ⟨(by kernel_rfl), (by kernel_rfl), (by kernel_rfl), (by kernel_rfl), (by kernel_rfl), trivial⟩, ⟨(by kernel_rfl), (by kernel_rfl), (by kernel_rfl), (by kernel_rfl), (by kernel_rfl), (by kernel_rfl), (by kernel_rfl), (by kernel_rfl), (by kernel_rfl), (by kernel_rfl), (by kernel_rfl), trivial⟩⟩⟩
          · refine Ask.F rfl ?_
            refine Ask.F rfl ?_
            refine Ask.F rfl ?_
            refine Ask.F rfl ?_
            exact ⟨false, h, ⟨rfl, ⟨(by kernel_rfl), (by kernel_rfl), (by kernel_rfl), (by kernel_rfl), (by kernel_rfl), trivial⟩, ⟨(by kernel_rfl), (by kernel_rfl), (by kernel_rfl), (by kernel_rfl), (by kernel_rfl), (by kernel_rfl), (by kernel_rfl), (by kernel_rfl), (by kernel_rfl), (by kernel_rfl), (by kernel_rfl), trivial⟩⟩⟩
        · rintro v18 h e hp
          try ((with_reducible apply cdX); exact rfl)
          refine ifB h (fun c20 h => ?_) (fun c20 h => ?_)
          · refine goR ?_
            refine ⟨[[], [70, 71, 72, 73], [70, 71, 72, 73], [70, 71, 72, 73], [70, 71, 72, 73], [66, 67, 68, 69, 73], [66, 67, 68, 69, 73], [66, 67, 68, 69, 73], [66, 67, 68, 69, 70, 71, 72], [], []], [], by kernel_rfl, ?_⟩
            refine bindG h fun x21 hx21 h => ?_
            refine anM (at_ix rfl hx21) ?_
            refine exM (impl_Val.e x21) (at_get rfl hx21) ?_
            refine eqM ((a0.Heap.Refs.set (a1.v_.N).toNat a0.v_).map impl_Val.e) (mSet rfl rfl) ?_
            refine Re.mk 125 [(0, (.ptr 125 0 1 0)), (3, (.ptr 3 0 2 0))] [(3, 0, 2, (some (.box [(.d (.p (.int .i64 a1.wait))), (.d (.p (.int .i64 a1.node))), (.d (.p (.int .i64 a1.env))), (.d (.p (.int .i64 a1.v_.Kind))), (.d (.p (.int .i64 a1.v_.N)))]))), (125, 0, 1, (some (.box [(.own 125 1000 2), (.own 125 1001 2), (.own 125 1002 2), (.own 125 1003 2), (.d (.l true 7 (a0.l.map impl_Node.e))), (.own 125 1005 2), (.d (.p (.int .i64 a0.do_))), (.d (.p (.int .i64 a0.node))), (.d (.p (.int .i64 a0.env))), (.d (.p (.int .i64 a0.v_.Kind))), (.d (.p (.int .i64 a0.v_.N))), (.own 125 1011 2), (.own 125 1012 2), (.d (.p (.bool a0.stuck)))]))), (125, 1000, 2, (some (.row true true 5 (a0.Heap.Envs.map impl_EnvCell.e)))), (125, 1001, 2, (some (.row true true 2 (a0.Heap.Clos.map impl_Clo.e)))), (125, 1002, 2, (some (.row true true 4 (a0.Heap.Twos.map impl_Two.e)))), (125, 1003, 2, (some (.row true true 2 ((a0.Heap.Refs.set (a1.v_.N).toNat a0.v_).map impl_Val.e)))), (125, 1005, 2, (some (.row true true 2 (a0.uses.map impl_Bind.e)))), (125, 1011, 2, (some (.row true true 5 (a0.frames.map impl_frame.e)))), (125, 1012, 2, (some (.row true true 3 (a0.events.map impl_Event.e))))] (by exact ⟨rfl, ⟨(by kernel_rfl), (by kernel_rfl), trivial⟩, ⟨(by kernel_rfl), (by kernel_rfl), (by kernel_rfl), (by kernel_rfl), (by kernel_rfl), (by kernel_rfl), (by kernel_rfl), (by kernel_rfl), (by kernel_rfl), trivial⟩⟩) ?_
            intro e hp
            refine bindG h fun y22 hy23 h => ?_
            refine exM ([], [(.ptr y22.q)]) ?_ ?_
            · exact impl_machine_done.ev hy23
            exact retE (enc := impl_machine_second.enc) h (by kernel_rfl)
          · refine seqJ h 125 (fun x => [(0, (.ptr 125 0 1 0)), (3, (.ptr 3 0 2 0)), (4, (.ptr 4 0 2 0)), (5, (.ptr 5 0 2 0)), (80, (.d (.p (.bool x))))]) (fun x => [(3, 0, 2, (some (.box [(.d (.p (.int .i64 a1.wait))), (.d (.p (.int .i64 a1.node))), (.d (.p (.int .i64 a1.env))), (.d (.p (.int .i64 a1.v_.Kind))), (.d (.p (.int .i64 a1.v_.N)))]))), (4, 0, 2, (some (.box [(.d (.p (.int .i64 x1.Kind))), (.d (.p (.int .i64 x1.A))), (.d (.p (.int .i64 x1.B))), (.d (.p (.int .i64 x1.C))), (.d (.p (.int .i64 x1.N))), (.d (.p (.string x1.Name))), (.d (.p (.string x1.Other)))]))), (5, 0, 2, (some (.box [(.d (.p (.int .i64 a0.v_.Kind))), (.d (.p (.int .i64 a0.v_.N)))]))), (125, 0, 1, (some (.box [(.own 125 1000 2), (.own 125 1001 2), (.own 125 1002 2), (.own 125 1003 2), (.d (.l true 7 (a0.l.map impl_Node.e))), (.own 125 1005 2), (.d (.p (.int .i64 a0.do_))), (.d (.p (.int .i64 a0.node))), (.d (.p (.int .i64 a0.env))), (.d (.p (.int .i64 a0.v_.Kind))), (.d (.p (.int .i64 a0.v_.N))), (.own 125 1011 2), (.own 125 1012 2), (.d (.p (.bool a0.stuck)))]))), (125, 1000, 2, (some (.row true true 5 (a0.Heap.Envs.map impl_EnvCell.e)))), (125, 1001, 2, (some (.row true true 2 (a0.Heap.Clos.map impl_Clo.e)))), (125, 1002, 2, (some (.row true true 4 (a0.Heap.Twos.map impl_Two.e)))), (125, 1003, 2, (some (.row true true 2 (a0.Heap.Refs.map impl_Val.e)))), (125, 1005, 2, (some (.row true true 2 (a0.uses.map impl_Bind.e)))), (125, 1011, 2, (some (.row true true 5 (a0.frames.map impl_frame.e)))), (125, 1012, 2, (some (.row true true 3 (a0.events.map impl_Event.e))))]) (fun J h => ?_) ?_
            · try ((with_reducible apply cdX); exact rfl)
              refine iteF h (fun c25 h => ?_) (fun c25 h => ?_)
              · refine Ask.T rfl ?_
                refine Ask.T rfl ?_
                refine Ask.T rfl ?_
                refine Ask.T rfl ?_
                refine iteF h (fun c26 h => ?_) (fun c26 h => ?_)
                · refine Ask.T rfl ?_
                  refine Ask.T rfl ?_
                  refine Ask.T rfl ?_
                  exact ⟨(decide (a0.v_.Kind = 0)), h, ⟨rfl, ⟨(by kernel_rfl), (by kernel_rfl), (by kernel_rfl), (by kernel_rfl), (by kernel_rfl), trivial⟩, ⟨(by kernel_rfl), (by kernel_rfl), (by kernel_rfl), (by kernel_rfl), (by kernel_rfl), (by kernel_rfl), (by kernel_rfl), (by kernel_rfl), (by kernel_rfl), (by kernel_rfl), (by kernel_rfl), trivial⟩⟩⟩
                · refine Ask.F rfl ?_
                  refine Ask.F rfl ?_
                  refine Ask.F rfl ?_
                  exact ⟨false, h, ⟨rfl, ⟨(by kernel_rfl), (by kernel_rfl), (by kernel_rfl), (by kernel_rfl), (by kernel_rfl), trivial⟩, ⟨(by kernel_rfl), (by kernel_rfl), (by kernel_rfl), (by kernel_rfl), (by kernel_rfl), (by kernel_rfl), (by kernel_rfl), (by kernel_rfl), (by kernel_rfl), (by kernel_rfl), (by kernel_rfl), trivial⟩⟩⟩
              · refine Ask.F rfl ?_
                refine Ask.F rfl ?_
                refine Ask.F rfl ?_
                refine Ask.F rfl ?_
                refine Ask.F rfl ?_
                refine Ask.F rfl ?_
                refine Ask.F rfl ?_
                refine Ask.F rfl ?_
                exact ⟨false, h, ⟨rfl, ⟨(by kernel_rfl), (by kernel_rfl), (by kernel_rfl), (by kernel_rfl), (by kernel_rfl), trivial⟩, ⟨(by kernel_rfl), (by kernel_rfl), (by kernel_rfl), (by kernel_rfl), (by kernel_rfl), (by kernel_rfl), (by kernel_rfl), (by kernel_rfl), (by kernel_rfl), (by kernel_rfl), (by kernel_rfl), trivial⟩⟩⟩
            · rintro v24 h e hp
              try ((with_reducible apply cdX); exact rfl)
              refine ifB h (fun c27 h => ?_) (fun c27 h => ?_)
              · refine ⟨[[], [98, 99, 100, 101, 102, 103, 104, 105], [98, 99, 100, 101, 102, 103, 104, 105], [96, 97, 100, 101, 102, 103, 104], [96, 97, 100, 101, 102, 103, 104], [96, 97, 98, 99, 103, 104], [96, 97, 98, 99, 103, 104], [96, 97, 98, 99, 103, 104], [96, 97, 98, 99, 100, 101, 102], [96, 97, 98, 99, 100, 101, 102], [96, 97], [], []], [], by kernel_rfl, ?_⟩
                refine bindG h fun y28 hy29 h => ?_
                refine exM ([(.d (.p (.int .i64 y28)))], []) ?_ ?_
                · exact impl_prim.ev hy29
                refine bindG h fun y30 hy31 h => ?_
                refine exM ([], [(.ptr y30.q)]) ?_ ?_
                · exact impl_machine_done.ev hy31
                exact retE (enc := impl_machine_second.enc) h (by kernel_rfl)
              · refine seqJ h 125 (fun x => [(0, (.ptr 125 0 1 0)), (3, (.ptr 3 0 2 0)), (5, (.ptr 5 0 2 0)), (108, (.d (.p (.bool x))))]) (fun x => [(3, 0, 2, (some (.box [(.d (.p (.int .i64 a1.wait))), (.d (.p (.int .i64 a1.node))), (.d (.p (.int .i64 a1.env))), (.d (.p (.int .i64 a1.v_.Kind))), (.d (.p (.int .i64 a1.v_.N)))]))), (5, 0, 2, (some (.box [(.d (.p (.int .i64 a0.v_.Kind))), (.d (.p (.int .i64 a0.v_.N)))]))), (125, 0, 1, (some (.box [(.own 125 1000 2), (.own 125 1001 2), (.own 125 1002 2), (.own 125 1003 2), (.d (.l true 7 (a0.l.map impl_Node.e))), (.own 125 1005 2), (.d (.p (.int .i64 a0.do_))), (.d (.p (.int .i64 a0.node))), (.d (.p (.int .i64 a0.env))), (.d (.p (.int .i64 a0.v_.Kind))), (.d (.p (.int .i64 a0.v_.N))), (.own 125 1011 2), (.own 125 1012 2), (.d (.p (.bool a0.stuck)))]))), (125, 1000, 2, (some (.row true true 5 (a0.Heap.Envs.map impl_EnvCell.e)))), (125, 1001, 2, (some (.row true true 2 (a0.Heap.Clos.map impl_Clo.e)))), (125, 1002, 2, (some (.row true true 4 (a0.Heap.Twos.map impl_Two.e)))), (125, 1003, 2, (some (.row true true 2 (a0.Heap.Refs.map impl_Val.e)))), (125, 1005, 2, (some (.row true true 2 (a0.uses.map impl_Bind.e)))), (125, 1011, 2, (some (.row true true 5 (a0.frames.map impl_frame.e)))), (125, 1012, 2, (some (.row true true 3 (a0.events.map impl_Event.e))))]) (fun J h => ?_) ?_
                · try ((with_reducible apply cdX); exact rfl)
                  refine iteF h (fun c33 h => ?_) (fun c33 h => ?_)
                  · refine Ask.T rfl ?_
                    refine Ask.T rfl ?_
                    refine Ask.T rfl ?_
                    refine Ask.T rfl ?_
                    exact ⟨(decide (a1.v_.Kind = 1)), h, ⟨rfl, ⟨(by kernel_rfl), (by kernel_rfl), (by kernel_rfl), (by kernel_rfl), trivial⟩, ⟨(by kernel_rfl), (by kernel_rfl), (by kernel_rfl), (by kernel_rfl), (by kernel_rfl), (by kernel_rfl), (by kernel_rfl), (by kernel_rfl), (by kernel_rfl), (by kernel_rfl), trivial⟩⟩⟩
                  · refine Ask.F rfl ?_
                    refine Ask.F rfl ?_
                    refine Ask.F rfl ?_
                    refine Ask.F rfl ?_
                    exact ⟨false, h, ⟨rfl, ⟨(by kernel_rfl), (by kernel_rfl), (by kernel_rfl), (by kernel_rfl), trivial⟩, ⟨(by kernel_rfl), (by kernel_rfl), (by kernel_rfl), (by kernel_rfl), (by kernel_rfl), (by kernel_rfl), (by kernel_rfl), (by kernel_rfl), (by kernel_rfl), (by kernel_rfl), trivial⟩⟩⟩
                · rintro v32 h e hp
                  try ((with_reducible apply cdX); exact rfl)
                  refine ifB h (fun c34 h => ?_) (fun c34 h => ?_)
                  · refine bindG h fun y35 hy36 h => ?_
                    refine exM ([], [(.ptr y35.q)]) ?_ ?_
                    · exact impl_machine_call.ev hy36
                    exact retE (enc := impl_machine_second.enc) h (by kernel_rfl)
                  · exact retE (enc := impl_machine_second.enc) h (by kernel_rfl)
def impl_machine_step.enc (r : impl_machine) : Res := ([], [(.ptr r.q)])
def impl_machine_step.f  (K : Nat) (a0 : impl_machine) : Option (impl_machine) := if a0.do_ = 0 then ((impl_machine_looks.f K a0).bind fun y2 => (some y2)) else ((at_ a0.frames (w64 ((a0.frames.length : Int) - 1))).bind fun x4 => (gd (0 ≤ (0 : Int) ∧ (0 : Int) ≤ (w64 ((a0.frames.length : Int) - 1)) ∧ (w64 ((a0.frames.length : Int) - 1)) ≤ (a0.frames.length : Int)) (if a0.do_ = 2 then (jn (fun (v6 : Bool) => if v6 = true then ((impl_machine_pass.f K (⟨a0.Heap, a0.l, a0.uses, a0.do_, a0.node, a0.env, a0.v_, (a0.frames.take ((w64 ((a0.frames.length : Int) - 1))).toNat), a0.events, a0.stuck⟩ : impl_machine) x4.node).bind fun y10 => ((impl_machine_cell.f K y10 x4.node 0 y10.v_ x4.env).bind fun (y12, y13) => ((at_ y13.l x4.node).bind fun x15 => ((impl_machine_look.f K y13 x15.B y12).bind fun y16 => (some y16))))) else (some (⟨a0.Heap, a0.l, a0.uses, a0.do_, a0.node, a0.env, a0.v_, (a0.frames.take ((w64 ((a0.frames.length : Int) - 1))).toNat), a0.events, a0.stuck⟩ : impl_machine))) (fun j => if x4.wait = 1 then ((at_ a0.l x4.node).bind fun x8 => (j (decide (x8.Kind = 19)))) else (j false))) else (if x4.wait = 0 then ((impl_machine_done.f K (⟨a0.Heap, a0.l, a0.uses, a0.do_, a0.node, a0.env, a0.v_, (a0.frames.take ((w64 ((a0.frames.length : Int) - 1))).toNat), a0.events, a0.stuck⟩ : impl_machine) x4.node a0.v_).bind fun y19 => (some y19)) else (if x4.wait = 1 then ((impl_machine_first.f K (⟨a0.Heap, a0.l, a0.uses, a0.do_, a0.node, a0.env, a0.v_, (a0.frames.take ((w64 ((a0.frames.length : Int) - 1))).toNat), a0.events, a0.stuck⟩ : impl_machine) x4).bind fun y22 => (some y22)) else ((impl_machine_second.f K (⟨a0.Heap, a0.l, a0.uses, a0.do_, a0.node, a0.env, a0.v_, (a0.frames.take ((w64 ((a0.frames.length : Int) - 1))).toNat), a0.events, a0.stuck⟩ : impl_machine) x4).bind fun y24 => (some y24)))))))
theorem impl_machine_step.ev   {K : Nat} {a0 : impl_machine} {r : impl_machine} (h : impl_machine_step.f  K a0 = some r) : E 40 [(.ptr a0.q)] = some ([], [(.ptr r.q)]) := by
  refine Ev_intro (fn := Tryz.f40) rfl (by kernel_rfl) (c := _) rfl ⟨rfl, by simp⟩ (vs := [(.ptr 103 0 1 0)]) (h0 := ((((((((Hp.nil.put 103 1000 (1, (some (.row true true 5 (a0.Heap.Envs.map impl_EnvCell.e))))).put 103 1001 (1, (some (.row true true 2 (a0.Heap.Clos.map impl_Clo.e))))).put 103 1002 (1, (some (.row true true 4 (a0.Heap.Twos.map impl_Two.e))))).put 103 1003 (1, (some (.row true true 2 (a0.Heap.Refs.map impl_Val.e))))).put 103 1005 (1, (some (.row true true 2 (a0.uses.map impl_Bind.e))))).put 103 1011 (1, (some (.row true true 5 (a0.frames.map impl_frame.e))))).put 103 1012 (1, (some (.row true true 3 (a0.events.map impl_Event.e))))).put 103 0 (1, (some (.box [(.own 103 1000 1), (.own 103 1001 1), (.own 103 1002 1), (.own 103 1003 1), (.d (.l true 7 (a0.l.map impl_Node.e))), (.own 103 1005 1), (.d (.p (.int .i64 a0.do_))), (.d (.p (.int .i64 a0.node))), (.d (.p (.int .i64 a0.env))), (.d (.p (.int .i64 a0.v_.Kind))), (.d (.p (.int .i64 a0.v_.N))), (.own 103 1011 1), (.own 103 1012 1), (.d (.p (.bool a0.stuck)))]))))) (by kernel_rfl) (evP_spec _ ?_)
  unfold impl_machine_step.f at h
  refine goS ?_
  try ((with_reducible apply cdX); exact rfl)
  refine iteF h (fun c1 h => ?_) (fun c1 h => ?_)
  · refine bindG h fun y2 hy3 h => ?_
    refine exM ([], [(.ptr y2.q)]) ?_ ?_
    · exact impl_machine_looks.ev hy3
    exact retE (enc := impl_machine_step.enc) h (by kernel_rfl)
  · refine eqM ((a0.frames.length : Int) : Int) (mLen rfl) ?_
    refine goR ?_
    refine bindG h fun x4 hx4 h => ?_
    refine anM (at_ix rfl hx4) ?_
    refine exM (impl_frame.e x4) (at_get rfl hx4) ?_
    refine Re.mk 103 [(0, (.ptr 103 0 1 0)), (2, (.d (.p (.int .i64 (w64 ((a0.frames.length : Int) - 1)))))), (3, (.ptr 3 0 2 0))] [(3, 0, 2, (some (.box [(.d (.p (.int .i64 x4.wait))), (.d (.p (.int .i64 x4.node))), (.d (.p (.int .i64 x4.env))), (.d (.p (.int .i64 x4.v_.Kind))), (.d (.p (.int .i64 x4.v_.N)))]))), (103, 0, 1, (some (.box [(.own 103 1000 2), (.own 103 1001 2), (.own 103 1002 2), (.own 103 1003 2), (.d (.l true 7 (a0.l.map impl_Node.e))), (.own 103 1005 2), (.d (.p (.int .i64 a0.do_))), (.d (.p (.int .i64 a0.node))), (.d (.p (.int .i64 a0.env))), (.d (.p (.int .i64 a0.v_.Kind))), (.d (.p (.int .i64 a0.v_.N))), (.own 103 1011 2), (.own 103 1012 2), (.d (.p (.bool a0.stuck)))]))), (103, 1000, 2, (some (.row true true 5 (a0.Heap.Envs.map impl_EnvCell.e)))), (103, 1001, 2, (some (.row true true 2 (a0.Heap.Clos.map impl_Clo.e)))), (103, 1002, 2, (some (.row true true 4 (a0.Heap.Twos.map impl_Two.e)))), (103, 1003, 2, (some (.row true true 2 (a0.Heap.Refs.map impl_Val.e)))), (103, 1005, 2, (some (.row true true 2 (a0.uses.map impl_Bind.e)))), (103, 1011, 2, (some (.row true true 5 (a0.frames.map impl_frame.e)))), (103, 1012, 2, (some (.row true true 3 (a0.events.map impl_Event.e))))] (by exact ⟨rfl, ⟨(by kernel_rfl), (by kernel_rfl), (by kernel_rfl), trivial⟩, ⟨(by kernel_rfl), (by kernel_rfl), (by kernel_rfl), (by kernel_rfl), (by kernel_rfl), (by kernel_rfl), (by kernel_rfl), (by kernel_rfl), (by kernel_rfl), trivial⟩⟩) ?_
    intro e hp
    refine goR ?_
    refine gdG h fun hc h => ?_
    refine anM (slB hc) ?_
    refine eqM ((a0.frames.take ((w64 ((a0.frames.length : Int) - 1))).toNat).map impl_frame.e) (mTake rfl) ?_
    refine Re.mk 103 [(0, (.ptr 103 0 1 0)), (3, (.ptr 3 0 2 0))] [(3, 0, 2, (some (.box [(.d (.p (.int .i64 x4.wait))), (.d (.p (.int .i64 x4.node))), (.d (.p (.int .i64 x4.env))), (.d (.p (.int .i64 x4.v_.Kind))), (.d (.p (.int .i64 x4.v_.N)))]))), (103, 0, 1, (some (.box [(.own 103 1000 2), (.own 103 1001 2), (.own 103 1002 2), (.own 103 1003 2), (.d (.l true 7 (a0.l.map impl_Node.e))), (.own 103 1005 2), (.d (.p (.int .i64 a0.do_))), (.d (.p (.int .i64 a0.node))), (.d (.p (.int .i64 a0.env))), (.d (.p (.int .i64 a0.v_.Kind))), (.d (.p (.int .i64 a0.v_.N))), (.own 103 1011 2), (.own 103 1012 2), (.d (.p (.bool a0.stuck)))]))), (103, 1000, 2, (some (.row true true 5 (a0.Heap.Envs.map impl_EnvCell.e)))), (103, 1001, 2, (some (.row true true 2 (a0.Heap.Clos.map impl_Clo.e)))), (103, 1002, 2, (some (.row true true 4 (a0.Heap.Twos.map impl_Two.e)))), (103, 1003, 2, (some (.row true true 2 (a0.Heap.Refs.map impl_Val.e)))), (103, 1005, 2, (some (.row true true 2 (a0.uses.map impl_Bind.e)))), (103, 1011, 2, (some (.row true true 5 ((a0.frames.take ((w64 ((a0.frames.length : Int) - 1))).toNat).map impl_frame.e)))), (103, 1012, 2, (some (.row true true 3 (a0.events.map impl_Event.e))))] (by exact ⟨rfl, ⟨(by kernel_rfl), (by kernel_rfl), trivial⟩, ⟨(by kernel_rfl), (by kernel_rfl), (by kernel_rfl), (by kernel_rfl), (by kernel_rfl), (by kernel_rfl), (by kernel_rfl), (by kernel_rfl), (by kernel_rfl), trivial⟩⟩) ?_
    intro e hp
    try ((with_reducible apply cdX); exact rfl)
    refine iteF h (fun c5 h => ?_) (fun c5 h => ?_)
    · refine seqJ h 103 (fun x => [(0, (.ptr 103 0 1 0)), (3, (.ptr 3 0 2 0)), (57, (.d (.p (.bool x))))]) (fun x => [(3, 0, 2, (some (.box [(.d (.p (.int .i64 x4.wait))), (.d (.p (.int .i64 x4.node))), (.d (.p (.int .i64 x4.env))), (.d (.p (.int .i64 x4.v_.Kind))), (.d (.p (.int .i64 x4.v_.N)))]))), (103, 0, 1, (some (.box [(.own 103 1000 2), (.own 103 1001 2), (.own 103 1002 2), (.own 103 1003 2), (.d (.l true 7 (a0.l.map impl_Node.e))), (.own 103 1005 2), (.d (.p (.int .i64 a0.do_))), (.d (.p (.int .i64 a0.node))), (.d (.p (.int .i64 a0.env))), (.d (.p (.int .i64 a0.v_.Kind))), (.d (.p (.int .i64 a0.v_.N))), (.own 103 1011 2), (.own 103 1012 2), (.d (.p (.bool a0.stuck)))]))), (103, 1000, 2, (some (.row true true 5 (a0.Heap.Envs.map impl_EnvCell.e)))), (103, 1001, 2, (some (.row true true 2 (a0.Heap.Clos.map impl_Clo.e)))), (103, 1002, 2, (some (.row true true 4 (a0.Heap.Twos.map impl_Two.e)))), (103, 1003, 2, (some (.row true true 2 (a0.Heap.Refs.map impl_Val.e)))), (103, 1005, 2, (some (.row true true 2 (a0.uses.map impl_Bind.e)))), (103, 1011, 2, (some (.row true true 5 ((a0.frames.take ((w64 ((a0.frames.length : Int) - 1))).toNat).map impl_frame.e)))), (103, 1012, 2, (some (.row true true 3 (a0.events.map impl_Event.e))))]) (fun J h => ?_) ?_
      · refine ⟨[[], [], [], [], [], [51, 52], [51, 52], [51, 52], [48, 49, 50], [48, 49, 50], [], [], [], [], []], [], by kernel_rfl, ?_⟩
        refine iteF h (fun c7 h => ?_) (fun c7 h => ?_)
        · refine Ask.T rfl ?_
          refine Ask.T rfl ?_
          refine Ask.T rfl ?_
          refine Ask.T rfl ?_
          refine Ask.T rfl ?_
          refine Ask.T rfl ?_
          refine bindG h fun x8 hx8 h => ?_
          refine anM (at_ix rfl hx8) ?_
          refine Ask.T rfl ?_
          refine Ask.T rfl ?_
          refine exM (impl_Node.e x8) (at_get rfl hx8) ?_
          refine Ask.T rfl ?_
          refine Ask.T rfl ?_
          exact ⟨(decide (x8.Kind = 19)), h, ⟨rfl, ⟨(by kernel_rfl), (by kernel_rfl), (by kernel_rfl), trivial⟩, ⟨(by kernel_rfl), (by kernel_rfl), (by kernel_rfl), (by kernel_rfl), (by kernel_rfl), (by kernel_rfl), (by kernel_rfl), (by kernel_rfl), (by kernel_rfl), trivial⟩⟩⟩
        · refine Ask.F rfl ?_
          refine Ask.F rfl ?_
          refine Ask.F rfl ?_
          refine Ask.F rfl ?_
          refine Ask.F rfl ?_
          refine Ask.F rfl ?_
          refine Ask.F rfl ?_
          refine Ask.F rfl ?_
          refine Ask.F rfl ?_
          refine Ask.F rfl ?_
          exact ⟨false, h, ⟨rfl, ⟨(by kernel_rfl), (by kernel_rfl), (by kernel_rfl), trivial⟩, ⟨(by kernel_rfl), (by kernel_rfl), (by kernel_rfl), (by kernel_rfl), (by kernel_rfl), (by kernel_rfl), (by kernel_rfl), (by kernel_rfl), (by kernel_rfl), trivial⟩⟩⟩
      · rintro v6 h e hp
        try ((with_reducible apply cdX); exact rfl)
        refine ifB h (fun c9 h => ?_) (fun c9 h => ?_)
        · refine bindG h fun y10 hy11 h => ?_
          refine exM ([], [(.ptr y10.q)]) ?_ ?_
          · exact impl_machine_pass.ev hy11
          refine ⟨[[], [66, 67, 68, 69, 70], [66, 67, 68, 69, 70], [], [63, 64, 69, 70], [63, 64, 69, 70], [63, 64, 69, 70], [63, 64, 66, 67, 68], [63, 64, 66, 67, 68], [], []], [], by kernel_rfl, ?_⟩
          refine bindG h ?_
          rintro ⟨y12, y13⟩ hy14 h
          refine exM ([(.d (.p (.int .i64 y12)))], [(.ptr y13.q)]) ?_ ?_
          · exact impl_machine_cell.ev hy14
          refine ⟨[[], [], [77, 78], [77, 78], [77, 78], [74, 75, 76], [74, 75, 76], [], [], [], [], []], [], by kernel_rfl, ?_⟩
          refine bindG h fun x15 hx15 h => ?_
          refine anM (at_ix rfl hx15) ?_
          refine exM (impl_Node.e x15) (at_get rfl hx15) ?_
          refine bindG h fun y16 hy17 h => ?_
          refine exM ([], [(.ptr y16.q)]) ?_ ?_
          · exact impl_machine_look.ev hy17
          exact retE (enc := impl_machine_step.enc) h (by kernel_rfl)
        · exact retE (enc := impl_machine_step.enc) h (by kernel_rfl)
    · try ((with_reducible apply cdX); exact rfl)
      refine iteF h (fun c18 h => ?_) (fun c18 h => ?_)
      · refine ⟨[[], [92, 93, 94], [92, 93, 94], [], [89, 90], [89, 90], [89, 90], []], [], by kernel_rfl, ?_⟩
        refine bindG h fun y19 hy20 h => ?_
        refine exM ([], [(.ptr y19.q)]) ?_ ?_
        · exact impl_machine_done.ev hy20
        exact retE (enc := impl_machine_step.enc) h (by kernel_rfl)
      · try ((with_reducible apply cdX); exact rfl)
        refine iteF h (fun c21 h => ?_) (fun c21 h => ?_)
        · refine bindG h fun y22 hy23 h => ?_
          refine exM ([], [(.ptr y22.q)]) ?_ ?_
          · exact impl_machine_first.ev hy23
          exact retE (enc := impl_machine_step.enc) h (by kernel_rfl)
        · refine bindG h fun y24 hy25 h => ?_
          refine exM ([], [(.ptr y24.q)]) ?_ ?_
          · exact impl_machine_second.ev hy25
          exact retE (enc := impl_machine_step.enc) h (by kernel_rfl)
def impl_Run.enc (r : impl_Result) : Res := ([(.agg (r.e.map .d))], [])
def impl_Run.l0 (a1 : Int) (K : Nat) : Nat → impl_machine → impl_Result → Option (impl_machine × impl_Result)
  | 0, _, _ => none
  | k + 1, v14, v15 => jn (fun (v18 : Bool) => if v18 = true then ((impl_Dec.f v14.v_.N).bind fun y21 => (if v14.do_ = 1 then ((impl_Heap_show.f K v14.Heap v14.v_ 4).bind fun (y24, y25) => (some ((⟨y25, v14.l, v14.uses, v14.do_, v14.node, v14.env, v14.v_, v14.frames, v14.events, v14.stuck⟩ : impl_machine), (⟨1, y24, v14.v_.Kind, v15.Steps, v15.Events⟩ : impl_Result)))) else (some (v14, (⟨2, y21, v15.Tag, v15.Steps, v15.Events⟩ : impl_Result))))) else (if v15.Steps = a1 then (some (v14, v15)) else ((impl_machine_step.f K v14).bind fun y28 => (if y28.stuck = true then (some (y28, (⟨4, v15.Text, v15.Tag, (w64 (v15.Steps + 1)), v15.Events⟩ : impl_Result))) else (impl_Run.l0 a1 K k y28 (⟨v15.Kind, v15.Text, v15.Tag, (w64 (v15.Steps + 1)), v15.Events⟩ : impl_Result)))))) (fun j => if (!(decide (v14.do_ = 0))) = true then (j (decide ((v14.frames.length : Int) = 0))) else (j false))
def impl_Run.f  (K : Nat) (a0 : List impl_Node) (a1 : Int) : Option (impl_Result) := jn (fun (v1 : Bool) => if v1 = true then (some (⟨0, (⟨#[]⟩ : ByteArray), 0, 0, ([] : List impl_Event)⟩ : impl_Result)) else ((impl_binders.f K a0).bind fun y8 => ((impl_machine_look.f K (⟨(⟨([] : List impl_EnvCell), ([] : List impl_Clo), ([] : List impl_Two), ([] : List impl_Val)⟩ : impl_Heap), a0, y8, 0, 0, 0, (⟨0, 0⟩ : impl_Val), ([] : List impl_frame), ([] : List impl_Event), false⟩ : impl_machine) (w64 ((a0.length : Int) - 1)) (-1)).bind fun y10 => (jn (fun (v12, v13) => some (⟨v13.Kind, v13.Text, v13.Tag, v13.Steps, v12.events⟩ : impl_Result)) (fun j => (impl_Run.l0 a1 K K y10 (⟨3, (⟨#[]⟩ : ByteArray), 0, 0, ([] : List impl_Event)⟩ : impl_Result)).bind fun (v16, v17) => j (v16, v17)))))) (fun j => (impl_Closed.f K a0).bind fun y2 => (if (!y2) = true then (j true) else ((impl_in.f K a1 0 3000).bind fun y5 => (j (!y5)))))
theorem impl_Run.ev   {K : Nat} {a0 : List impl_Node} {a1 : Int} {r : impl_Result} (h : impl_Run.f  K a0 a1 = some r) : E 12 [(.d (.l true 7 (a0.map impl_Node.e))), (.d (.p (.int .i64 a1)))] = some ([(.agg (r.e.map .d))], []) := by
  refine Ev_intro (fn := Tryz.f12) rfl (by kernel_rfl) (c := _) rfl ⟨rfl, by simp⟩ rfl (evP_spec _ ?_)
  unfold impl_Run.f at h
  refine goS ?_
  refine seqJ h 90 (fun x => [(0, (.d (.l true 7 (a0.map impl_Node.e)))), (1, (.d (.p (.int .i64 a1)))), (4, (.ptr 4 0 2 0)), (14, (.d (.p (.bool x))))]) (fun x => [(4, 0, 2, (some (.box [(.d (.p (.int .i64 0))), (.d (.p (.string (⟨#[]⟩ : ByteArray)))), (.d (.p (.int .i64 0))), (.d (.p (.int .i64 0))), (.own 4 1004 2)]))), (4, 1004, 2, (some (.row true true 3 (([] : List impl_Event).map impl_Event.e))))]) (fun J h => ?_) ?_
  · refine bindG h fun y2 hy3 h => ?_
    refine exM ([(.d (.p (.bool y2)))], []) ?_ ?_
    · exact impl_Closed.ev hy3
    refine ifB h (fun c4 h => ?_) (fun c4 h => ?_)
    · refine Ask.T rfl ?_
      refine Ask.T rfl ?_
      refine Ask.T rfl ?_
      exact ⟨true, h, ⟨rfl, ⟨rfl, rfl, rfl, rfl, trivial⟩, ⟨rfl, rfl, trivial⟩⟩⟩
    · refine Ask.F rfl ?_
      refine bindG h fun y5 hy6 h => ?_
      refine exM ([(.d (.p (.bool y5)))], []) ?_ ?_
      · exact impl_in.ev hy6
      refine Ask.F rfl ?_
      refine Ask.F rfl ?_
      exact ⟨(!y5), h, ⟨rfl, ⟨rfl, rfl, rfl, rfl, trivial⟩, ⟨rfl, rfl, trivial⟩⟩⟩
  · rintro v1 h e hp
    try ((with_reducible apply cdX); exact rfl)
    refine ifB h (fun c7 h => ?_) (fun c7 h => ?_)
    · refine goS ?_
      exact retE (enc := impl_Run.enc) h rfl
    · refine bindG h fun y8 hy9 h => ?_
      refine exM ([(.own true 2 (y8.map impl_Bind.e))], []) ?_ ?_
      · exact impl_binders.ev hy9
      refine eqM ((a0.length : Int) : Int) (mLen rfl) ?_
      refine bindG h fun y10 hy11 h => ?_
      refine exM ([], [(.ptr y10.q)]) ?_ ?_
      · exact impl_machine_look.ev hy11
      refine goS ?_
      refine seqJ h 90 (fun x => [(4, (.ptr 4 0 2 0)), (5, (.ptr 20 0 2 0)), (6, (.ptr 6 0 2 0))]) (fun x => [(4, 0, 2, (some (.box [(.d (.p (.int .i64 0))), (.d (.p (.string (⟨#[]⟩ : ByteArray)))), (.d (.p (.int .i64 0))), (.d (.p (.int .i64 0))), (.own 4 1004 2)]))), (4, 1004, 2, (some (.row true true 3 (([] : List impl_Event).map impl_Event.e)))), (6, 0, 2, (some (.box [(.d (.p (.int .i64 x.2.Kind))), (.d (.p (.string x.2.Text))), (.d (.p (.int .i64 x.2.Tag))), (.d (.p (.int .i64 x.2.Steps))), (.own 6 1004 2)]))), (6, 1004, 2, (some (.row true true 3 (x.2.Events.map impl_Event.e)))), (20, 0, 2, (some (.box [(.own 20 1000 2), (.own 20 1001 2), (.own 20 1002 2), (.own 20 1003 2), (.d (.l true 7 (x.1.l.map impl_Node.e))), (.own 20 1005 2), (.d (.p (.int .i64 x.1.do_))), (.d (.p (.int .i64 x.1.node))), (.d (.p (.int .i64 x.1.env))), (.d (.p (.int .i64 x.1.v_.Kind))), (.d (.p (.int .i64 x.1.v_.N))), (.own 20 1011 2), (.own 20 1012 2), (.d (.p (.bool x.1.stuck)))]))), (20, 1000, 2, (some (.row true true 5 (x.1.Heap.Envs.map impl_EnvCell.e)))), (20, 1001, 2, (some (.row true true 2 (x.1.Heap.Clos.map impl_Clo.e)))), (20, 1002, 2, (some (.row true true 4 (x.1.Heap.Twos.map impl_Two.e)))), (20, 1003, 2, (some (.row true true 2 (x.1.Heap.Refs.map impl_Val.e)))), (20, 1005, 2, (some (.row true true 2 (x.1.uses.map impl_Bind.e)))), (20, 1011, 2, (some (.row true true 5 (x.1.frames.map impl_frame.e)))), (20, 1012, 2, (some (.row true true 3 (x.1.events.map impl_Event.e))))]) (fun J h => ?_) ?_
      · refine loopX (α := impl_machine × impl_Result) (a := (y10, (⟨3, (⟨#[]⟩ : ByteArray), 0, 0, ([] : List impl_Event)⟩ : impl_Result))) 90 (fun x => [(1, (.d (.p (.int .i64 a1)))), (4, (.ptr 4 0 2 0)), (5, (.ptr 20 0 2 0)), (6, (.ptr 6 0 2 0))]) (fun x => [(4, 0, 2, (some (.box [(.d (.p (.int .i64 0))), (.d (.p (.string (⟨#[]⟩ : ByteArray)))), (.d (.p (.int .i64 0))), (.d (.p (.int .i64 0))), (.own 4 1004 2)]))), (4, 1004, 2, (some (.row true true 3 (([] : List impl_Event).map impl_Event.e)))), (6, 0, 2, (some (.box [(.d (.p (.int .i64 x.2.Kind))), (.d (.p (.string x.2.Text))), (.d (.p (.int .i64 x.2.Tag))), (.d (.p (.int .i64 x.2.Steps))), (.own 6 1004 2)]))), (6, 1004, 2, (some (.row true true 3 (x.2.Events.map impl_Event.e)))), (20, 0, 2, (some (.box [(.own 20 1000 2), (.own 20 1001 2), (.own 20 1002 2), (.own 20 1003 2), (.d (.l true 7 (x.1.l.map impl_Node.e))), (.own 20 1005 2), (.d (.p (.int .i64 x.1.do_))), (.d (.p (.int .i64 x.1.node))), (.d (.p (.int .i64 x.1.env))), (.d (.p (.int .i64 x.1.v_.Kind))), (.d (.p (.int .i64 x.1.v_.N))), (.own 20 1011 2), (.own 20 1012 2), (.d (.p (.bool x.1.stuck)))]))), (20, 1000, 2, (some (.row true true 5 (x.1.Heap.Envs.map impl_EnvCell.e)))), (20, 1001, 2, (some (.row true true 2 (x.1.Heap.Clos.map impl_Clo.e)))), (20, 1002, 2, (some (.row true true 4 (x.1.Heap.Twos.map impl_Two.e)))), (20, 1003, 2, (some (.row true true 2 (x.1.Heap.Refs.map impl_Val.e)))), (20, 1005, 2, (some (.row true true 2 (x.1.uses.map impl_Bind.e)))), (20, 1011, 2, (some (.row true true 5 (x.1.frames.map impl_frame.e)))), (20, 1012, 2, (some (.row true true 3 (x.1.events.map impl_Event.e))))]) (fun k x => impl_Run.l0 a1 K k x.1 x.2) 0 (fun x => [(4, (.ptr 4 0 2 0)), (5, (.ptr 20 0 2 0)), (6, (.ptr 6 0 2 0))]) (fun x => [(4, 0, 2, (some (.box [(.d (.p (.int .i64 0))), (.d (.p (.string (⟨#[]⟩ : ByteArray)))), (.d (.p (.int .i64 0))), (.d (.p (.int .i64 0))), (.own 4 1004 2)]))), (4, 1004, 2, (some (.row true true 3 (([] : List impl_Event).map impl_Event.e)))), (6, 0, 2, (some (.box [(.d (.p (.int .i64 x.2.Kind))), (.d (.p (.string x.2.Text))), (.d (.p (.int .i64 x.2.Tag))), (.d (.p (.int .i64 x.2.Steps))), (.own 6 1004 2)]))), (6, 1004, 2, (some (.row true true 3 (x.2.Events.map impl_Event.e)))), (20, 0, 2, (some (.box [(.own 20 1000 2), (.own 20 1001 2), (.own 20 1002 2), (.own 20 1003 2), (.d (.l true 7 (x.1.l.map impl_Node.e))), (.own 20 1005 2), (.d (.p (.int .i64 x.1.do_))), (.d (.p (.int .i64 x.1.node))), (.d (.p (.int .i64 x.1.env))), (.d (.p (.int .i64 x.1.v_.Kind))), (.d (.p (.int .i64 x.1.v_.N))), (.own 20 1011 2), (.own 20 1012 2), (.d (.p (.bool x.1.stuck)))]))), (20, 1000, 2, (some (.row true true 5 (x.1.Heap.Envs.map impl_EnvCell.e)))), (20, 1001, 2, (some (.row true true 2 (x.1.Heap.Clos.map impl_Clo.e)))), (20, 1002, 2, (some (.row true true 4 (x.1.Heap.Twos.map impl_Two.e)))), (20, 1003, 2, (some (.row true true 2 (x.1.Heap.Refs.map impl_Val.e)))), (20, 1005, 2, (some (.row true true 2 (x.1.uses.map impl_Bind.e)))), (20, 1011, 2, (some (.row true true 5 (x.1.frames.map impl_frame.e)))), (20, 1012, 2, (some (.row true true 3 (x.1.events.map impl_Event.e))))]) h (fun _ => rfl) ?_ ⟨rfl, ⟨rfl, rfl, rfl, rfl, trivial⟩, ⟨rfl, rfl, rfl, rfl, rfl, rfl, rfl, rfl, rfl, rfl, rfl, rfl, trivial⟩⟩ ?_
        · rintro k ⟨v14, v15⟩ r h e hp
          replace h : impl_Run.l0 a1 K (k + 1) v14 v15 = some r := h
          unfold impl_Run.l0 at h
          refine goS ?_
          refine seqJ h 90 (fun x => [(1, (.d (.p (.int .i64 a1)))), (4, (.ptr 4 0 2 0)), (5, (.ptr 20 0 2 0)), (6, (.ptr 6 0 2 0)), (39, (.d (.p (.bool x))))]) (fun x => [(4, 0, 2, (some (.box [(.d (.p (.int .i64 0))), (.d (.p (.string (⟨#[]⟩ : ByteArray)))), (.d (.p (.int .i64 0))), (.d (.p (.int .i64 0))), (.own 4 1004 2)]))), (4, 1004, 2, (some (.row true true 3 (([] : List impl_Event).map impl_Event.e)))), (6, 0, 2, (some (.box [(.d (.p (.int .i64 v15.Kind))), (.d (.p (.string v15.Text))), (.d (.p (.int .i64 v15.Tag))), (.d (.p (.int .i64 v15.Steps))), (.own 6 1004 2)]))), (6, 1004, 2, (some (.row true true 3 (v15.Events.map impl_Event.e)))), (20, 0, 2, (some (.box [(.own 20 1000 2), (.own 20 1001 2), (.own 20 1002 2), (.own 20 1003 2), (.d (.l true 7 (v14.l.map impl_Node.e))), (.own 20 1005 2), (.d (.p (.int .i64 v14.do_))), (.d (.p (.int .i64 v14.node))), (.d (.p (.int .i64 v14.env))), (.d (.p (.int .i64 v14.v_.Kind))), (.d (.p (.int .i64 v14.v_.N))), (.own 20 1011 2), (.own 20 1012 2), (.d (.p (.bool v14.stuck)))]))), (20, 1000, 2, (some (.row true true 5 (v14.Heap.Envs.map impl_EnvCell.e)))), (20, 1001, 2, (some (.row true true 2 (v14.Heap.Clos.map impl_Clo.e)))), (20, 1002, 2, (some (.row true true 4 (v14.Heap.Twos.map impl_Two.e)))), (20, 1003, 2, (some (.row true true 2 (v14.Heap.Refs.map impl_Val.e)))), (20, 1005, 2, (some (.row true true 2 (v14.uses.map impl_Bind.e)))), (20, 1011, 2, (some (.row true true 5 (v14.frames.map impl_frame.e)))), (20, 1012, 2, (some (.row true true 3 (v14.events.map impl_Event.e))))]) (fun J h => ?_) ?_
          · try ((with_reducible apply cdX); exact rfl)
            refine ifB h (fun c19 h => ?_) (fun c19 h => ?_)
            · refine Ask.T rfl ?_
              refine Ask.T rfl ?_
              refine Ask.T rfl ?_
              refine Ask.T rfl ?_
              refine eqM ((v14.frames.length : Int) : Int) (mLen rfl) ?_
              refine Ask.T rfl ?_
              refine Ask.T rfl ?_
              exact ⟨(decide ((v14.frames.length : Int) = 0)), h, ⟨rfl, ⟨rfl, rfl, rfl, rfl, rfl, trivial⟩, ⟨rfl, rfl, rfl, rfl, rfl, rfl, rfl, rfl, rfl, rfl, rfl, rfl, trivial⟩⟩⟩
            · refine Ask.F rfl ?_
              refine Ask.F rfl ?_
              refine Ask.F rfl ?_
              refine Ask.F rfl ?_
              refine Ask.F rfl ?_
              refine Ask.F rfl ?_
              exact ⟨false, h, ⟨rfl, ⟨rfl, rfl, rfl, rfl, rfl, trivial⟩, ⟨rfl, rfl, rfl, rfl, rfl, rfl, rfl, rfl, rfl, rfl, rfl, rfl, trivial⟩⟩⟩
          · rintro v18 h e hp
            try ((with_reducible apply cdX); exact rfl)
            refine ifB h (fun c20 h => ?_) (fun c20 h => ?_)
            · refine goS ?_
              refine bindG h fun y21 hy22 h => ?_
              refine exM ([(.d (.p (.string y21)))], []) ?_ ?_
              · exact impl_Dec.ev hy22
              refine goS ?_
              try ((with_reducible apply cdX); exact rfl)
              refine iteF h (fun c23 h => ?_) (fun c23 h => ?_)
              · refine ⟨[[], [57, 58, 59, 62, 63, 64, 65, 66], [57, 58, 59, 62, 63, 64, 65, 66], [], [54, 55, 62, 63, 64, 65, 66], [54, 55, 62, 63, 64, 65, 66], [54, 55, 62, 63, 64, 65, 66], [62, 63, 64, 65, 66], [], [54, 55, 57, 58, 59, 60, 66, 67], [54, 55, 57, 58, 59, 60, 66, 67], [54, 55, 57, 58, 59, 60, 66, 67], [54, 55, 57, 58, 59, 60, 66, 67], [54, 55, 57, 58, 59, 60, 62, 63, 64, 65], [62, 999999, 5, 20, 63, 999999, 5, 20, 64, 999999, 5, 20, 65, 999999, 5, 20], [62, 63, 64, 65], [62, 999999, 5, 20, 63, 999999, 5, 20, 64, 999999, 5, 20, 65, 999999, 5, 20], [], []], [[], [], [], [], [], [], [], [], [], [999997, 10, 4, 5, 6, 7, 8, 9, 10, 11, 12, 13, 999999, 5, 20], [999997, 10, 4, 5, 6, 7, 8, 9, 10, 11, 12, 13, 999999, 5, 20], [999997, 10, 4, 5, 6, 7, 8, 9, 10, 11, 12, 13, 999999, 5, 20], [999997, 10, 4, 5, 6, 7, 8, 9, 10, 11, 12, 13, 999999, 5, 20], [999998, 4, 5, 6, 7, 8, 9, 10, 11, 12, 13], [], [], [], [], []], by kernel_rfl, ?_⟩
                refine bindG h ?_
                rintro ⟨y24, y25⟩ hy26 h
                refine exM ([(.d (.p (.string y24)))], [(.ptr y25.q)]) ?_ ?_
                · exact impl_Heap_show.ev hy26
                refine exQ h ?_
                exact ⟨rfl, ⟨rfl, rfl, rfl, trivial⟩, ⟨rfl, rfl, rfl, rfl, rfl, rfl, rfl, rfl, rfl, rfl, rfl, rfl, trivial⟩⟩
              · refine exQ h ?_
                exact ⟨rfl, ⟨rfl, rfl, rfl, trivial⟩, ⟨rfl, rfl, rfl, rfl, rfl, rfl, rfl, rfl, rfl, rfl, rfl, rfl, trivial⟩⟩
            · refine goS ?_
              try ((with_reducible apply cdX); exact rfl)
              refine iteF h (fun c27 h => ?_) (fun c27 h => ?_)
              · refine exQ h ?_
                exact ⟨rfl, ⟨rfl, rfl, rfl, trivial⟩, ⟨rfl, rfl, rfl, rfl, rfl, rfl, rfl, rfl, rfl, rfl, rfl, rfl, trivial⟩⟩
              · refine goS ?_
                refine bindG h fun y28 hy29 h => ?_
                refine exM ([], [(.ptr y28.q)]) ?_ ?_
                · exact impl_machine_step.ev hy29
                refine ifB h (fun c30 h => ?_) (fun c30 h => ?_)
                · refine goS ?_
                  refine exQ h ?_
                  exact ⟨rfl, ⟨rfl, rfl, rfl, trivial⟩, ⟨rfl, rfl, rfl, rfl, rfl, rfl, rfl, rfl, rfl, rfl, rfl, rfl, trivial⟩⟩
                · exact ⟨(y28, (⟨v15.Kind, v15.Text, v15.Tag, (w64 (v15.Steps + 1)), v15.Events⟩ : impl_Result)), h, ⟨rfl, ⟨rfl, rfl, rfl, rfl, trivial⟩, ⟨rfl, rfl, rfl, rfl, rfl, rfl, rfl, rfl, rfl, rfl, rfl, rfl, trivial⟩⟩⟩
        · rintro ⟨v16, v17⟩ S' h ⟨qn, ⟨qa0, qa1, qa2, _⟩, ⟨qb0, qb1, qb2, qb3, qb4, qb5, qb6, qb7, qb8, qb9, qb10, qb11, _⟩⟩
          exact ⟨(v16, v17), h, ⟨qn, ⟨qa0, qa1, qa2, trivial⟩, ⟨qb0, qb1, qb2, qb3, qb4, qb5, qb6, qb7, qb8, qb9, qb10, qb11, trivial⟩⟩⟩
      · rintro ⟨v12, v13⟩ h e hp
        refine goS ?_
        refine goS ?_
        exact retE (enc := impl_Run.enc) h rfl
def impl_CodeWord.enc (r : ByteArray) : Res := ([(.d (.p (.string r)))], [])
def impl_CodeWord.f  (K : Nat) (a0 : Int) : Option (ByteArray) := (impl_in.f K a0 0 4).bind fun y1 => (if (!y1) = true then (some (⟨#[]⟩ : ByteArray)) else ((strings_Split.f (⟨#[98, 97, 100, 32, 118, 97, 108, 117, 101, 32, 114, 97, 105, 115, 101, 100, 32, 102, 117, 101, 108, 32, 115, 116, 117, 99, 107]⟩ : ByteArray) (⟨#[32]⟩ : ByteArray)).bind fun y4 => ((at_ y4 a0).bind fun x6 => (some x6))))
theorem impl_CodeWord.ev   {K : Nat} {a0 : Int} {r : ByteArray} (h : impl_CodeWord.f  K a0 = some r) : E 25 [(.d (.p (.int .i64 a0)))] = some ([(.d (.p (.string r)))], []) := by
  refine Ev_intro (fn := Tryz.f25) rfl (by kernel_rfl) (c := _) rfl ⟨rfl, by simp⟩ rfl (evP_spec _ ?_)
  unfold impl_CodeWord.f at h
  refine goS ?_
  refine bindG h fun y1 hy2 h => ?_
  refine exM ([(.d (.p (.bool y1)))], []) ?_ ?_
  · exact impl_in.ev hy2
  refine ifB h (fun c3 h => ?_) (fun c3 h => ?_)
  · exact retE (enc := impl_CodeWord.enc) h rfl
  · refine bindG h fun y4 hy5 h => ?_
    refine exM ([(.own true 1 (y4.map eS))], []) ?_ ?_
    · exact strings_Split.ev hy5
    refine bindG h fun x6 hx6 h => ?_
    refine anM (at_ix rfl hx6) ?_
    refine exM (eS x6) (at_get rfl hx6) ?_
    exact retE (enc := impl_CodeWord.enc) h rfl
def impl_Outcome.enc (r : ByteArray) : Res := ([(.d (.p (.string r)))], [])
def impl_Outcome.f  (K : Nat) (a0 : List impl_Node) (a1 : Int) : Option (ByteArray) := (impl_Run.f K a0 a1).bind fun y1 => ((impl_CodeWord.f K y1.Kind).bind fun y3 => (jn (fun (v5 : ByteArray) => some v5) (fun j => if (!(y1.Text.toList == (⟨#[]⟩ : ByteArray).toList)) = true then (gd ((⟨#[32]⟩ : ByteArray).size + y1.Text.size ≤ 9223372036854775807) (gd (y3.size + ((⟨#[32]⟩ : ByteArray) ++ y1.Text).size ≤ 9223372036854775807) (j (y3 ++ ((⟨#[32]⟩ : ByteArray) ++ y1.Text))))) else (j y3))))
theorem impl_Outcome.ev   {K : Nat} {a0 : List impl_Node} {a1 : Int} {r : ByteArray} (h : impl_Outcome.f  K a0 a1 = some r) : E 9 [(.d (.l true 7 (a0.map impl_Node.e))), (.d (.p (.int .i64 a1)))] = some ([(.d (.p (.string r)))], []) := by
  refine Ev_intro (fn := Tryz.f9) rfl (by kernel_rfl) (c := _) rfl ⟨rfl, by simp⟩ rfl (evP_spec _ ?_)
  unfold impl_Outcome.f at h
  refine goS ?_
  refine bindG h fun y1 hy2 h => ?_
  refine exM ([(.agg (y1.e.map .d))], []) ?_ ?_
  · exact impl_Run.ev hy2
  refine bindG h fun y3 hy4 h => ?_
  refine exM ([(.d (.p (.string y3)))], []) ?_ ?_
  · exact impl_CodeWord.ev hy4
  refine seqJ h 22 (fun x => [(6, (.d (.p (.string x))))]) (fun x => []) (fun J h => ?_) ?_
  · try ((with_reducible apply cdX); exact rfl)
    refine ifB h (fun c6 h => ?_) (fun c6 h => ?_)
    · refine gdG h fun hc h => ?_
      refine anM hc ?_
      refine gdG h fun hc h => ?_
      refine anM hc ?_
      exact ⟨(y3 ++ ((⟨#[32]⟩ : ByteArray) ++ y1.Text)), h, ⟨rfl, ⟨rfl, trivial⟩, trivial⟩⟩
    · exact ⟨y3, h, ⟨rfl, ⟨rfl, trivial⟩, trivial⟩⟩
  · rintro v5 h e hp
    exact retE (enc := impl_Outcome.enc) h rfl
def laws_eqNode.enc (r : Bool) : Res := ([(.d (.p (.bool r)))], [])
def laws_eqNode.f  (K : Nat) (a0 : impl_Node) (a1 : impl_Node) : Option (Bool) := if (!(decide (a0.Kind = a1.Kind))) = true then (some false) else (if (!(decide (a0.A = a1.A))) = true then (some false) else (if (!(decide (a0.B = a1.B))) = true then (some false) else (if (!(decide (a0.C = a1.C))) = true then (some false) else (if (!(decide (a0.N = a1.N))) = true then (some false) else (if (!(a0.Name.toList == a1.Name.toList)) = true then (some false) else (if (!(a0.Other.toList == a1.Other.toList)) = true then (some false) else (some true)))))))
theorem laws_eqNode.ev   {K : Nat} {a0 : impl_Node} {a1 : impl_Node} {r : Bool} (h : laws_eqNode.f  K a0 a1 = some r) : E 26 [(.agg (a0.e.map .d)), (.agg (a1.e.map .d))] = some ([(.d (.p (.bool r)))], []) := by
  refine Ev_intro (fn := Tryz.f26) rfl (by kernel_rfl) (c := _) rfl ⟨rfl, by simp⟩ rfl (evP_spec _ ?_)
  unfold laws_eqNode.f at h
  refine goS ?_
  try ((with_reducible apply cdX); exact rfl)
  refine ifB h (fun c1 h => ?_) (fun c1 h => ?_)
  · exact retE (enc := laws_eqNode.enc) h rfl
  · refine goS ?_
    try ((with_reducible apply cdX); exact rfl)
    refine ifB h (fun c2 h => ?_) (fun c2 h => ?_)
    · exact retE (enc := laws_eqNode.enc) h rfl
    · refine goS ?_
      try ((with_reducible apply cdX); exact rfl)
      refine ifB h (fun c3 h => ?_) (fun c3 h => ?_)
      · exact retE (enc := laws_eqNode.enc) h rfl
      · refine goS ?_
        try ((with_reducible apply cdX); exact rfl)
        refine ifB h (fun c4 h => ?_) (fun c4 h => ?_)
        · exact retE (enc := laws_eqNode.enc) h rfl
        · refine goS ?_
          try ((with_reducible apply cdX); exact rfl)
          refine ifB h (fun c5 h => ?_) (fun c5 h => ?_)
          · exact retE (enc := laws_eqNode.enc) h rfl
          · refine goS ?_
            try ((with_reducible apply cdX); exact rfl)
            refine ifB h (fun c6 h => ?_) (fun c6 h => ?_)
            · exact retE (enc := laws_eqNode.enc) h rfl
            · refine goS ?_
              try ((with_reducible apply cdX); exact rfl)
              refine ifB h (fun c7 h => ?_) (fun c7 h => ?_)
              · exact retE (enc := laws_eqNode.enc) h rfl
              · exact retE (enc := laws_eqNode.enc) h rfl
def laws_eqNodeS.enc (r : Bool) : Res := ([(.d (.p (.bool r)))], [])
def laws_eqNodeS.en (a0 : List impl_Node) (a1 : List impl_Node) (r : Bool) (S : St) : Prop := endV tb md 10 Tryz.f10 [(.d (.l true 7 (a0.map impl_Node.e))), (.d (.l true 7 (a1.map impl_Node.e)))] .ret S = some (laws_eqNodeS.enc r)
def laws_eqNodeS.l0 (a0 : List impl_Node) (a1 : List impl_Node) (K : Nat) : Nat → Int → Option (Bool ⊕ Unit)
  | 0, _ => none
  | k + 1, v2 => if v2 < (a0.length : Int) then ((at_ a0 v2).bind fun x4 => ((at_ a1 v2).bind fun x5 => ((laws_eqNode.f K x4 x5).bind fun y6 => (if (!y6) = true then (some (.inl false)) else (laws_eqNodeS.l0 a0 a1 K k (w64 (v2 + 1))))))) else (some (.inr ()))
def laws_eqNodeS.f  (K : Nat) (a0 : List impl_Node) (a1 : List impl_Node) : Option (Bool) := if (!(decide ((a0.length : Int) = (a1.length : Int)))) = true then (some false) else (jn (fun (_ : Unit) => some true) (fun j => lb (laws_eqNodeS.l0 a0 a1 K K 0) (fun r => some r) (fun (_ : Unit) => j ())))
theorem laws_eqNodeS.ev   {K : Nat} {a0 : List impl_Node} {a1 : List impl_Node} {r : Bool} (h : laws_eqNodeS.f  K a0 a1 = some r) : E 10 [(.d (.l true 7 (a0.map impl_Node.e))), (.d (.l true 7 (a1.map impl_Node.e)))] = some ([(.d (.p (.bool r)))], []) := by
  refine Ev_intro (fn := Tryz.f10) rfl (by kernel_rfl) (c := _) rfl ⟨rfl, by simp⟩ rfl (evP_spec _ ?_)
  unfold laws_eqNodeS.f at h
  refine goS ?_
  refine eqM ((a0.length : Int) : Int) (mLen rfl) ?_
  refine eqM ((a1.length : Int) : Int) (mLen rfl) ?_
  refine ifB h (fun c1 h => ?_) (fun c1 h => ?_)
  · exact retE (enc := laws_eqNodeS.enc) h rfl
  · refine seqJ h 27 (fun x => []) (fun x => []) (fun J h => ?_) ?_
    · refine loopB (α := Int) (a := 0) 27 (fun x => [(0, (.d (.l true 7 (a0.map impl_Node.e)))), (1, (.d (.l true 7 (a1.map impl_Node.e)))), (5, (.d (.p (.int .i64 x))))]) (fun x => []) (fun k x => laws_eqNodeS.l0 a0 a1 K k x) (laws_eqNodeS.en a0 a1) 0 (fun x => []) (fun x => []) h (fun _ => rfl) ?_ ⟨rfl, ⟨rfl, rfl, rfl, trivial⟩, trivial⟩ ?_ ?_
      · rintro k v2 r h e hp
        replace h : laws_eqNodeS.l0 a0 a1 K (k + 1) v2 = some r := h
        unfold laws_eqNodeS.l0 at h
        refine goS ?_
        refine eqM ((a0.length : Int) : Int) (mLen rfl) ?_
        refine iteF h (fun c3 h => ?_) (fun c3 h => ?_)
        · refine goS ?_
          refine ⟨[[], [], [23, 24], [23, 24], [], [], [19, 20], [19, 20], [], []], [], by kernel_rfl, ?_⟩
          refine bindG h fun x4 hx4 h => ?_
          refine anM (at_ix rfl hx4) ?_
          refine exM (impl_Node.e x4) (at_get rfl hx4) ?_
          refine bindG h fun x5 hx5 h => ?_
          refine anM (at_ix rfl hx5) ?_
          refine exM (impl_Node.e x5) (at_get rfl hx5) ?_
          refine bindG h fun y6 hy7 h => ?_
          refine exM ([(.d (.p (.bool y6)))], []) ?_ ?_
          · exact laws_eqNode.ev hy7
          refine ifB h (fun c8 h => ?_) (fun c8 h => ?_)
          · exact lqL h rfl
          · exact ⟨(w64 (v2 + 1)), h, ⟨rfl, ⟨rfl, rfl, rfl, trivial⟩, trivial⟩⟩
        · refine lqR h ?_
          exact ⟨rfl, trivial, trivial⟩
      · intro r' S' h q
        exact retE (enc := laws_eqNodeS.enc) h q
      · rintro _ S' h ⟨qn, ⟨_⟩, ⟨_⟩⟩
        exact ⟨(), h, ⟨qn, trivial, trivial⟩⟩
    · rintro _ h e hp
      exact retE (enc := laws_eqNodeS.enc) h rfl
def laws_FnExactOutcome.enc (r : Bool) : Res := ([(.d (.p (.bool r)))], [])
def laws_FnExactOutcome.f  (K : Nat) (a0 : List laws_Node) (a1 : Int) : Option (Bool) := (laws_szNodeS.f K a0 1048576).bind fun y1 => (if y1 < 0 then (some true) else ((laws_toNodeS.f K a0).bind fun y4 => ((spec_Outcome.f K y4 a1).bind fun y6 => ((laws_toNodeS.f K a0).bind fun y8 => ((impl_Outcome.f K y8 a1).bind fun y10 => (if (!(y10.toList == y6.toList)) = true then (some false) else ((laws_toNodeS.f K a0).bind fun y13 => ((laws_eqNodeS.f K y8 y13).bind fun y15 => (if (!y15) = true then (some false) else (some true))))))))))
theorem laws_FnExactOutcome.ev   {K : Nat} {a0 : List laws_Node} {a1 : Int} {r : Bool} (h : laws_FnExactOutcome.f  K a0 a1 = some r) : E 3 [(.d (.l true 7 (a0.map laws_Node.e))), (.d (.p (.int .i64 a1)))] = some ([(.d (.p (.bool r)))], []) := by
  refine Ev_intro (fn := Tryz.f3) rfl (by kernel_rfl) (c := _) rfl ⟨rfl, by simp⟩ rfl (evP_spec _ ?_)
  unfold laws_FnExactOutcome.f at h
  refine bindG h fun y1 hy2 h => ?_
  refine exM ([(.d (.p (.int .i64 y1)))], []) ?_ ?_
  · exact laws_szNodeS.ev hy2
  refine goS ?_
  try ((with_reducible apply cdX); exact rfl)
  refine iteF h (fun c3 h => ?_) (fun c3 h => ?_)
  · exact retE (enc := laws_FnExactOutcome.enc) h rfl
  · refine bindG h fun y4 hy5 h => ?_
    refine exM ([(.own true 7 (y4.map impl_Node.e))], []) ?_ ?_
    · exact laws_toNodeS.ev hy5
    refine bindG h fun y6 hy7 h => ?_
    refine exM ([(.d (.p (.string y6)))], []) ?_ ?_
    · exact spec_Outcome.ev hy7
    refine bindG h fun y8 hy9 h => ?_
    refine exM ([(.own true 7 (y8.map impl_Node.e))], []) ?_ ?_
    · exact laws_toNodeS.ev hy9
    refine bindG h fun y10 hy11 h => ?_
    refine exM ([(.d (.p (.string y10)))], []) ?_ ?_
    · exact impl_Outcome.ev hy11
    refine goS ?_
    try ((with_reducible apply cdX); exact rfl)
    refine ifB h (fun c12 h => ?_) (fun c12 h => ?_)
    · exact retE (enc := laws_FnExactOutcome.enc) h rfl
    · refine goS ?_
      refine bindG h fun y13 hy14 h => ?_
      refine exM ([(.own true 7 (y13.map impl_Node.e))], []) ?_ ?_
      · exact laws_toNodeS.ev hy14
      refine bindG h fun y15 hy16 h => ?_
      refine exM ([(.d (.p (.bool y15)))], []) ?_ ?_
      · exact laws_eqNodeS.ev hy16
      refine ifB h (fun c17 h => ?_) (fun c17 h => ?_)
      · exact retE (enc := laws_FnExactOutcome.enc) h rfl
      · exact retE (enc := laws_FnExactOutcome.enc) h rfl
end Go.Proofs.YtifomiglajcanaaGreatDoorE
