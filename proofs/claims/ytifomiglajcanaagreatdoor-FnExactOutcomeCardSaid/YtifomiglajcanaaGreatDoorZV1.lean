/- For Go functions of the program: their Lean functions, and that Go answers as these do. Written by a program of the session (evprint.py). -/
import Derived.Test.YtifomiglajcanaaGreatDoorZV0
set_option linter.unusedSimpArgs false
set_option linter.unusedVariables false
namespace Go.Proofs.YtifomiglajcanaaGreatDoorE
open Go.Ev
set_option linter.unusedVariables false
set_option maxRecDepth 100000
set_option maxHeartbeats 4000000
def spec_l11Second.enc (r : spec_l11State) : Res := ([], [(.ptr r.q)])
def spec_l11Second.f  (K : Nat) (a0 : spec_l11State) (a1 : List impl_Node) (a2 : spec_l11Frame) (a3 : impl_Val) : Option (spec_l11State) := (at_ a1 a2.node).bind fun x1 => (if x1.Kind = 9 then ((spec_l11Two.f K a0 3 a2.val a3).bind fun (y3, y4) => ((spec_l11Done.f K y4 a2.node y3).bind fun y6 => (some y6))) else (if x1.Kind = 13 then (jn (fun (v9 : spec_l11State) => (spec_l11Two.f K v9 4 a2.val a3).bind fun (y12, y13) => ((spec_l11Done.f K y13 a2.node y12).bind fun y15 => (some y15))) (fun j => if a0.stuck = true then (j (⟨a0.mode, a0.node, a0.env, a0.val, a0.stack, a0.h_, a0.ev, true⟩ : spec_l11State)) else (if (!(decide (a3.Kind = 4))) = true then (j (⟨a0.mode, a0.node, a0.env, a0.val, a0.stack, a0.h_, a0.ev, (!(decide (a3.Kind = 2)))⟩ : spec_l11State)) else (j (⟨a0.mode, a0.node, a0.env, a0.val, a0.stack, a0.h_, a0.ev, false⟩ : spec_l11State))))) else (if x1.Kind = 17 then (if (!(decide (a2.val.Kind = 5))) = true then (some (⟨a0.mode, a0.node, a0.env, a0.val, a0.stack, a0.h_, a0.ev, true⟩ : spec_l11State)) else ((at_ a0.h_.Refs a2.val.N).bind fun x19 => ((spec_l11Done.f K (⟨a0.mode, a0.node, a0.env, a0.val, a0.stack, (⟨a0.h_.Envs, a0.h_.Clos, a0.h_.Twos, (a0.h_.Refs.set (a2.val.N).toNat a3)⟩ : impl_Heap), a0.ev, a0.stuck⟩ : spec_l11State) a2.node (⟨0, 0⟩ : impl_Val)).bind fun y20 => (some y20)))) else (if x1.Kind = 8 then (jn (fun (v23 : spec_l11State) => (spec_l11Prim.f K x1.N a2.val.N a3.N).bind fun y26 => ((spec_l11Done.f K v23 a2.node (⟨0, y26⟩ : impl_Val)).bind fun y28 => (some y28))) (fun j => if a0.stuck = true then (j (⟨a0.mode, a0.node, a0.env, a0.val, a0.stack, a0.h_, a0.ev, true⟩ : spec_l11State)) else (if (!(decide (a2.val.Kind = 0))) = true then (j (⟨a0.mode, a0.node, a0.env, a0.val, a0.stack, a0.h_, a0.ev, true⟩ : spec_l11State)) else (j (⟨a0.mode, a0.node, a0.env, a0.val, a0.stack, a0.h_, a0.ev, (!(decide (a3.Kind = 0)))⟩ : spec_l11State))))) else (if x1.Kind = 4 then (if (!(decide (a2.val.Kind = 1))) = true then (some (⟨a0.mode, a0.node, a0.env, a0.val, a0.stack, a0.h_, a0.ev, true⟩ : spec_l11State)) else ((at_ a0.h_.Clos a2.val.N).bind fun x32 => (jn (fun (v33 : Int) => gd ((a0.ev.length + 1) * 24 ≤ 140737488355328) ((spec_l11Push.f K (⟨a0.mode, a0.node, a0.env, a0.val, a0.stack, a0.h_, (a0.ev ++ ([(⟨1, a2.node, x32.Node⟩ : impl_Event)] : List impl_Event)), a0.stuck⟩ : spec_l11State) (⟨a2.node, 0, (⟨0, 0⟩ : impl_Val), 2⟩ : spec_l11Frame)).bind fun y36 => ((at_ a1 x32.Node).bind fun x38 => ((spec_l11Bind.f K y36 x32.Node v33 a3 x32.Env).bind fun (y39, y40) => ((spec_l11Look.f K y40 x38.A y39).bind fun y42 => (some y42)))))) (fun j => (at_ a1 x32.Node).bind fun x34 => (if x34.Kind = 6 then (j 1) else (j 0)))))) else (some a0))))))
theorem spec_l11Second.ev   {K : Nat} {a0 : spec_l11State} {a1 : List impl_Node} {a2 : spec_l11Frame} {a3 : impl_Val} {r : spec_l11State} (h : spec_l11Second.f  K a0 a1 a2 a3 = some r) : E 59 [(.ptr a0.q), (.d (.l true 7 (a1.map impl_Node.e))), (.agg (a2.e.map .d)), (.agg (a3.e.map .d))] = some ([], [(.ptr r.q)]) := by
  refine Ev_intro (fn := Tryz.f59) rfl (by kernel_rfl) (c := _) rfl ⟨rfl, by simp⟩ (vs := [(.ptr 170 0 1 0), (.d (.l true 7 (a1.map impl_Node.e))), (.agg [(.d (.p (.int .i64 a2.node))), (.d (.p (.int .i64 a2.env))), (.d (.p (.int .i64 a2.val.Kind))), (.d (.p (.int .i64 a2.val.N))), (.d (.p (.int .i64 a2.stage)))]), (.agg [(.d (.p (.int .i64 a3.Kind))), (.d (.p (.int .i64 a3.N)))])]) (h0 := (((((((Hp.nil.put 170 1005 (1, (some (.row true true 5 (a0.stack.map spec_l11Frame.e))))).put 170 1006 (1, (some (.row true true 5 (a0.h_.Envs.map impl_EnvCell.e))))).put 170 1007 (1, (some (.row true true 2 (a0.h_.Clos.map impl_Clo.e))))).put 170 1008 (1, (some (.row true true 4 (a0.h_.Twos.map impl_Two.e))))).put 170 1009 (1, (some (.row true true 2 (a0.h_.Refs.map impl_Val.e))))).put 170 1010 (1, (some (.row true true 3 (a0.ev.map impl_Event.e))))).put 170 0 (1, (some (.box [(.d (.p (.int .i64 a0.mode))), (.d (.p (.int .i64 a0.node))), (.d (.p (.int .i64 a0.env))), (.d (.p (.int .i64 a0.val.Kind))), (.d (.p (.int .i64 a0.val.N))), (.own 170 1005 1), (.own 170 1006 1), (.own 170 1007 1), (.own 170 1008 1), (.own 170 1009 1), (.own 170 1010 1), (.d (.p (.bool a0.stuck)))]))))) (by kernel_rfl) (evP_spec _ ?_)
  unfold spec_l11Second.f at h
  refine goR ?_
  refine bindG h fun x1 hx1 h => ?_
  refine anM (at_ix rfl hx1) ?_
  refine exM (impl_Node.e x1) (at_get rfl hx1) ?_
  refine Re.mk 170 [(0, (.ptr 170 0 1 0)), (1, (.d (.l true 7 (a1.map impl_Node.e)))), (6, (.ptr 6 0 2 0)), (7, (.ptr 7 0 2 0)), (8, (.ptr 8 0 2 0))] [(6, 0, 2, (some (.box [(.d (.p (.int .i64 a2.node))), (.d (.p (.int .i64 a2.env))), (.d (.p (.int .i64 a2.val.Kind))), (.d (.p (.int .i64 a2.val.N))), (.d (.p (.int .i64 a2.stage)))]))), (7, 0, 2, (some (.box [(.d (.p (.int .i64 a3.Kind))), (.d (.p (.int .i64 a3.N)))]))), (8, 0, 2, (some (.box [(.d (.p (.int .i64 x1.Kind))), (.d (.p (.int .i64 x1.A))), (.d (.p (.int .i64 x1.B))), (.d (.p (.int .i64 x1.C))), (.d (.p (.int .i64 x1.N))), (.d (.p (.string x1.Name))), (.d (.p (.string x1.Other)))]))), (170, 0, 1, (some (.box [(.d (.p (.int .i64 a0.mode))), (.d (.p (.int .i64 a0.node))), (.d (.p (.int .i64 a0.env))), (.d (.p (.int .i64 a0.val.Kind))), (.d (.p (.int .i64 a0.val.N))), (.own 170 1005 2), (.own 170 1006 2), (.own 170 1007 2), (.own 170 1008 2), (.own 170 1009 2), (.own 170 1010 2), (.d (.p (.bool a0.stuck)))]))), (170, 1005, 2, (some (.row true true 5 (a0.stack.map spec_l11Frame.e)))), (170, 1006, 2, (some (.row true true 5 (a0.h_.Envs.map impl_EnvCell.e)))), (170, 1007, 2, (some (.row true true 2 (a0.h_.Clos.map impl_Clo.e)))), (170, 1008, 2, (some (.row true true 4 (a0.h_.Twos.map impl_Two.e)))), (170, 1009, 2, (some (.row true true 2 (a0.h_.Refs.map impl_Val.e)))), (170, 1010, 2, (some (.row true true 3 (a0.ev.map impl_Event.e))))] (by exact ⟨rfl, ⟨(by kernel_rfl), (by kernel_rfl), (by kernel_rfl), (by kernel_rfl), (by kernel_rfl), trivial⟩, ⟨(by kernel_rfl), (by kernel_rfl), (by kernel_rfl), (by kernel_rfl), (by kernel_rfl), (by kernel_rfl), (by kernel_rfl), (by kernel_rfl), (by kernel_rfl), (by kernel_rfl), trivial⟩⟩) ?_
  intro e hp
  refine goR ?_
  refine Re.mk 170 [(0, (.ptr 170 0 1 0)), (1, (.d (.l true 7 (a1.map impl_Node.e)))), (6, (.ptr 6 0 2 0)), (7, (.ptr 7 0 2 0)), (8, (.ptr 8 0 2 0)), (9, (.ptr 9 0 2 0))] [(6, 0, 2, (some (.box [(.d (.p (.int .i64 a2.node))), (.d (.p (.int .i64 a2.env))), (.d (.p (.int .i64 a2.val.Kind))), (.d (.p (.int .i64 a2.val.N))), (.d (.p (.int .i64 a2.stage)))]))), (7, 0, 2, (some (.box [(.d (.p (.int .i64 a3.Kind))), (.d (.p (.int .i64 a3.N)))]))), (8, 0, 2, (some (.box [(.d (.p (.int .i64 x1.Kind))), (.d (.p (.int .i64 x1.A))), (.d (.p (.int .i64 x1.B))), (.d (.p (.int .i64 x1.C))), (.d (.p (.int .i64 x1.N))), (.d (.p (.string x1.Name))), (.d (.p (.string x1.Other)))]))), (9, 0, 2, (some (.box [(.d (.p (.int .i64 a2.val.Kind))), (.d (.p (.int .i64 a2.val.N)))]))), (170, 0, 1, (some (.box [(.d (.p (.int .i64 a0.mode))), (.d (.p (.int .i64 a0.node))), (.d (.p (.int .i64 a0.env))), (.d (.p (.int .i64 a0.val.Kind))), (.d (.p (.int .i64 a0.val.N))), (.own 170 1005 2), (.own 170 1006 2), (.own 170 1007 2), (.own 170 1008 2), (.own 170 1009 2), (.own 170 1010 2), (.d (.p (.bool a0.stuck)))]))), (170, 1005, 2, (some (.row true true 5 (a0.stack.map spec_l11Frame.e)))), (170, 1006, 2, (some (.row true true 5 (a0.h_.Envs.map impl_EnvCell.e)))), (170, 1007, 2, (some (.row true true 2 (a0.h_.Clos.map impl_Clo.e)))), (170, 1008, 2, (some (.row true true 4 (a0.h_.Twos.map impl_Two.e)))), (170, 1009, 2, (some (.row true true 2 (a0.h_.Refs.map impl_Val.e)))), (170, 1010, 2, (some (.row true true 3 (a0.ev.map impl_Event.e))))] (by exact ⟨rfl, ⟨(by kernel_rfl), (by kernel_rfl), (by kernel_rfl), (by kernel_rfl), (by kernel_rfl), (by kernel_rfl), trivial⟩, ⟨(by kernel_rfl), (by kernel_rfl), (by kernel_rfl), (by kernel_rfl), (by kernel_rfl), (by kernel_rfl), (by kernel_rfl), (by kernel_rfl), (by kernel_rfl), (by kernel_rfl), (by kernel_rfl), trivial⟩⟩) ?_
  intro e hp
  try ((with_reducible apply cdX); exact rfl)
  refine iteF h (fun c2 h => ?_) (fun c2 h => ?_)
  · refine ⟨[[], [27, 28, 29], [27, 28, 29], [], [24, 25, 28], [24, 25, 27], [24, 999999, 6, 25, 999999, 6], []], [[], [999999, 6], [999999, 6], [], [], [], [], []], by kernel_rfl, ?_⟩
    refine bindG h ?_
    rintro ⟨y3, y4⟩ hy5 h
    refine exM ([(.agg (y3.e.map .d))], [(.ptr y4.q)]) ?_ ?_
    · exact spec_l11Two.ev hy5
    refine bindG h fun y6 hy7 h => ?_
    refine exM ([], [(.ptr y6.q)]) ?_ ?_
    · exact spec_l11Done.ev hy7
    exact retE (enc := spec_l11Second.enc) h (by kernel_rfl)
  · try ((with_reducible apply cdX); exact rfl)
    refine iteF h (fun c8 h => ?_) (fun c8 h => ?_)
    · refine seqJ h 170 (fun x => [(0, (.ptr 170 0 1 0)), (6, (.ptr 6 0 2 0)), (7, (.ptr 7 0 2 0)), (9, (.ptr 9 0 2 0))]) (fun x => [(6, 0, 2, (some (.box [(.d (.p (.int .i64 a2.node))), (.d (.p (.int .i64 a2.env))), (.d (.p (.int .i64 a2.val.Kind))), (.d (.p (.int .i64 a2.val.N))), (.d (.p (.int .i64 a2.stage)))]))), (7, 0, 2, (some (.box [(.d (.p (.int .i64 a3.Kind))), (.d (.p (.int .i64 a3.N)))]))), (9, 0, 2, (some (.box [(.d (.p (.int .i64 a2.val.Kind))), (.d (.p (.int .i64 a2.val.N)))]))), (170, 0, 1, (some (.box [(.d (.p (.int .i64 x.mode))), (.d (.p (.int .i64 x.node))), (.d (.p (.int .i64 x.env))), (.d (.p (.int .i64 x.val.Kind))), (.d (.p (.int .i64 x.val.N))), (.own 170 1005 2), (.own 170 1006 2), (.own 170 1007 2), (.own 170 1008 2), (.own 170 1009 2), (.own 170 1010 2), (.d (.p (.bool x.stuck)))]))), (170, 1005, 2, (some (.row true true 5 (x.stack.map spec_l11Frame.e)))), (170, 1006, 2, (some (.row true true 5 (x.h_.Envs.map impl_EnvCell.e)))), (170, 1007, 2, (some (.row true true 2 (x.h_.Clos.map impl_Clo.e)))), (170, 1008, 2, (some (.row true true 4 (x.h_.Twos.map impl_Two.e)))), (170, 1009, 2, (some (.row true true 2 (x.h_.Refs.map impl_Val.e)))), (170, 1010, 2, (some (.row true true 3 (x.ev.map impl_Event.e))))]) (fun J h => ?_) ?_
      · try ((with_reducible apply cdX); exact rfl)
        refine ifB h (fun c10 h => ?_) (fun c10 h => ?_)
        · refine Ask.T rfl ?_
          refine Ask.T rfl ?_
          refine Ask.T rfl ?_
          refine Ask.T rfl ?_
          refine Ask.T rfl ?_
          exact ⟨(⟨a0.mode, a0.node, a0.env, a0.val, a0.stack, a0.h_, a0.ev, true⟩ : spec_l11State), h, ⟨rfl, ⟨(by kernel_rfl), (by kernel_rfl), (by kernel_rfl), (by kernel_rfl), trivial⟩, ⟨(by kernel_rfl), (by kernel_rfl), (by kernel_rfl), (by kernel_rfl), (by kernel_rfl), (by kernel_rfl), (by kernel_rfl), (by kernel_rfl), (by kernel_rfl), (by kernel_rfl), trivial⟩⟩⟩
        · refine Ask.F rfl ?_
          refine Ask.F rfl ?_
          refine Ask.F rfl ?_
          refine ifB h (fun c11 h => ?_) (fun c11 h => ?_)
          · refine Ask.T rfl ?_
            refine Ask.T rfl ?_
            refine Ask.F rfl ?_
            refine Ask.T rfl ?_
            refine Ask.F rfl ?_
            exact ⟨(⟨a0.mode, a0.node, a0.env, a0.val, a0.stack, a0.h_, a0.ev, (!(decide (a3.Kind = 2)))⟩ : spec_l11State), h, ⟨rfl, ⟨(by kernel_rfl), (by kernel_rfl), (by kernel_rfl), (by kernel_rfl), trivial⟩, ⟨(by kernel_rfl), (by kernel_rfl), (by kernel_rfl), (by kernel_rfl), (by kernel_rfl), (by kernel_rfl), (by kernel_rfl), (by kernel_rfl), (by kernel_rfl), (by kernel_rfl), trivial⟩⟩⟩
          · refine Ask.F rfl ?_
            refine Ask.F rfl ?_
            refine Ask.F rfl ?_
            refine Ask.F rfl ?_
            refine Ask.F rfl ?_
            exact ⟨(⟨a0.mode, a0.node, a0.env, a0.val, a0.stack, a0.h_, a0.ev, false⟩ : spec_l11State), h, ⟨rfl, ⟨(by kernel_rfl), (by kernel_rfl), (by kernel_rfl), (by kernel_rfl), trivial⟩, ⟨(by kernel_rfl), (by kernel_rfl), (by kernel_rfl), (by kernel_rfl), (by kernel_rfl), (by kernel_rfl), (by kernel_rfl), (by kernel_rfl), (by kernel_rfl), (by kernel_rfl), trivial⟩⟩⟩
      · rintro v9 h e hp
        refine ⟨[[], [54, 55, 56], [54, 55, 56], [], [51, 52, 55], [51, 52, 54], [51, 999999, 6, 52, 999999, 6], []], [[], [999999, 6], [999999, 6], [], [], [], [], []], by kernel_rfl, ?_⟩
        refine bindG h ?_
        rintro ⟨y12, y13⟩ hy14 h
        refine exM ([(.agg (y12.e.map .d))], [(.ptr y13.q)]) ?_ ?_
        · exact spec_l11Two.ev hy14
        refine bindG h fun y15 hy16 h => ?_
        refine exM ([], [(.ptr y15.q)]) ?_ ?_
        · exact spec_l11Done.ev hy16
        exact retE (enc := spec_l11Second.enc) h (by kernel_rfl)
    · try ((with_reducible apply cdX); exact rfl)
      refine iteF h (fun c17 h => ?_) (fun c17 h => ?_)
      · refine goS ?_
        try ((with_reducible apply cdX); exact rfl)
        refine ifB h (fun c18 h => ?_) (fun c18 h => ?_)
        · refine goS ?_
          exact retE (enc := spec_l11Second.enc) h (by kernel_rfl)
        · refine goR ?_
          refine ⟨[[], [71, 72, 73], [71, 72, 73], [71, 72, 73], [71, 72, 73], [67, 68, 69, 70, 73], [67, 68, 69, 70, 73], [67, 68, 69, 70, 71, 72], [], []], [], by kernel_rfl, ?_⟩
          refine bindG h fun x19 hx19 h => ?_
          refine anM (at_ix rfl hx19) ?_
          refine exM (impl_Val.e x19) (at_get rfl hx19) ?_
          refine eqM ((a0.h_.Refs.set (a2.val.N).toNat a3).map impl_Val.e) (mSet rfl rfl) ?_
          refine Re.mk 170 [(0, (.ptr 170 0 1 0)), (6, (.ptr 6 0 2 0))] [(6, 0, 2, (some (.box [(.d (.p (.int .i64 a2.node))), (.d (.p (.int .i64 a2.env))), (.d (.p (.int .i64 a2.val.Kind))), (.d (.p (.int .i64 a2.val.N))), (.d (.p (.int .i64 a2.stage)))]))), (170, 0, 1, (some (.box [(.d (.p (.int .i64 a0.mode))), (.d (.p (.int .i64 a0.node))), (.d (.p (.int .i64 a0.env))), (.d (.p (.int .i64 a0.val.Kind))), (.d (.p (.int .i64 a0.val.N))), (.own 170 1005 2), (.own 170 1006 2), (.own 170 1007 2), (.own 170 1008 2), (.own 170 1009 2), (.own 170 1010 2), (.d (.p (.bool a0.stuck)))]))), (170, 1005, 2, (some (.row true true 5 (a0.stack.map spec_l11Frame.e)))), (170, 1006, 2, (some (.row true true 5 (a0.h_.Envs.map impl_EnvCell.e)))), (170, 1007, 2, (some (.row true true 2 (a0.h_.Clos.map impl_Clo.e)))), (170, 1008, 2, (some (.row true true 4 (a0.h_.Twos.map impl_Two.e)))), (170, 1009, 2, (some (.row true true 2 ((a0.h_.Refs.set (a2.val.N).toNat a3).map impl_Val.e)))), (170, 1010, 2, (some (.row true true 3 (a0.ev.map impl_Event.e))))] (by exact ⟨rfl, ⟨(by kernel_rfl), (by kernel_rfl), trivial⟩, ⟨(by kernel_rfl), (by kernel_rfl), (by kernel_rfl), (by kernel_rfl), (by kernel_rfl), (by kernel_rfl), (by kernel_rfl), (by kernel_rfl), trivial⟩⟩) ?_
          intro e hp
          refine bindG h fun y20 hy21 h => ?_
          refine exM ([], [(.ptr y20.q)]) ?_ ?_
          · exact spec_l11Done.ev hy21
          exact retE (enc := spec_l11Second.enc) h (by kernel_rfl)
      · try ((with_reducible apply cdX); exact rfl)
        refine iteF h (fun c22 h => ?_) (fun c22 h => ?_)
        · refine seqJ h 170 (fun x => [(0, (.ptr 170 0 1 0)), (6, (.ptr 6 0 2 0)), (7, (.ptr 7 0 2 0)), (8, (.ptr 8 0 2 0)), (9, (.ptr 9 0 2 0))]) (fun x => [(6, 0, 2, (some (.box [(.d (.p (.int .i64 a2.node))), (.d (.p (.int .i64 a2.env))), (.d (.p (.int .i64 a2.val.Kind))), (.d (.p (.int .i64 a2.val.N))), (.d (.p (.int .i64 a2.stage)))]))), (7, 0, 2, (some (.box [(.d (.p (.int .i64 a3.Kind))), (.d (.p (.int .i64 a3.N)))]))), (8, 0, 2, (some (.box [(.d (.p (.int .i64 x1.Kind))), (.d (.p (.int .i64 x1.A))), (.d (.p (.int .i64 x1.B))), (.d (.p (.int .i64 x1.C))), (.d (.p (.int .i64 x1.N))), (.d (.p (.string x1.Name))), (.d (.p (.string x1.Other)))]))), (9, 0, 2, (some (.box [(.d (.p (.int .i64 a2.val.Kind))), (.d (.p (.int .i64 a2.val.N)))]))), (170, 0, 1, (some (.box [(.d (.p (.int .i64 x.mode))), (.d (.p (.int .i64 x.node))), (.d (.p (.int .i64 x.env))), (.d (.p (.int .i64 x.val.Kind))), (.d (.p (.int .i64 x.val.N))), (.own 170 1005 2), (.own 170 1006 2), (.own 170 1007 2), (.own 170 1008 2), (.own 170 1009 2), (.own 170 1010 2), (.d (.p (.bool x.stuck)))]))), (170, 1005, 2, (some (.row true true 5 (x.stack.map spec_l11Frame.e)))), (170, 1006, 2, (some (.row true true 5 (x.h_.Envs.map impl_EnvCell.e)))), (170, 1007, 2, (some (.row true true 2 (x.h_.Clos.map impl_Clo.e)))), (170, 1008, 2, (some (.row true true 4 (x.h_.Twos.map impl_Two.e)))), (170, 1009, 2, (some (.row true true 2 (x.h_.Refs.map impl_Val.e)))), (170, 1010, 2, (some (.row true true 3 (x.ev.map impl_Event.e))))]) (fun J h => ?_) ?_
          · try ((with_reducible apply cdX); exact rfl)
            refine ifB h (fun c24 h => ?_) (fun c24 h => ?_)
            · refine Ask.T rfl ?_
              refine Ask.T rfl ?_
              refine Ask.T rfl ?_
              refine Ask.T rfl ?_
              refine Ask.T rfl ?_
              refine Ask.T rfl ?_
              refine Ask.T rfl ?_
              exact ⟨(⟨a0.mode, a0.node, a0.env, a0.val, a0.stack, a0.h_, a0.ev, true⟩ : spec_l11State), h, ⟨rfl, ⟨(by kernel_rfl), (by kernel_rfl), (by kernel_rfl), (by kernel_rfl), (by kernel_rfl), trivial⟩, ⟨(by kernel_rfl), (by kernel_rfl), (by kernel_rfl), (by kernel_rfl), (by kernel_rfl), (by kernel_rfl), (by kernel_rfl), (by kernel_rfl), (by kernel_rfl), (by kernel_rfl), (by kernel_rfl), trivial⟩⟩⟩
            · refine Ask.F rfl ?_
              refine Ask.F rfl ?_
              refine Ask.F rfl ?_
              refine ifB h (fun c25 h => ?_) (fun c25 h => ?_)
              · refine Ask.T rfl ?_
                refine Ask.T rfl ?_
                refine Ask.T rfl ?_
                exact ⟨(⟨a0.mode, a0.node, a0.env, a0.val, a0.stack, a0.h_, a0.ev, true⟩ : spec_l11State), h, ⟨rfl, ⟨(by kernel_rfl), (by kernel_rfl), (by kernel_rfl), (by kernel_rfl), (by kernel_rfl), trivial⟩, ⟨(by kernel_rfl), (by kernel_rfl), (by kernel_rfl), (by kernel_rfl), (by kernel_rfl), (by kernel_rfl), (by kernel_rfl), (by kernel_rfl), (by kernel_rfl), (by kernel_rfl), (by kernel_rfl), trivial⟩⟩⟩
              · refine Ask.F rfl ?_
                refine Ask.F rfl ?_
                refine Ask.F rfl ?_
                exact ⟨(⟨a0.mode, a0.node, a0.env, a0.val, a0.stack, a0.h_, a0.ev, (!(decide (a3.Kind = 0)))⟩ : spec_l11State), h, ⟨rfl, ⟨(by kernel_rfl), (by kernel_rfl), (by kernel_rfl), (by kernel_rfl), (by kernel_rfl), trivial⟩, ⟨(by kernel_rfl), (by kernel_rfl), (by kernel_rfl), (by kernel_rfl), (by kernel_rfl), (by kernel_rfl), (by kernel_rfl), (by kernel_rfl), (by kernel_rfl), (by kernel_rfl), (by kernel_rfl), trivial⟩⟩⟩
          · rintro v23 h e hp
            refine ⟨[[], [102, 103, 104, 105, 106, 107, 108], [102, 103, 104, 105, 106, 107, 108], [100, 101, 104, 105, 106, 107], [100, 101, 104, 105, 106, 107], [100, 101, 102, 103, 106, 107], [100, 101, 102, 103, 106, 107], [100, 101, 102, 103, 104, 105], [100, 101, 102, 103, 104, 105], [100, 101], [], []], [], by kernel_rfl, ?_⟩
            refine bindG h fun y26 hy27 h => ?_
            refine exM ([(.d (.p (.int .i64 y26)))], []) ?_ ?_
            · exact spec_l11Prim.ev hy27
            refine bindG h fun y28 hy29 h => ?_
            refine exM ([], [(.ptr y28.q)]) ?_ ?_
            · exact spec_l11Done.ev hy29
            exact retE (enc := spec_l11Second.enc) h (by kernel_rfl)
        · try ((with_reducible apply cdX); exact rfl)
          refine iteF h (fun c30 h => ?_) (fun c30 h => ?_)
          · refine goS ?_
            try ((with_reducible apply cdX); exact rfl)
            refine ifB h (fun c31 h => ?_) (fun c31 h => ?_)
            · refine goS ?_
              exact retE (enc := spec_l11Second.enc) h (by kernel_rfl)
            · refine goR ?_
              refine ⟨[[], [124, 125, 10], [124, 125, 10], [124, 125, 10], [124, 125, 10], [120, 121, 122, 123, 10], [120, 121, 122, 123, 10], [10], [10], [120, 121, 122, 123, 124, 125, 126, 127], []], [], by kernel_rfl, ?_⟩
              refine bindG h fun x32 hx32 h => ?_
              refine anM (at_ix rfl hx32) ?_
              refine exM (impl_Clo.e x32) (at_get rfl hx32) ?_
              refine Re.mk 170 [(0, (.ptr 170 0 1 0)), (1, (.d (.l true 7 (a1.map impl_Node.e)))), (6, (.ptr 6 0 2 0)), (7, (.ptr 7 0 2 0)), (10, (.ptr 10 0 2 0))] [(6, 0, 2, (some (.box [(.d (.p (.int .i64 a2.node))), (.d (.p (.int .i64 a2.env))), (.d (.p (.int .i64 a2.val.Kind))), (.d (.p (.int .i64 a2.val.N))), (.d (.p (.int .i64 a2.stage)))]))), (7, 0, 2, (some (.box [(.d (.p (.int .i64 a3.Kind))), (.d (.p (.int .i64 a3.N)))]))), (10, 0, 2, (some (.box [(.d (.p (.int .i64 x32.Node))), (.d (.p (.int .i64 x32.Env)))]))), (170, 0, 1, (some (.box [(.d (.p (.int .i64 a0.mode))), (.d (.p (.int .i64 a0.node))), (.d (.p (.int .i64 a0.env))), (.d (.p (.int .i64 a0.val.Kind))), (.d (.p (.int .i64 a0.val.N))), (.own 170 1005 2), (.own 170 1006 2), (.own 170 1007 2), (.own 170 1008 2), (.own 170 1009 2), (.own 170 1010 2), (.d (.p (.bool a0.stuck)))]))), (170, 1005, 2, (some (.row true true 5 (a0.stack.map spec_l11Frame.e)))), (170, 1006, 2, (some (.row true true 5 (a0.h_.Envs.map impl_EnvCell.e)))), (170, 1007, 2, (some (.row true true 2 (a0.h_.Clos.map impl_Clo.e)))), (170, 1008, 2, (some (.row true true 4 (a0.h_.Twos.map impl_Two.e)))), (170, 1009, 2, (some (.row true true 2 (a0.h_.Refs.map impl_Val.e)))), (170, 1010, 2, (some (.row true true 3 (a0.ev.map impl_Event.e))))] (by exact ⟨rfl, ⟨(by kernel_rfl), (by kernel_rfl), (by kernel_rfl), (by kernel_rfl), (by kernel_rfl), trivial⟩, ⟨(by kernel_rfl), (by kernel_rfl), (by kernel_rfl), (by kernel_rfl), (by kernel_rfl), (by kernel_rfl), (by kernel_rfl), (by kernel_rfl), (by kernel_rfl), (by kernel_rfl), trivial⟩⟩) ?_
              intro e hp
              refine seqJ h 170 (fun x => [(0, (.ptr 170 0 1 0)), (1, (.d (.l true 7 (a1.map impl_Node.e)))), (6, (.ptr 6 0 2 0)), (7, (.ptr 7 0 2 0)), (10, (.ptr 10 0 2 0)), (11, (.d (.p (.int .i64 x))))]) (fun x => [(6, 0, 2, (some (.box [(.d (.p (.int .i64 a2.node))), (.d (.p (.int .i64 a2.env))), (.d (.p (.int .i64 a2.val.Kind))), (.d (.p (.int .i64 a2.val.N))), (.d (.p (.int .i64 a2.stage)))]))), (7, 0, 2, (some (.box [(.d (.p (.int .i64 a3.Kind))), (.d (.p (.int .i64 a3.N)))]))), (10, 0, 2, (some (.box [(.d (.p (.int .i64 x32.Node))), (.d (.p (.int .i64 x32.Env)))]))), (170, 0, 1, (some (.box [(.d (.p (.int .i64 a0.mode))), (.d (.p (.int .i64 a0.node))), (.d (.p (.int .i64 a0.env))), (.d (.p (.int .i64 a0.val.Kind))), (.d (.p (.int .i64 a0.val.N))), (.own 170 1005 2), (.own 170 1006 2), (.own 170 1007 2), (.own 170 1008 2), (.own 170 1009 2), (.own 170 1010 2), (.d (.p (.bool a0.stuck)))]))), (170, 1005, 2, (some (.row true true 5 (a0.stack.map spec_l11Frame.e)))), (170, 1006, 2, (some (.row true true 5 (a0.h_.Envs.map impl_EnvCell.e)))), (170, 1007, 2, (some (.row true true 2 (a0.h_.Clos.map impl_Clo.e)))), (170, 1008, 2, (some (.row true true 4 (a0.h_.Twos.map impl_Two.e)))), (170, 1009, 2, (some (.row true true 2 (a0.h_.Refs.map impl_Val.e)))), (170, 1010, 2, (some (.row true true 3 (a0.ev.map impl_Event.e))))]) (fun J h => ?_) ?_
              · refine bindG h fun x34 hx34 h => ?_
                refine anM (at_ix rfl hx34) ?_
                refine exM (impl_Node.e x34) (at_get rfl hx34) ?_
                refine iteF h (fun c35 h => ?_) (fun c35 h => ?_)
                · exact ⟨1, h, ⟨rfl, ⟨(by kernel_rfl), (by kernel_rfl), (by kernel_rfl), (by kernel_rfl), (by kernel_rfl), (by kernel_rfl), trivial⟩, ⟨(by kernel_rfl), (by kernel_rfl), (by kernel_rfl), (by kernel_rfl), (by kernel_rfl), (by kernel_rfl), (by kernel_rfl), (by kernel_rfl), (by kernel_rfl), (by kernel_rfl), trivial⟩⟩⟩
                · exact ⟨0, h, ⟨rfl, ⟨(by kernel_rfl), (by kernel_rfl), (by kernel_rfl), (by kernel_rfl), (by kernel_rfl), (by kernel_rfl), trivial⟩, ⟨(by kernel_rfl), (by kernel_rfl), (by kernel_rfl), (by kernel_rfl), (by kernel_rfl), (by kernel_rfl), (by kernel_rfl), (by kernel_rfl), (by kernel_rfl), (by kernel_rfl), trivial⟩⟩⟩
              · rintro v33 h e hp
                refine goR ?_
                refine ⟨[[], [], [140, 141, 142, 143, 145], [140, 141, 142, 143, 145], [140, 141, 142, 143, 145], [137, 138, 139, 142, 143], [137, 138, 139, 142, 143], [137, 138, 139, 140, 141], [137, 138, 139, 140, 141], [], [137, 138, 139], [], [], [], []], [], by kernel_rfl, ?_⟩
                refine eqM (([(⟨1, a2.node, x32.Node⟩ : impl_Event)] : List impl_Event).map impl_Event.e) rfl ?_
                refine gdG h fun hc h => ?_
                refine anM (apB hc) ?_
                refine eqM ((a0.ev ++ ([(⟨1, a2.node, x32.Node⟩ : impl_Event)] : List impl_Event)).map impl_Event.e) (mApp rfl rfl) ?_
                refine Re.mk 170 [(0, (.ptr 170 0 1 0)), (1, (.d (.l true 7 (a1.map impl_Node.e)))), (6, (.ptr 6 0 2 0)), (7, (.ptr 7 0 2 0)), (10, (.ptr 10 0 2 0)), (11, (.d (.p (.int .i64 v33))))] [(6, 0, 2, (some (.box [(.d (.p (.int .i64 a2.node))), (.d (.p (.int .i64 a2.env))), (.d (.p (.int .i64 a2.val.Kind))), (.d (.p (.int .i64 a2.val.N))), (.d (.p (.int .i64 a2.stage)))]))), (7, 0, 2, (some (.box [(.d (.p (.int .i64 a3.Kind))), (.d (.p (.int .i64 a3.N)))]))), (10, 0, 2, (some (.box [(.d (.p (.int .i64 x32.Node))), (.d (.p (.int .i64 x32.Env)))]))), (170, 0, 1, (some (.box [(.d (.p (.int .i64 a0.mode))), (.d (.p (.int .i64 a0.node))), (.d (.p (.int .i64 a0.env))), (.d (.p (.int .i64 a0.val.Kind))), (.d (.p (.int .i64 a0.val.N))), (.own 170 1005 2), (.own 170 1006 2), (.own 170 1007 2), (.own 170 1008 2), (.own 170 1009 2), (.own 170 1010 2), (.d (.p (.bool a0.stuck)))]))), (170, 1005, 2, (some (.row true true 5 (a0.stack.map spec_l11Frame.e)))), (170, 1006, 2, (some (.row true true 5 (a0.h_.Envs.map impl_EnvCell.e)))), (170, 1007, 2, (some (.row true true 2 (a0.h_.Clos.map impl_Clo.e)))), (170, 1008, 2, (some (.row true true 4 (a0.h_.Twos.map impl_Two.e)))), (170, 1009, 2, (some (.row true true 2 (a0.h_.Refs.map impl_Val.e)))), (170, 1010, 2, (some (.row true true 3 ((a0.ev ++ ([(⟨1, a2.node, x32.Node⟩ : impl_Event)] : List impl_Event)).map impl_Event.e))))] (by exact ⟨rfl, ⟨(by kernel_rfl), (by kernel_rfl), (by kernel_rfl), (by kernel_rfl), (by kernel_rfl), (by kernel_rfl), trivial⟩, ⟨(by kernel_rfl), (by kernel_rfl), (by kernel_rfl), (by kernel_rfl), (by kernel_rfl), (by kernel_rfl), (by kernel_rfl), (by kernel_rfl), (by kernel_rfl), (by kernel_rfl), trivial⟩⟩) ?_
                intro e hp
                refine bindG h fun y36 hy37 h => ?_
                refine exM ([], [(.ptr y36.q)]) ?_ ?_
                · exact spec_l11Push.ev hy37
                refine ⟨[[], [], [162, 163, 165, 166, 167, 168], [162, 163, 165, 166, 167, 168], [162, 163, 165, 166, 167, 168], [162, 163, 165, 166, 167, 168], [162, 163, 165, 166, 167, 168], [], [156, 157, 158, 159, 160, 165, 166, 167], [156, 157, 158, 159, 160, 165, 166, 167], [], [156, 157, 158, 159, 160, 162, 163, 166, 167], [156, 157, 158, 159, 160, 162, 163, 165], [156, 157, 158, 159, 160, 162, 163, 165], [156, 999999, 10, 157, 999999, 10, 158, 999999, 1, 157, 159, 999999, 1, 160, 999999, 1], []], [[], [], [999999, 10], [999999, 10], [999999, 1, 157], [999999, 1], [999999, 1], [], [], [], [], [], [], [], [], []], by kernel_rfl, ?_⟩
                refine bindG h fun x38 hx38 h => ?_
                refine anM (at_ix rfl hx38) ?_
                refine exM (impl_Node.e x38) (at_get rfl hx38) ?_
                refine bindG h ?_
                rintro ⟨y39, y40⟩ hy41 h
                refine exM ([(.d (.p (.int .i64 y39)))], [(.ptr y40.q)]) ?_ ?_
                · exact spec_l11Bind.ev hy41
                refine bindG h fun y42 hy43 h => ?_
                refine exM ([], [(.ptr y42.q)]) ?_ ?_
                · exact spec_l11Look.ev hy43
                exact retE (enc := spec_l11Second.enc) h (by kernel_rfl)
          · exact retE (enc := spec_l11Second.enc) h (by kernel_rfl)
def spec_l11Back.enc (r : spec_l11State) : Res := ([], [(.ptr r.q)])
def spec_l11Back.f  (K : Nat) (a0 : spec_l11State) (a1 : List impl_Node) : Option (spec_l11State) := (at_ a0.stack (w64 ((a0.stack.length : Int) - 1))).bind fun x1 => (gd (0 ≤ (0 : Int) ∧ (0 : Int) ≤ (w64 ((a0.stack.length : Int) - 1)) ∧ (w64 ((a0.stack.length : Int) - 1)) ≤ (a0.stack.length : Int)) (if x1.stage = 1 then ((spec_l11First.f K (⟨a0.mode, a0.node, a0.env, a0.val, (a0.stack.take ((w64 ((a0.stack.length : Int) - 1))).toNat), a0.h_, a0.ev, a0.stuck⟩ : spec_l11State) a1 x1 a0.val).bind fun y3 => (some y3)) else (if x1.stage = 3 then ((spec_l11Second.f K (⟨a0.mode, a0.node, a0.env, a0.val, (a0.stack.take ((w64 ((a0.stack.length : Int) - 1))).toNat), a0.h_, a0.ev, a0.stuck⟩ : spec_l11State) a1 x1 a0.val).bind fun y6 => (some y6)) else ((spec_l11Done.f K (⟨a0.mode, a0.node, a0.env, a0.val, (a0.stack.take ((w64 ((a0.stack.length : Int) - 1))).toNat), a0.h_, a0.ev, a0.stuck⟩ : spec_l11State) x1.node a0.val).bind fun y8 => (some y8)))))
theorem spec_l11Back.ev   {K : Nat} {a0 : spec_l11State} {a1 : List impl_Node} {r : spec_l11State} (h : spec_l11Back.f  K a0 a1 = some r) : E 30 [(.ptr a0.q), (.d (.l true 7 (a1.map impl_Node.e)))] = some ([], [(.ptr r.q)]) := by
  refine Ev_intro (fn := Tryz.f30) rfl (by kernel_rfl) (c := _) rfl ⟨rfl, by simp⟩ (vs := [(.ptr 61 0 1 0), (.d (.l true 7 (a1.map impl_Node.e)))]) (h0 := (((((((Hp.nil.put 61 1005 (1, (some (.row true true 5 (a0.stack.map spec_l11Frame.e))))).put 61 1006 (1, (some (.row true true 5 (a0.h_.Envs.map impl_EnvCell.e))))).put 61 1007 (1, (some (.row true true 2 (a0.h_.Clos.map impl_Clo.e))))).put 61 1008 (1, (some (.row true true 4 (a0.h_.Twos.map impl_Two.e))))).put 61 1009 (1, (some (.row true true 2 (a0.h_.Refs.map impl_Val.e))))).put 61 1010 (1, (some (.row true true 3 (a0.ev.map impl_Event.e))))).put 61 0 (1, (some (.box [(.d (.p (.int .i64 a0.mode))), (.d (.p (.int .i64 a0.node))), (.d (.p (.int .i64 a0.env))), (.d (.p (.int .i64 a0.val.Kind))), (.d (.p (.int .i64 a0.val.N))), (.own 61 1005 1), (.own 61 1006 1), (.own 61 1007 1), (.own 61 1008 1), (.own 61 1009 1), (.own 61 1010 1), (.d (.p (.bool a0.stuck)))]))))) (by kernel_rfl) (evP_spec _ ?_)
  unfold spec_l11Back.f at h
  refine goR ?_
  refine ⟨[[], [10, 11, 12, 13, 4], [10, 11, 12, 13, 4], [10, 11, 12, 13, 4], [], [6, 7, 8, 4], [6, 7, 8, 4], [6, 7, 8, 4], [6, 7, 8, 4], [], [4], [4], [6, 7, 8, 10, 11, 12, 13, 15, 16], []], [], by kernel_rfl, ?_⟩
  refine eqM ((a0.stack.length : Int) : Int) (mLen rfl) ?_
  refine bindG h fun x1 hx1 h => ?_
  refine anM (at_ix rfl hx1) ?_
  refine exM (spec_l11Frame.e x1) (at_get rfl hx1) ?_
  refine Re.mk 61 [(0, (.ptr 61 0 1 0)), (1, (.d (.l true 7 (a1.map impl_Node.e)))), (4, (.ptr 4 0 2 0))] [(4, 0, 2, (some (.box [(.d (.p (.int .i64 x1.node))), (.d (.p (.int .i64 x1.env))), (.d (.p (.int .i64 x1.val.Kind))), (.d (.p (.int .i64 x1.val.N))), (.d (.p (.int .i64 x1.stage)))]))), (61, 0, 1, (some (.box [(.d (.p (.int .i64 a0.mode))), (.d (.p (.int .i64 a0.node))), (.d (.p (.int .i64 a0.env))), (.d (.p (.int .i64 a0.val.Kind))), (.d (.p (.int .i64 a0.val.N))), (.own 61 1005 2), (.own 61 1006 2), (.own 61 1007 2), (.own 61 1008 2), (.own 61 1009 2), (.own 61 1010 2), (.d (.p (.bool a0.stuck)))]))), (61, 1005, 2, (some (.row true true 5 (a0.stack.map spec_l11Frame.e)))), (61, 1006, 2, (some (.row true true 5 (a0.h_.Envs.map impl_EnvCell.e)))), (61, 1007, 2, (some (.row true true 2 (a0.h_.Clos.map impl_Clo.e)))), (61, 1008, 2, (some (.row true true 4 (a0.h_.Twos.map impl_Two.e)))), (61, 1009, 2, (some (.row true true 2 (a0.h_.Refs.map impl_Val.e)))), (61, 1010, 2, (some (.row true true 3 (a0.ev.map impl_Event.e))))] (by exact ⟨rfl, ⟨(by kernel_rfl), (by kernel_rfl), (by kernel_rfl), trivial⟩, ⟨(by kernel_rfl), (by kernel_rfl), (by kernel_rfl), (by kernel_rfl), (by kernel_rfl), (by kernel_rfl), (by kernel_rfl), (by kernel_rfl), trivial⟩⟩) ?_
  intro e hp
  refine goR ?_
  refine ⟨[[], [], [23, 24, 25, 26], [23, 24, 25, 26], [23, 24, 25, 26], [], [19, 20, 21], [19, 20, 21], [19, 20, 21], [19, 20, 21], [], [], [], [], []], [], by kernel_rfl, ?_⟩
  refine eqM ((a0.stack.length : Int) : Int) (mLen rfl) ?_
  refine gdG h fun hc h => ?_
  refine anM (slB hc) ?_
  refine eqM ((a0.stack.take ((w64 ((a0.stack.length : Int) - 1))).toNat).map spec_l11Frame.e) (mTake rfl) ?_
  refine Re.mk 61 [(0, (.ptr 61 0 1 0)), (1, (.d (.l true 7 (a1.map impl_Node.e)))), (4, (.ptr 4 0 2 0))] [(4, 0, 2, (some (.box [(.d (.p (.int .i64 x1.node))), (.d (.p (.int .i64 x1.env))), (.d (.p (.int .i64 x1.val.Kind))), (.d (.p (.int .i64 x1.val.N))), (.d (.p (.int .i64 x1.stage)))]))), (61, 0, 1, (some (.box [(.d (.p (.int .i64 a0.mode))), (.d (.p (.int .i64 a0.node))), (.d (.p (.int .i64 a0.env))), (.d (.p (.int .i64 a0.val.Kind))), (.d (.p (.int .i64 a0.val.N))), (.own 61 1005 2), (.own 61 1006 2), (.own 61 1007 2), (.own 61 1008 2), (.own 61 1009 2), (.own 61 1010 2), (.d (.p (.bool a0.stuck)))]))), (61, 1005, 2, (some (.row true true 5 ((a0.stack.take ((w64 ((a0.stack.length : Int) - 1))).toNat).map spec_l11Frame.e)))), (61, 1006, 2, (some (.row true true 5 (a0.h_.Envs.map impl_EnvCell.e)))), (61, 1007, 2, (some (.row true true 2 (a0.h_.Clos.map impl_Clo.e)))), (61, 1008, 2, (some (.row true true 4 (a0.h_.Twos.map impl_Two.e)))), (61, 1009, 2, (some (.row true true 2 (a0.h_.Refs.map impl_Val.e)))), (61, 1010, 2, (some (.row true true 3 (a0.ev.map impl_Event.e))))] (by exact ⟨rfl, ⟨(by kernel_rfl), (by kernel_rfl), (by kernel_rfl), trivial⟩, ⟨(by kernel_rfl), (by kernel_rfl), (by kernel_rfl), (by kernel_rfl), (by kernel_rfl), (by kernel_rfl), (by kernel_rfl), (by kernel_rfl), trivial⟩⟩) ?_
  intro e hp
  try ((with_reducible apply cdX); exact rfl)
  refine iteF h (fun c2 h => ?_) (fun c2 h => ?_)
  · refine ⟨[[], [], [47, 48, 49], [], [45], [45], [45], []], [], by kernel_rfl, ?_⟩
    refine bindG h fun y3 hy4 h => ?_
    refine exM ([], [(.ptr y3.q)]) ?_ ?_
    · exact spec_l11First.ev hy4
    exact retE (enc := spec_l11Back.enc) h (by kernel_rfl)
  · try ((with_reducible apply cdX); exact rfl)
    refine iteF h (fun c5 h => ?_) (fun c5 h => ?_)
    · refine ⟨[[], [], [57, 58, 59], [], [55], [55], [55], []], [], by kernel_rfl, ?_⟩
      refine bindG h fun y6 hy7 h => ?_
      refine exM ([], [(.ptr y6.q)]) ?_ ?_
      · exact spec_l11Second.ev hy7
      exact retE (enc := spec_l11Back.enc) h (by kernel_rfl)
    · refine ⟨[[], [37, 38, 39], [37, 38, 39], [], [34, 35], [34, 35], [34, 35], []], [], by kernel_rfl, ?_⟩
      refine bindG h fun y8 hy9 h => ?_
      refine exM ([], [(.ptr y8.q)]) ?_ ?_
      · exact spec_l11Done.ev hy9
      exact retE (enc := spec_l11Back.enc) h (by kernel_rfl)
def spec_l11Throw.enc (r : spec_l11State) : Res := ([], [(.ptr r.q)])
def spec_l11Throw.f  (K : Nat) (a0 : spec_l11State) (a1 : List impl_Node) : Option (spec_l11State) := (at_ a0.stack (w64 ((a0.stack.length : Int) - 1))).bind fun x1 => (gd (0 ≤ (0 : Int) ∧ (0 : Int) ≤ (w64 ((a0.stack.length : Int) - 1)) ∧ (w64 ((a0.stack.length : Int) - 1)) ≤ (a0.stack.length : Int)) (jn (fun (v2 : Bool) => if v2 = true then ((spec_l11Push.f K (⟨a0.mode, a0.node, a0.env, a0.val, (a0.stack.take ((w64 ((a0.stack.length : Int) - 1))).toNat), a0.h_, a0.ev, a0.stuck⟩ : spec_l11State) (⟨x1.node, 0, (⟨0, 0⟩ : impl_Val), 2⟩ : spec_l11Frame)).bind fun y6 => ((at_ a1 x1.node).bind fun x8 => ((spec_l11Bind.f K y6 x1.node 0 y6.val x1.env).bind fun (y9, y10) => ((spec_l11Look.f K y10 x8.B y9).bind fun y12 => (some y12))))) else (some (⟨a0.mode, a0.node, a0.env, a0.val, (a0.stack.take ((w64 ((a0.stack.length : Int) - 1))).toNat), a0.h_, a0.ev, a0.stuck⟩ : spec_l11State))) (fun j => (at_ a1 x1.node).bind fun x3 => (if x3.Kind = 19 then (j (decide (x1.stage = 1))) else (j false)))))
theorem spec_l11Throw.ev   {K : Nat} {a0 : spec_l11State} {a1 : List impl_Node} {r : spec_l11State} (h : spec_l11Throw.f  K a0 a1 = some r) : E 31 [(.ptr a0.q), (.d (.l true 7 (a1.map impl_Node.e)))] = some ([], [(.ptr r.q)]) := by
  refine Ev_intro (fn := Tryz.f31) rfl (by kernel_rfl) (c := _) rfl ⟨rfl, by simp⟩ (vs := [(.ptr 66 0 1 0), (.d (.l true 7 (a1.map impl_Node.e)))]) (h0 := (((((((Hp.nil.put 66 1005 (1, (some (.row true true 5 (a0.stack.map spec_l11Frame.e))))).put 66 1006 (1, (some (.row true true 5 (a0.h_.Envs.map impl_EnvCell.e))))).put 66 1007 (1, (some (.row true true 2 (a0.h_.Clos.map impl_Clo.e))))).put 66 1008 (1, (some (.row true true 4 (a0.h_.Twos.map impl_Two.e))))).put 66 1009 (1, (some (.row true true 2 (a0.h_.Refs.map impl_Val.e))))).put 66 1010 (1, (some (.row true true 3 (a0.ev.map impl_Event.e))))).put 66 0 (1, (some (.box [(.d (.p (.int .i64 a0.mode))), (.d (.p (.int .i64 a0.node))), (.d (.p (.int .i64 a0.env))), (.d (.p (.int .i64 a0.val.Kind))), (.d (.p (.int .i64 a0.val.N))), (.own 66 1005 1), (.own 66 1006 1), (.own 66 1007 1), (.own 66 1008 1), (.own 66 1009 1), (.own 66 1010 1), (.d (.p (.bool a0.stuck)))]))))) (by kernel_rfl) (evP_spec _ ?_)
  unfold spec_l11Throw.f at h
  refine goR ?_
  refine ⟨[[], [10, 11, 12, 13, 4], [10, 11, 12, 13, 4], [10, 11, 12, 13, 4], [], [6, 7, 8, 4], [6, 7, 8, 4], [6, 7, 8, 4], [6, 7, 8, 4], [], [4], [4], [6, 7, 8, 10, 11, 12, 13, 15, 16], []], [], by kernel_rfl, ?_⟩
  refine eqM ((a0.stack.length : Int) : Int) (mLen rfl) ?_
  refine bindG h fun x1 hx1 h => ?_
  refine anM (at_ix rfl hx1) ?_
  refine exM (spec_l11Frame.e x1) (at_get rfl hx1) ?_
  refine Re.mk 66 [(0, (.ptr 66 0 1 0)), (1, (.d (.l true 7 (a1.map impl_Node.e)))), (4, (.ptr 4 0 2 0))] [(4, 0, 2, (some (.box [(.d (.p (.int .i64 x1.node))), (.d (.p (.int .i64 x1.env))), (.d (.p (.int .i64 x1.val.Kind))), (.d (.p (.int .i64 x1.val.N))), (.d (.p (.int .i64 x1.stage)))]))), (66, 0, 1, (some (.box [(.d (.p (.int .i64 a0.mode))), (.d (.p (.int .i64 a0.node))), (.d (.p (.int .i64 a0.env))), (.d (.p (.int .i64 a0.val.Kind))), (.d (.p (.int .i64 a0.val.N))), (.own 66 1005 2), (.own 66 1006 2), (.own 66 1007 2), (.own 66 1008 2), (.own 66 1009 2), (.own 66 1010 2), (.d (.p (.bool a0.stuck)))]))), (66, 1005, 2, (some (.row true true 5 (a0.stack.map spec_l11Frame.e)))), (66, 1006, 2, (some (.row true true 5 (a0.h_.Envs.map impl_EnvCell.e)))), (66, 1007, 2, (some (.row true true 2 (a0.h_.Clos.map impl_Clo.e)))), (66, 1008, 2, (some (.row true true 4 (a0.h_.Twos.map impl_Two.e)))), (66, 1009, 2, (some (.row true true 2 (a0.h_.Refs.map impl_Val.e)))), (66, 1010, 2, (some (.row true true 3 (a0.ev.map impl_Event.e))))] (by exact ⟨rfl, ⟨(by kernel_rfl), (by kernel_rfl), (by kernel_rfl), trivial⟩, ⟨(by kernel_rfl), (by kernel_rfl), (by kernel_rfl), (by kernel_rfl), (by kernel_rfl), (by kernel_rfl), (by kernel_rfl), (by kernel_rfl), trivial⟩⟩) ?_
  intro e hp
  refine goR ?_
  refine ⟨[[], [], [23, 24, 25, 26], [23, 24, 25, 26], [23, 24, 25, 26], [], [19, 20, 21], [19, 20, 21], [19, 20, 21], [19, 20, 21], [], [], [], [], []], [], by kernel_rfl, ?_⟩
  refine eqM ((a0.stack.length : Int) : Int) (mLen rfl) ?_
  refine gdG h fun hc h => ?_
  refine anM (slB hc) ?_
  refine eqM ((a0.stack.take ((w64 ((a0.stack.length : Int) - 1))).toNat).map spec_l11Frame.e) (mTake rfl) ?_
  refine Re.mk 66 [(0, (.ptr 66 0 1 0)), (1, (.d (.l true 7 (a1.map impl_Node.e)))), (4, (.ptr 4 0 2 0))] [(4, 0, 2, (some (.box [(.d (.p (.int .i64 x1.node))), (.d (.p (.int .i64 x1.env))), (.d (.p (.int .i64 x1.val.Kind))), (.d (.p (.int .i64 x1.val.N))), (.d (.p (.int .i64 x1.stage)))]))), (66, 0, 1, (some (.box [(.d (.p (.int .i64 a0.mode))), (.d (.p (.int .i64 a0.node))), (.d (.p (.int .i64 a0.env))), (.d (.p (.int .i64 a0.val.Kind))), (.d (.p (.int .i64 a0.val.N))), (.own 66 1005 2), (.own 66 1006 2), (.own 66 1007 2), (.own 66 1008 2), (.own 66 1009 2), (.own 66 1010 2), (.d (.p (.bool a0.stuck)))]))), (66, 1005, 2, (some (.row true true 5 ((a0.stack.take ((w64 ((a0.stack.length : Int) - 1))).toNat).map spec_l11Frame.e)))), (66, 1006, 2, (some (.row true true 5 (a0.h_.Envs.map impl_EnvCell.e)))), (66, 1007, 2, (some (.row true true 2 (a0.h_.Clos.map impl_Clo.e)))), (66, 1008, 2, (some (.row true true 4 (a0.h_.Twos.map impl_Two.e)))), (66, 1009, 2, (some (.row true true 2 (a0.h_.Refs.map impl_Val.e)))), (66, 1010, 2, (some (.row true true 3 (a0.ev.map impl_Event.e))))] (by exact ⟨rfl, ⟨(by kernel_rfl), (by kernel_rfl), (by kernel_rfl), trivial⟩, ⟨(by kernel_rfl), (by kernel_rfl), (by kernel_rfl), (by kernel_rfl), (by kernel_rfl), (by kernel_rfl), (by kernel_rfl), (by kernel_rfl), trivial⟩⟩) ?_
  intro e hp
  refine seqJ h 66 (fun x => [(0, (.ptr 66 0 1 0)), (1, (.d (.l true 7 (a1.map impl_Node.e)))), (4, (.ptr 4 0 2 0)), (42, (.d (.p (.bool x))))]) (fun x => [(4, 0, 2, (some (.box [(.d (.p (.int .i64 x1.node))), (.d (.p (.int .i64 x1.env))), (.d (.p (.int .i64 x1.val.Kind))), (.d (.p (.int .i64 x1.val.N))), (.d (.p (.int .i64 x1.stage)))]))), (66, 0, 1, (some (.box [(.d (.p (.int .i64 a0.mode))), (.d (.p (.int .i64 a0.node))), (.d (.p (.int .i64 a0.env))), (.d (.p (.int .i64 a0.val.Kind))), (.d (.p (.int .i64 a0.val.N))), (.own 66 1005 2), (.own 66 1006 2), (.own 66 1007 2), (.own 66 1008 2), (.own 66 1009 2), (.own 66 1010 2), (.d (.p (.bool a0.stuck)))]))), (66, 1005, 2, (some (.row true true 5 ((a0.stack.take ((w64 ((a0.stack.length : Int) - 1))).toNat).map spec_l11Frame.e)))), (66, 1006, 2, (some (.row true true 5 (a0.h_.Envs.map impl_EnvCell.e)))), (66, 1007, 2, (some (.row true true 2 (a0.h_.Clos.map impl_Clo.e)))), (66, 1008, 2, (some (.row true true 4 (a0.h_.Twos.map impl_Two.e)))), (66, 1009, 2, (some (.row true true 2 (a0.h_.Refs.map impl_Val.e)))), (66, 1010, 2, (some (.row true true 3 (a0.ev.map impl_Event.e))))]) (fun J h => ?_) ?_
  · refine bindG h fun x3 hx3 h => ?_
    refine anM (at_ix rfl hx3) ?_
    refine exM (impl_Node.e x3) (at_get rfl hx3) ?_
    refine iteF h (fun c4 h => ?_) (fun c4 h => ?_)
    · refine Ask.T rfl ?_
      refine Ask.T rfl ?_
      refine Ask.T rfl ?_
      exact ⟨(decide (x1.stage = 1)), h, ⟨rfl, ⟨(by kernel_rfl), (by kernel_rfl), (by kernel_rfl), (by kernel_rfl), trivial⟩, ⟨(by kernel_rfl), (by kernel_rfl), (by kernel_rfl), (by kernel_rfl), (by kernel_rfl), (by kernel_rfl), (by kernel_rfl), (by kernel_rfl), trivial⟩⟩⟩
    · refine Ask.F rfl ?_
      refine Ask.F rfl ?_
      refine Ask.F rfl ?_
      exact ⟨false, h, ⟨rfl, ⟨(by kernel_rfl), (by kernel_rfl), (by kernel_rfl), (by kernel_rfl), trivial⟩, ⟨(by kernel_rfl), (by kernel_rfl), (by kernel_rfl), (by kernel_rfl), (by kernel_rfl), (by kernel_rfl), (by kernel_rfl), (by kernel_rfl), trivial⟩⟩⟩
  · rintro v2 h e hp
    try ((with_reducible apply cdX); exact rfl)
    refine ifB h (fun c5 h => ?_) (fun c5 h => ?_)
    · refine bindG h fun y6 hy7 h => ?_
      refine exM ([], [(.ptr y6.q)]) ?_ ?_
      · exact spec_l11Push.ev hy7
      refine ⟨[[], [], [56, 57, 59, 60, 61, 62, 63, 64], [56, 57, 59, 60, 61, 62, 63, 64], [56, 57, 59, 60, 61, 62, 63, 64], [56, 57, 59, 60, 61, 62, 63, 64], [56, 57, 59, 60, 61, 62, 63, 64], [], [50, 51, 52, 53, 54, 59, 60, 61, 62, 63], [50, 51, 52, 53, 54, 59, 60, 61, 62, 63], [], [50, 51, 52, 53, 54, 56, 57, 62, 63], [50, 51, 52, 53, 54, 56, 57, 62, 63], [50, 51, 52, 53, 54, 56, 57, 62, 63], [50, 51, 52, 53, 54, 56, 57, 59, 60, 61], [50, 51, 52, 53, 54, 56, 57, 59, 60, 61], [50, 999999, 4, 51, 999999, 4, 52, 999999, 1, 51, 53, 999999, 1, 54, 999999, 1], []], [[], [], [999999, 4], [999999, 4], [999999, 1, 51], [999999, 1], [999999, 1], [], [], [], [], [], [], [], [], [], [], []], by kernel_rfl, ?_⟩
      refine bindG h fun x8 hx8 h => ?_
      refine anM (at_ix rfl hx8) ?_
      refine exM (impl_Node.e x8) (at_get rfl hx8) ?_
      refine bindG h ?_
      rintro ⟨y9, y10⟩ hy11 h
      refine exM ([(.d (.p (.int .i64 y9)))], [(.ptr y10.q)]) ?_ ?_
      · exact spec_l11Bind.ev hy11
      refine bindG h fun y12 hy13 h => ?_
      refine exM ([], [(.ptr y12.q)]) ?_ ?_
      · exact spec_l11Look.ev hy13
      exact retE (enc := spec_l11Throw.enc) h (by kernel_rfl)
    · exact retE (enc := spec_l11Throw.enc) h (by kernel_rfl)
def spec_Dec.enc (r : ByteArray) : Res := ([(.d (.p (.string r)))], [])
def spec_Dec.l0 (K : Nat) : Nat → Int → ByteArray → Option (ByteArray)
  | 0, _, _ => none
  | k + 1, v3, v4 => if (!(decide (v3 = 0))) = true then (jn (fun (v7 : Int) => gd ((strOfNums ([(IntKind.u8.wrap (w64 (48 + v7)))] : List Int)).size + v4.size ≤ 9223372036854775807) (spec_Dec.l0 K k (w64 (Int.tdiv v3 10)) ((strOfNums ([(IntKind.u8.wrap (w64 (48 + v7)))] : List Int)) ++ v4))) (fun j => if (Int.tmod v3 10) < 0 then (j (w64 (0 - (Int.tmod v3 10)))) else (j (Int.tmod v3 10)))) else (some v4)
def spec_Dec.f  (K : Nat) (a0 : Int) : Option (ByteArray) := if a0 = 0 then (some (⟨#[48]⟩ : ByteArray)) else (jn (fun (v2 : ByteArray) => if a0 < 0 then (gd ((⟨#[45]⟩ : ByteArray).size + v2.size ≤ 9223372036854775807) (some ((⟨#[45]⟩ : ByteArray) ++ v2))) else (some v2)) (fun j => (spec_Dec.l0 K K a0 (⟨#[]⟩ : ByteArray)).bind fun (v5 : ByteArray) => j v5))
theorem spec_Dec.ev   {K : Nat} {a0 : Int} {r : ByteArray} (h : spec_Dec.f  K a0 = some r) : E 33 [(.d (.p (.int .i64 a0)))] = some ([(.d (.p (.string r)))], []) := by
  refine Ev_intro (fn := Tryz.f33) rfl (by kernel_rfl) (c := _) rfl ⟨rfl, by simp⟩ rfl (evP_spec _ ?_)
  unfold spec_Dec.f at h
  refine goS ?_
  try ((with_reducible apply cdX); exact rfl)
  refine iteF h (fun c1 h => ?_) (fun c1 h => ?_)
  · exact retE (enc := spec_Dec.enc) h rfl
  · refine seqJ h 31 (fun x => [(3, (.d (.p (.string x)))), (4, (.d (.p (.bool (decide (a0 < 0))))))]) (fun x => []) (fun J h => ?_) ?_
    · refine loopX (α := Int × ByteArray) (a := (a0, (⟨#[]⟩ : ByteArray))) 31 (fun x => [(0, (.d (.p (.int .i64 x.1)))), (3, (.d (.p (.string x.2)))), (4, (.d (.p (.bool (decide (a0 < 0))))))]) (fun x => []) (fun k x => spec_Dec.l0 K k x.1 x.2) 0 (fun x => [(3, (.d (.p (.string x)))), (4, (.d (.p (.bool (decide (a0 < 0))))))]) (fun x => []) h (fun _ => rfl) ?_ ⟨rfl, ⟨rfl, rfl, rfl, trivial⟩, trivial⟩ ?_
      · rintro k ⟨v3, v4⟩ r h e hp
        replace h : spec_Dec.l0 K (k + 1) v3 v4 = some r := h
        unfold spec_Dec.l0 at h
        refine goS ?_
        try ((with_reducible apply cdX); exact rfl)
        refine ifB h (fun c6 h => ?_) (fun c6 h => ?_)
        · refine anM (by decide) ?_
          refine seqJ h 31 (fun x => [(0, (.d (.p (.int .i64 v3)))), (3, (.d (.p (.string v4)))), (4, (.d (.p (.bool (decide (a0 < 0)))))), (5, (.d (.p (.int .i64 x))))]) (fun x => []) (fun J h => ?_) ?_
          · try ((with_reducible apply cdX); exact rfl)
            refine iteF h (fun c8 h => ?_) (fun c8 h => ?_)
            · exact ⟨(w64 (0 - (Int.tmod v3 10))), h, ⟨rfl, ⟨rfl, rfl, rfl, rfl, trivial⟩, trivial⟩⟩
            · exact ⟨(Int.tmod v3 10), h, ⟨rfl, ⟨rfl, rfl, rfl, rfl, trivial⟩, trivial⟩⟩
          · rintro v7 h e hp
            refine eqM (([(IntKind.u8.wrap (w64 (48 + v7)))] : List Int).map eY) rfl ?_
            refine exM ([(IntKind.u8.wrap (w64 (48 + v7)))] : List Int) (numsOf_map _) ?_
            refine gdG h fun hc h => ?_
            refine anM hc ?_
            refine anM (by decide) ?_
            exact ⟨((w64 (Int.tdiv v3 10)), ((strOfNums ([(IntKind.u8.wrap (w64 (48 + v7)))] : List Int)) ++ v4)), h, ⟨rfl, ⟨rfl, rfl, rfl, trivial⟩, trivial⟩⟩
        · refine exQ h ?_
          exact ⟨rfl, ⟨rfl, rfl, trivial⟩, trivial⟩
      · rintro v5 S' h ⟨qn, ⟨qa0, qa1, _⟩, ⟨_⟩⟩
        exact ⟨v5, h, ⟨qn, ⟨qa0, qa1, trivial⟩, trivial⟩⟩
    · rintro v2 h e hp
      refine goS ?_
      try ((with_reducible apply cdX); exact rfl)
      refine iteF h (fun c9 h => ?_) (fun c9 h => ?_)
      · refine gdG h fun hc h => ?_
        refine anM hc ?_
        exact retE (enc := spec_Dec.enc) h rfl
      · exact retE (enc := spec_Dec.enc) h rfl
def spec_l10Show.enc (r : ByteArray) : Res := ([(.d (.p (.string r)))], [])
def spec_l10Show.b (r_spec_l10Show : impl_Heap → impl_Val → Int → Option (ByteArray)) (K : Nat) (a0 : impl_Heap) (a1 : impl_Val) (a2 : Int) : Option (ByteArray) := if a1.Kind = 0 then ((spec_Dec.f K a1.N).bind fun y2 => (some y2)) else (if a1.Kind = 1 then (some (⟨#[102, 117, 110]⟩ : ByteArray)) else (if a1.Kind = 2 then (some (⟨#[110, 105, 108]⟩ : ByteArray)) else (if a1.Kind = 5 then (some (⟨#[114, 101, 102]⟩ : ByteArray)) else (if a2 ≤ 0 then (some (⟨#[95]⟩ : ByteArray)) else ((at_ a0.Twos a1.N).bind fun x8 => ((r_spec_l10Show a0 x8.A (w64 (a2 - 1))).bind fun y9 => ((r_spec_l10Show a0 x8.B (w64 (a2 - 1))).bind fun y11 => (if a1.Kind = 3 then (gd ((⟨#[40, 112, 97, 105, 114, 32]⟩ : ByteArray).size + y9.size ≤ 9223372036854775807) (gd (((⟨#[40, 112, 97, 105, 114, 32]⟩ : ByteArray) ++ y9).size + (⟨#[32]⟩ : ByteArray).size ≤ 9223372036854775807) (gd ((((⟨#[40, 112, 97, 105, 114, 32]⟩ : ByteArray) ++ y9) ++ (⟨#[32]⟩ : ByteArray)).size + y11.size ≤ 9223372036854775807) (gd (((((⟨#[40, 112, 97, 105, 114, 32]⟩ : ByteArray) ++ y9) ++ (⟨#[32]⟩ : ByteArray)) ++ y11).size + (⟨#[41]⟩ : ByteArray).size ≤ 9223372036854775807) (some (((((⟨#[40, 112, 97, 105, 114, 32]⟩ : ByteArray) ++ y9) ++ (⟨#[32]⟩ : ByteArray)) ++ y11) ++ (⟨#[41]⟩ : ByteArray))))))) else (gd ((⟨#[40, 99, 111, 110, 115, 32]⟩ : ByteArray).size + y9.size ≤ 9223372036854775807) (gd (((⟨#[40, 99, 111, 110, 115, 32]⟩ : ByteArray) ++ y9).size + (⟨#[32]⟩ : ByteArray).size ≤ 9223372036854775807) (gd ((((⟨#[40, 99, 111, 110, 115, 32]⟩ : ByteArray) ++ y9) ++ (⟨#[32]⟩ : ByteArray)).size + y11.size ≤ 9223372036854775807) (gd (((((⟨#[40, 99, 111, 110, 115, 32]⟩ : ByteArray) ++ y9) ++ (⟨#[32]⟩ : ByteArray)) ++ y11).size + (⟨#[41]⟩ : ByteArray).size ≤ 9223372036854775807) (some (((((⟨#[40, 99, 111, 110, 115, 32]⟩ : ByteArray) ++ y9) ++ (⟨#[32]⟩ : ByteArray)) ++ y11) ++ (⟨#[41]⟩ : ByteArray)))))))))))))))
theorem spec_l10Show.b_ev {r_spec_l10Show : impl_Heap → impl_Val → Int → Option (ByteArray)} (hr_spec_l10Show : ∀ {a0 : impl_Heap} {a1 : impl_Val} {a2 : Int} {r : ByteArray}, r_spec_l10Show a0 a1 a2 = some r → E 32 [(.agg (a0.e.map .d)), (.agg (a1.e.map .d)), (.d (.p (.int .i64 a2)))] = some ([(.d (.p (.string r)))], [])) {K : Nat} {a0 : impl_Heap} {a1 : impl_Val} {a2 : Int} {r : ByteArray} (h : spec_l10Show.b r_spec_l10Show K a0 a1 a2 = some r) : E 32 [(.agg (a0.e.map .d)), (.agg (a1.e.map .d)), (.d (.p (.int .i64 a2)))] = some ([(.d (.p (.string r)))], []) := by
  refine Ev_intro (fn := Tryz.f32) rfl (by kernel_rfl) (c := _) rfl ⟨rfl, by simp⟩ rfl (evP_spec _ ?_)
  unfold spec_l10Show.b at h
  refine goS ?_
  try ((with_reducible apply cdX); exact rfl)
  refine iteF h (fun c1 h => ?_) (fun c1 h => ?_)
  · refine bindG h fun y2 hy3 h => ?_
    refine exM ([(.d (.p (.string y2)))], []) ?_ ?_
    · exact spec_Dec.ev hy3
    exact retE (enc := spec_l10Show.enc) h rfl
  · try ((with_reducible apply cdX); exact rfl)
    refine iteF h (fun c4 h => ?_) (fun c4 h => ?_)
    · exact retE (enc := spec_l10Show.enc) h rfl
    · try ((with_reducible apply cdX); exact rfl)
      refine iteF h (fun c5 h => ?_) (fun c5 h => ?_)
      · exact retE (enc := spec_l10Show.enc) h rfl
      · try ((with_reducible apply cdX); exact rfl)
        refine iteF h (fun c6 h => ?_) (fun c6 h => ?_)
        · exact retE (enc := spec_l10Show.enc) h rfl
        · refine goS ?_
          try ((with_reducible apply cdX); exact rfl)
          refine iteF h (fun c7 h => ?_) (fun c7 h => ?_)
          · exact retE (enc := spec_l10Show.enc) h rfl
          · refine ⟨[[25, 26, 27, 28, 29, 30, 31], [24, 27, 28], [24, 27, 28], [24, 25, 26], [24, 25, 26], [24], [24], [24], [], [], [], []], [], by kernel_rfl, ?_⟩
            refine bindG h fun x8 hx8 h => ?_
            refine anM (at_ix rfl hx8) ?_
            refine exM (impl_Two.e x8) (at_get rfl hx8) ?_
            refine bindG h fun y9 hy10 h => ?_
            refine exM ([(.d (.p (.string y9)))], []) ?_ ?_
            · exact hr_spec_l10Show hy10
            refine ⟨[[36, 37, 38, 39, 40, 41, 42], [35, 38, 39], [35, 38, 39], [35, 36, 37], [35, 36, 37], [35], [35], [35], [], [], [], []], [], by kernel_rfl, ?_⟩
            refine anM (at_ix rfl hx8) ?_
            refine exM (impl_Two.e x8) (at_get rfl hx8) ?_
            refine bindG h fun y11 hy12 h => ?_
            refine exM ([(.d (.p (.string y11)))], []) ?_ ?_
            · exact hr_spec_l10Show hy12
            refine goS ?_
            try ((with_reducible apply cdX); exact rfl)
            refine iteF h (fun c13 h => ?_) (fun c13 h => ?_)
            · refine gdG h fun hc h => ?_
              refine anM hc ?_
              refine gdG h fun hc h => ?_
              refine anM hc ?_
              refine gdG h fun hc h => ?_
              refine anM hc ?_
              refine gdG h fun hc h => ?_
              refine anM hc ?_
              exact retE (enc := spec_l10Show.enc) h rfl
            · refine gdG h fun hc h => ?_
              refine anM hc ?_
              refine gdG h fun hc h => ?_
              refine anM hc ?_
              refine gdG h fun hc h => ?_
              refine anM hc ?_
              refine gdG h fun hc h => ?_
              refine anM hc ?_
              exact retE (enc := spec_l10Show.enc) h rfl
def spec_l10Show.r (K : Nat) : Nat → impl_Heap → impl_Val → Int → Option (ByteArray)
  | 0, _, _, _ => none
  | d + 1, a0, a1, a2 => spec_l10Show.b (spec_l10Show.r K d) K a0 a1 a2
theorem spec_l10Show.r_ev {K : Nat} : ∀ (d : Nat) {a0 : impl_Heap} {a1 : impl_Val} {a2 : Int} {r : ByteArray}, spec_l10Show.r K d a0 a1 a2 = some r → E 32 [(.agg (a0.e.map .d)), (.agg (a1.e.map .d)), (.d (.p (.int .i64 a2)))] = some ([(.d (.p (.string r)))], []) := by
  intro d
  induction d with
  | zero => intro a0 a1 a2 r h; cases h
  | succ d ih => intro a0 a1 a2 r h; exact spec_l10Show.b_ev ih h
def spec_l10Show.f (K : Nat) (a0 : impl_Heap) (a1 : impl_Val) (a2 : Int) : Option (ByteArray) := spec_l10Show.r K K a0 a1 a2
theorem spec_l10Show.ev {K : Nat} {a0 : impl_Heap} {a1 : impl_Val} {a2 : Int} {r : ByteArray} (h : spec_l10Show.f K a0 a1 a2 = some r) : E 32 [(.agg (a0.e.map .d)), (.agg (a1.e.map .d)), (.d (.p (.int .i64 a2)))] = some ([(.d (.p (.string r)))], []) := spec_l10Show.r_ev K h
def spec_Run.enc (r : impl_Result) : Res := ([(.agg (r.e.map .d))], [])
def spec_Run.l0 (a0 : List impl_Node) (a1 : Int) (K : Nat) : Nat → Int → Int → spec_l11State → Option (Int × Int × spec_l11State)
  | 0, _, _, _ => none
  | k + 1, v14, v15, v16 => jn (fun (v20 : Bool) => if v20 = true then (if v16.mode = 0 then ((spec_l11Eval.f K v16 a0).bind fun y26 => (spec_Run.l0 a0 a1 K k (w64 (v14 + 1)) (v16.ev.length : Int) y26)) else (if v16.mode = 1 then ((spec_l11Back.f K v16 a0).bind fun y29 => (spec_Run.l0 a0 a1 K k (w64 (v14 + 1)) (v16.ev.length : Int) y29)) else ((spec_l11Throw.f K v16 a0).bind fun y31 => (spec_Run.l0 a0 a1 K k (w64 (v14 + 1)) (v16.ev.length : Int) y31)))) else (some (v14, v15, v16))) (fun j => if v14 < a1 then (if (!v16.stuck) = true then (if v16.mode = 0 then (j true) else (j (decide ((v16.stack.length : Int) > 0)))) else (j false)) else (j false))
def spec_Run.f  (K : Nat) (a0 : List impl_Node) (a1 : Int) : Option (impl_Result) := jn (fun (v1 : Bool) => if v1 = true then (some (⟨0, (⟨#[]⟩ : ByteArray), 0, 0, ([] : List impl_Event)⟩ : impl_Result)) else (jn (fun (v11, v12, v13) => if v13.stuck = true then (gd (0 ≤ (0 : Int) ∧ (0 : Int) ≤ v12 ∧ v12 ≤ (v13.ev.length : Int)) (gd ((0 + (v13.ev.take (v12).toNat).length) * 24 ≤ 140737488355328) (some (⟨4, (⟨#[]⟩ : ByteArray), 0, v11, (([] : List impl_Event) ++ (v13.ev.take (v12).toNat))⟩ : impl_Result)))) else (jn (fun (v34 : Bool) => if v34 = true then (some (⟨3, (⟨#[]⟩ : ByteArray), 0, v11, v13.ev⟩ : impl_Result)) else (if v13.mode = 1 then ((spec_l10Show.f K v13.h_ v13.val 4).bind fun y38 => (some (⟨1, y38, v13.val.Kind, v11, v13.ev⟩ : impl_Result))) else ((spec_Dec.f K v13.val.N).bind fun y40 => (some (⟨2, y40, 0, v11, v13.ev⟩ : impl_Result))))) (fun j => if v13.mode = 0 then (j true) else (j (decide ((v13.stack.length : Int) > 0)))))) (fun j => (spec_Run.l0 a0 a1 K K 0 0 (⟨0, (w64 ((a0.length : Int) - 1)), (-1), (⟨0, 0⟩ : impl_Val), ([] : List spec_l11Frame), (⟨([] : List impl_EnvCell), ([] : List impl_Clo), ([] : List impl_Two), ([] : List impl_Val)⟩ : impl_Heap), ([] : List impl_Event), false⟩ : spec_l11State)).bind fun (v17, v18, v19) => j (v17, v18, v19)))) (fun j => (spec_NodesOk.f K a0).bind fun y2 => (if (!y2) = true then (j true) else ((spec_Closed.f K a0).bind fun y5 => (if (!y5) = true then (j true) else ((spec_l1In.f K a1 0 3000).bind fun y8 => (j (!y8)))))))
theorem spec_Run.ev   {K : Nat} {a0 : List impl_Node} {a1 : Int} {r : impl_Result} (h : spec_Run.f  K a0 a1 = some r) : E 11 [(.d (.l true 7 (a0.map impl_Node.e))), (.d (.p (.int .i64 a1)))] = some ([(.agg (r.e.map .d))], []) := by
  refine Ev_intro (fn := Tryz.f11) rfl (by kernel_rfl) (c := _) rfl ⟨rfl, by simp⟩ rfl (evP_spec _ ?_)
  unfold spec_Run.f at h
  refine goS ?_
  refine seqJ h 111 (fun x => [(0, (.d (.l true 7 (a0.map impl_Node.e)))), (1, (.d (.p (.int .i64 a1)))), (4, (.ptr 4 0 2 0)), (21, (.d (.p (.bool x))))]) (fun x => [(4, 0, 2, (some (.box [(.d (.p (.int .i64 0))), (.d (.p (.string (⟨#[]⟩ : ByteArray)))), (.d (.p (.int .i64 0))), (.d (.p (.int .i64 0))), (.own 4 1004 2)]))), (4, 1004, 2, (some (.row true true 3 (([] : List impl_Event).map impl_Event.e))))]) (fun J h => ?_) ?_
  · refine bindG h fun y2 hy3 h => ?_
    refine exM ([(.d (.p (.bool y2)))], []) ?_ ?_
    · exact spec_NodesOk.ev hy3
    refine ifB h (fun c4 h => ?_) (fun c4 h => ?_)
    · refine Ask.T rfl ?_
      refine Ask.T rfl ?_
      refine Ask.T rfl ?_
      refine Ask.T rfl ?_
      refine Ask.T rfl ?_
      refine Ask.T rfl ?_
      refine Ask.T rfl ?_
      exact ⟨true, h, ⟨rfl, ⟨rfl, rfl, rfl, rfl, trivial⟩, ⟨rfl, rfl, trivial⟩⟩⟩
    · refine Ask.F rfl ?_
      refine bindG h fun y5 hy6 h => ?_
      refine exM ([(.d (.p (.bool y5)))], []) ?_ ?_
      · exact spec_Closed.ev hy6
      refine Ask.F rfl ?_
      refine Ask.F rfl ?_
      refine ifB h (fun c7 h => ?_) (fun c7 h => ?_)
      · refine Ask.T rfl ?_
        refine Ask.T rfl ?_
        refine Ask.T rfl ?_
        exact ⟨true, h, ⟨rfl, ⟨rfl, rfl, rfl, rfl, trivial⟩, ⟨rfl, rfl, trivial⟩⟩⟩
      · refine Ask.F rfl ?_
        refine bindG h fun y8 hy9 h => ?_
        refine exM ([(.d (.p (.bool y8)))], []) ?_ ?_
        · exact spec_l1In.ev hy9
        refine Ask.F rfl ?_
        refine Ask.F rfl ?_
        exact ⟨(!y8), h, ⟨rfl, ⟨rfl, rfl, rfl, rfl, trivial⟩, ⟨rfl, rfl, trivial⟩⟩⟩
  · rintro v1 h e hp
    try ((with_reducible apply cdX); exact rfl)
    refine ifB h (fun c10 h => ?_) (fun c10 h => ?_)
    · refine goS ?_
      exact retE (enc := spec_Run.enc) h rfl
    · refine goS ?_
      refine eqM ((a0.length : Int) : Int) (mLen rfl) ?_
      refine seqJ h 111 (fun x => [(4, (.ptr 4 0 2 0)), (5, (.ptr 5 0 2 0)), (6, (.d (.p (.int .i64 x.1)))), (7, (.d (.p (.int .i64 x.2.1))))]) (fun x => [(4, 0, 2, (some (.box [(.d (.p (.int .i64 0))), (.d (.p (.string (⟨#[]⟩ : ByteArray)))), (.d (.p (.int .i64 0))), (.d (.p (.int .i64 0))), (.own 4 1004 2)]))), (4, 1004, 2, (some (.row true true 3 (([] : List impl_Event).map impl_Event.e)))), (5, 0, 2, (some (.box [(.d (.p (.int .i64 x.2.2.mode))), (.d (.p (.int .i64 x.2.2.node))), (.d (.p (.int .i64 x.2.2.env))), (.d (.p (.int .i64 x.2.2.val.Kind))), (.d (.p (.int .i64 x.2.2.val.N))), (.own 5 1005 2), (.own 5 1006 2), (.own 5 1007 2), (.own 5 1008 2), (.own 5 1009 2), (.own 5 1010 2), (.d (.p (.bool x.2.2.stuck)))]))), (5, 1005, 2, (some (.row true true 5 (x.2.2.stack.map spec_l11Frame.e)))), (5, 1006, 2, (some (.row true true 5 (x.2.2.h_.Envs.map impl_EnvCell.e)))), (5, 1007, 2, (some (.row true true 2 (x.2.2.h_.Clos.map impl_Clo.e)))), (5, 1008, 2, (some (.row true true 4 (x.2.2.h_.Twos.map impl_Two.e)))), (5, 1009, 2, (some (.row true true 2 (x.2.2.h_.Refs.map impl_Val.e)))), (5, 1010, 2, (some (.row true true 3 (x.2.2.ev.map impl_Event.e))))]) (fun J h => ?_) ?_
      · refine loopX (α := Int × Int × spec_l11State) (a := (0, 0, (⟨0, (w64 ((a0.length : Int) - 1)), (-1), (⟨0, 0⟩ : impl_Val), ([] : List spec_l11Frame), (⟨([] : List impl_EnvCell), ([] : List impl_Clo), ([] : List impl_Two), ([] : List impl_Val)⟩ : impl_Heap), ([] : List impl_Event), false⟩ : spec_l11State))) 111 (fun x => [(0, (.d (.l true 7 (a0.map impl_Node.e)))), (1, (.d (.p (.int .i64 a1)))), (4, (.ptr 4 0 2 0)), (5, (.ptr 5 0 2 0)), (6, (.d (.p (.int .i64 x.1)))), (7, (.d (.p (.int .i64 x.2.1))))]) (fun x => [(4, 0, 2, (some (.box [(.d (.p (.int .i64 0))), (.d (.p (.string (⟨#[]⟩ : ByteArray)))), (.d (.p (.int .i64 0))), (.d (.p (.int .i64 0))), (.own 4 1004 2)]))), (4, 1004, 2, (some (.row true true 3 (([] : List impl_Event).map impl_Event.e)))), (5, 0, 2, (some (.box [(.d (.p (.int .i64 x.2.2.mode))), (.d (.p (.int .i64 x.2.2.node))), (.d (.p (.int .i64 x.2.2.env))), (.d (.p (.int .i64 x.2.2.val.Kind))), (.d (.p (.int .i64 x.2.2.val.N))), (.own 5 1005 2), (.own 5 1006 2), (.own 5 1007 2), (.own 5 1008 2), (.own 5 1009 2), (.own 5 1010 2), (.d (.p (.bool x.2.2.stuck)))]))), (5, 1005, 2, (some (.row true true 5 (x.2.2.stack.map spec_l11Frame.e)))), (5, 1006, 2, (some (.row true true 5 (x.2.2.h_.Envs.map impl_EnvCell.e)))), (5, 1007, 2, (some (.row true true 2 (x.2.2.h_.Clos.map impl_Clo.e)))), (5, 1008, 2, (some (.row true true 4 (x.2.2.h_.Twos.map impl_Two.e)))), (5, 1009, 2, (some (.row true true 2 (x.2.2.h_.Refs.map impl_Val.e)))), (5, 1010, 2, (some (.row true true 3 (x.2.2.ev.map impl_Event.e))))]) (fun k x => spec_Run.l0 a0 a1 K k x.1 x.2.1 x.2.2) 0 (fun x => [(4, (.ptr 4 0 2 0)), (5, (.ptr 5 0 2 0)), (6, (.d (.p (.int .i64 x.1)))), (7, (.d (.p (.int .i64 x.2.1))))]) (fun x => [(4, 0, 2, (some (.box [(.d (.p (.int .i64 0))), (.d (.p (.string (⟨#[]⟩ : ByteArray)))), (.d (.p (.int .i64 0))), (.d (.p (.int .i64 0))), (.own 4 1004 2)]))), (4, 1004, 2, (some (.row true true 3 (([] : List impl_Event).map impl_Event.e)))), (5, 0, 2, (some (.box [(.d (.p (.int .i64 x.2.2.mode))), (.d (.p (.int .i64 x.2.2.node))), (.d (.p (.int .i64 x.2.2.env))), (.d (.p (.int .i64 x.2.2.val.Kind))), (.d (.p (.int .i64 x.2.2.val.N))), (.own 5 1005 2), (.own 5 1006 2), (.own 5 1007 2), (.own 5 1008 2), (.own 5 1009 2), (.own 5 1010 2), (.d (.p (.bool x.2.2.stuck)))]))), (5, 1005, 2, (some (.row true true 5 (x.2.2.stack.map spec_l11Frame.e)))), (5, 1006, 2, (some (.row true true 5 (x.2.2.h_.Envs.map impl_EnvCell.e)))), (5, 1007, 2, (some (.row true true 2 (x.2.2.h_.Clos.map impl_Clo.e)))), (5, 1008, 2, (some (.row true true 4 (x.2.2.h_.Twos.map impl_Two.e)))), (5, 1009, 2, (some (.row true true 2 (x.2.2.h_.Refs.map impl_Val.e)))), (5, 1010, 2, (some (.row true true 3 (x.2.2.ev.map impl_Event.e))))]) h (fun _ => rfl) ?_ ⟨rfl, ⟨rfl, rfl, rfl, rfl, rfl, rfl, trivial⟩, ⟨rfl, rfl, rfl, rfl, rfl, rfl, rfl, rfl, rfl, trivial⟩⟩ ?_
        · rintro k ⟨v14, v15, v16⟩ r h e hp
          replace h : spec_Run.l0 a0 a1 K (k + 1) v14 v15 v16 = some r := h
          unfold spec_Run.l0 at h
          refine goS ?_
          refine seqJ h 111 (fun x => [(0, (.d (.l true 7 (a0.map impl_Node.e)))), (1, (.d (.p (.int .i64 a1)))), (4, (.ptr 4 0 2 0)), (5, (.ptr 5 0 2 0)), (6, (.d (.p (.int .i64 v14)))), (7, (.d (.p (.int .i64 v15)))), (45, (.d (.p (.bool x))))]) (fun x => [(4, 0, 2, (some (.box [(.d (.p (.int .i64 0))), (.d (.p (.string (⟨#[]⟩ : ByteArray)))), (.d (.p (.int .i64 0))), (.d (.p (.int .i64 0))), (.own 4 1004 2)]))), (4, 1004, 2, (some (.row true true 3 (([] : List impl_Event).map impl_Event.e)))), (5, 0, 2, (some (.box [(.d (.p (.int .i64 v16.mode))), (.d (.p (.int .i64 v16.node))), (.d (.p (.int .i64 v16.env))), (.d (.p (.int .i64 v16.val.Kind))), (.d (.p (.int .i64 v16.val.N))), (.own 5 1005 2), (.own 5 1006 2), (.own 5 1007 2), (.own 5 1008 2), (.own 5 1009 2), (.own 5 1010 2), (.d (.p (.bool v16.stuck)))]))), (5, 1005, 2, (some (.row true true 5 (v16.stack.map spec_l11Frame.e)))), (5, 1006, 2, (some (.row true true 5 (v16.h_.Envs.map impl_EnvCell.e)))), (5, 1007, 2, (some (.row true true 2 (v16.h_.Clos.map impl_Clo.e)))), (5, 1008, 2, (some (.row true true 4 (v16.h_.Twos.map impl_Two.e)))), (5, 1009, 2, (some (.row true true 2 (v16.h_.Refs.map impl_Val.e)))), (5, 1010, 2, (some (.row true true 3 (v16.ev.map impl_Event.e))))]) (fun J h => ?_) ?_
          · try ((with_reducible apply cdX); exact rfl)
            refine iteF h (fun c21 h => ?_) (fun c21 h => ?_)
            · refine Ask.T rfl ?_
              refine Ask.T rfl ?_
              refine Ask.T rfl ?_
              refine ifB h (fun c22 h => ?_) (fun c22 h => ?_)
              · refine Ask.T rfl ?_
                refine Ask.T rfl ?_
                refine Ask.T rfl ?_
                refine iteF h (fun c23 h => ?_) (fun c23 h => ?_)
                · refine Ask.T rfl ?_
                  refine Ask.T rfl ?_
                  refine Ask.T rfl ?_
                  refine Ask.T rfl ?_
                  refine Ask.T rfl ?_
                  refine Ask.T rfl ?_
                  exact ⟨true, h, ⟨rfl, ⟨rfl, rfl, rfl, rfl, rfl, rfl, rfl, trivial⟩, ⟨rfl, rfl, rfl, rfl, rfl, rfl, rfl, rfl, rfl, trivial⟩⟩⟩
                · refine Ask.F rfl ?_
                  refine Ask.F rfl ?_
                  refine eqM ((v16.stack.length : Int) : Int) (mLen rfl) ?_
                  refine Ask.F rfl ?_
                  refine Ask.T rfl ?_
                  refine Ask.F rfl ?_
                  refine Ask.T rfl ?_
                  exact ⟨(decide ((v16.stack.length : Int) > 0)), h, ⟨rfl, ⟨rfl, rfl, rfl, rfl, rfl, rfl, rfl, trivial⟩, ⟨rfl, rfl, rfl, rfl, rfl, rfl, rfl, rfl, rfl, trivial⟩⟩⟩
              · refine Ask.F rfl ?_
                refine Ask.F rfl ?_
                refine Ask.F rfl ?_
                refine Ask.F rfl ?_
                refine Ask.F rfl ?_
                exact ⟨false, h, ⟨rfl, ⟨rfl, rfl, rfl, rfl, rfl, rfl, rfl, trivial⟩, ⟨rfl, rfl, rfl, rfl, rfl, rfl, rfl, rfl, rfl, trivial⟩⟩⟩
            · refine Ask.F rfl ?_
              refine Ask.F rfl ?_
              refine Ask.F rfl ?_
              refine Ask.F rfl ?_
              refine Ask.F rfl ?_
              refine Ask.F rfl ?_
              refine Ask.F rfl ?_
              refine Ask.F rfl ?_
              refine Ask.F rfl ?_
              exact ⟨false, h, ⟨rfl, ⟨rfl, rfl, rfl, rfl, rfl, rfl, rfl, trivial⟩, ⟨rfl, rfl, rfl, rfl, rfl, rfl, rfl, rfl, rfl, trivial⟩⟩⟩
          · rintro v20 h e hp
            try ((with_reducible apply cdX); exact rfl)
            refine ifB h (fun c24 h => ?_) (fun c24 h => ?_)
            · refine eqM ((v16.ev.length : Int) : Int) (mLen rfl) ?_
              refine iteF h (fun c25 h => ?_) (fun c25 h => ?_)
              · refine bindG h fun y26 hy27 h => ?_
                refine exM ([], [(.ptr y26.q)]) ?_ ?_
                · exact spec_l11Eval.ev hy27
                exact ⟨((w64 (v14 + 1)), (v16.ev.length : Int), y26), h, ⟨rfl, ⟨rfl, rfl, rfl, rfl, rfl, rfl, trivial⟩, ⟨rfl, rfl, rfl, rfl, rfl, rfl, rfl, rfl, rfl, trivial⟩⟩⟩
              · try ((with_reducible apply cdX); exact rfl)
                refine iteF h (fun c28 h => ?_) (fun c28 h => ?_)
                · refine bindG h fun y29 hy30 h => ?_
                  refine exM ([], [(.ptr y29.q)]) ?_ ?_
                  · exact spec_l11Back.ev hy30
                  exact ⟨((w64 (v14 + 1)), (v16.ev.length : Int), y29), h, ⟨rfl, ⟨rfl, rfl, rfl, rfl, rfl, rfl, trivial⟩, ⟨rfl, rfl, rfl, rfl, rfl, rfl, rfl, rfl, rfl, trivial⟩⟩⟩
                · refine bindG h fun y31 hy32 h => ?_
                  refine exM ([], [(.ptr y31.q)]) ?_ ?_
                  · exact spec_l11Throw.ev hy32
                  exact ⟨((w64 (v14 + 1)), (v16.ev.length : Int), y31), h, ⟨rfl, ⟨rfl, rfl, rfl, rfl, rfl, rfl, trivial⟩, ⟨rfl, rfl, rfl, rfl, rfl, rfl, rfl, rfl, rfl, trivial⟩⟩⟩
            · refine exQ h ?_
              exact ⟨rfl, ⟨rfl, rfl, rfl, rfl, trivial⟩, ⟨rfl, rfl, rfl, rfl, rfl, rfl, rfl, rfl, rfl, trivial⟩⟩
        · rintro ⟨v17, v18, v19⟩ S' h ⟨qn, ⟨qa0, qa1, qa2, qa3, _⟩, ⟨qb0, qb1, qb2, qb3, qb4, qb5, qb6, qb7, qb8, _⟩⟩
          exact ⟨(v17, v18, v19), h, ⟨qn, ⟨qa0, qa1, qa2, qa3, trivial⟩, ⟨qb0, qb1, qb2, qb3, qb4, qb5, qb6, qb7, qb8, trivial⟩⟩⟩
      · rintro ⟨v11, v12, v13⟩ h e hp
        refine goS ?_
        refine goS ?_
        try ((with_reducible apply cdX); exact rfl)
        refine ifB h (fun c33 h => ?_) (fun c33 h => ?_)
        · refine goS ?_
          refine eqM (([] : List impl_Event).map impl_Event.e) rfl ?_
          refine gdG h fun hc h => ?_
          refine anM (slB hc) ?_
          refine eqM ((v13.ev.take (v12).toNat).map impl_Event.e) (mTake rfl) ?_
          refine gdG h fun hc h => ?_
          refine anM (apB hc) ?_
          refine eqM ((([] : List impl_Event) ++ (v13.ev.take (v12).toNat)).map impl_Event.e) (mApp rfl rfl) ?_
          refine goS ?_
          exact retE (enc := spec_Run.enc) h rfl
        · refine seqJ h 111 (fun x => [(4, (.ptr 4 0 2 0)), (5, (.ptr 5 0 2 0)), (8, (.ptr 8 0 2 0)), (84, (.d (.p (.bool x))))]) (fun x => [(4, 0, 2, (some (.box [(.d (.p (.int .i64 0))), (.d (.p (.string (⟨#[]⟩ : ByteArray)))), (.d (.p (.int .i64 0))), (.d (.p (.int .i64 0))), (.own 4 1004 2)]))), (4, 1004, 2, (some (.row true true 3 (([] : List impl_Event).map impl_Event.e)))), (5, 0, 2, (some (.box [(.d (.p (.int .i64 v13.mode))), (.d (.p (.int .i64 v13.node))), (.d (.p (.int .i64 v13.env))), (.d (.p (.int .i64 v13.val.Kind))), (.d (.p (.int .i64 v13.val.N))), (.own 5 1005 2), (.own 5 1006 2), (.own 5 1007 2), (.own 5 1008 2), (.own 5 1009 2), (.own 5 1010 2), (.d (.p (.bool v13.stuck)))]))), (5, 1005, 2, (some (.row true true 5 (v13.stack.map spec_l11Frame.e)))), (5, 1006, 2, (some (.row true true 5 (v13.h_.Envs.map impl_EnvCell.e)))), (5, 1007, 2, (some (.row true true 2 (v13.h_.Clos.map impl_Clo.e)))), (5, 1008, 2, (some (.row true true 4 (v13.h_.Twos.map impl_Two.e)))), (5, 1009, 2, (some (.row true true 2 (v13.h_.Refs.map impl_Val.e)))), (5, 1010, 2, (some (.row true true 3 (v13.ev.map impl_Event.e)))), (8, 0, 2, (some (.box [(.d (.p (.int .i64 3))), (.d (.p (.string (⟨#[]⟩ : ByteArray)))), (.d (.p (.int .i64 0))), (.d (.p (.int .i64 v11))), (.own 5 1010 2)])))]) (fun J h => ?_) ?_
          · try ((with_reducible apply cdX); exact rfl)
            refine iteF h (fun c35 h => ?_) (fun c35 h => ?_)
            · refine Ask.T rfl ?_
              refine Ask.T rfl ?_
              refine Ask.T rfl ?_
              refine Ask.T rfl ?_
              exact ⟨true, h, ⟨rfl, ⟨rfl, rfl, rfl, rfl, trivial⟩, ⟨rfl, rfl, rfl, rfl, rfl, rfl, rfl, rfl, rfl, rfl, trivial⟩⟩⟩
            · refine Ask.F rfl ?_
              refine Ask.F rfl ?_
              refine eqM ((v13.stack.length : Int) : Int) (mLen rfl) ?_
              refine Ask.F rfl ?_
              refine Ask.F rfl ?_
              exact ⟨(decide ((v13.stack.length : Int) > 0)), h, ⟨rfl, ⟨rfl, rfl, rfl, rfl, trivial⟩, ⟨rfl, rfl, rfl, rfl, rfl, rfl, rfl, rfl, rfl, rfl, trivial⟩⟩⟩
          · rintro v34 h e hp
            try ((with_reducible apply cdX); exact rfl)
            refine ifB h (fun c36 h => ?_) (fun c36 h => ?_)
            · refine goS ?_
              exact retE (enc := spec_Run.enc) h rfl
            · try ((with_reducible apply cdX); exact rfl)
              refine iteF h (fun c37 h => ?_) (fun c37 h => ?_)
              · refine goS ?_
                refine goS ?_
                refine bindG h fun y38 hy39 h => ?_
                refine exM ([(.d (.p (.string y38)))], []) ?_ ?_
                · exact spec_l10Show.ev hy39
                refine goS ?_
                exact retE (enc := spec_Run.enc) h rfl
              · refine goS ?_
                refine bindG h fun y40 hy41 h => ?_
                refine exM ([(.d (.p (.string y40)))], []) ?_ ?_
                · exact spec_Dec.ev hy41
                refine goS ?_
                exact retE (enc := spec_Run.enc) h rfl
def spec_CodeWord.enc (r : ByteArray) : Res := ([(.d (.p (.string r)))], [])
def spec_CodeWord.f  (K : Nat) (a0 : Int) : Option (ByteArray) := (spec_l1In.f K a0 0 4).bind fun y1 => (if (!y1) = true then (some (⟨#[]⟩ : ByteArray)) else ((at_ ([(⟨#[98, 97, 100]⟩ : ByteArray), (⟨#[118, 97, 108, 117, 101]⟩ : ByteArray), (⟨#[114, 97, 105, 115, 101, 100]⟩ : ByteArray), (⟨#[102, 117, 101, 108]⟩ : ByteArray), (⟨#[115, 116, 117, 99, 107]⟩ : ByteArray)] : List ByteArray) a0).bind fun x4 => (some x4)))
theorem spec_CodeWord.ev   {K : Nat} {a0 : Int} {r : ByteArray} (h : spec_CodeWord.f  K a0 = some r) : E 23 [(.d (.p (.int .i64 a0)))] = some ([(.d (.p (.string r)))], []) := by
  refine Ev_intro (fn := Tryz.f23) rfl (by kernel_rfl) (c := _) rfl ⟨rfl, by simp⟩ rfl (evP_spec _ ?_)
  unfold spec_CodeWord.f at h
  refine goS ?_
  refine bindG h fun y1 hy2 h => ?_
  refine exM ([(.d (.p (.bool y1)))], []) ?_ ?_
  · exact spec_l1In.ev hy2
  refine ifB h (fun c3 h => ?_) (fun c3 h => ?_)
  · exact retE (enc := spec_CodeWord.enc) h rfl
  · refine eqM (([(⟨#[98, 97, 100]⟩ : ByteArray), (⟨#[118, 97, 108, 117, 101]⟩ : ByteArray), (⟨#[114, 97, 105, 115, 101, 100]⟩ : ByteArray), (⟨#[102, 117, 101, 108]⟩ : ByteArray), (⟨#[115, 116, 117, 99, 107]⟩ : ByteArray)] : List ByteArray).map eS) rfl ?_
    refine bindG h fun x4 hx4 h => ?_
    refine anM (at_ix rfl hx4) ?_
    refine exM (eS x4) (at_get rfl hx4) ?_
    exact retE (enc := spec_CodeWord.enc) h rfl
def spec_Outcome.enc (r : ByteArray) : Res := ([(.d (.p (.string r)))], [])
def spec_Outcome.f  (K : Nat) (a0 : List impl_Node) (a1 : Int) : Option (ByteArray) := (spec_Run.f K a0 a1).bind fun y1 => (if (y1.Text.toList == (⟨#[]⟩ : ByteArray).toList) = true then ((spec_CodeWord.f K y1.Kind).bind fun y4 => (some y4)) else ((spec_CodeWord.f K y1.Kind).bind fun y6 => (gd (y6.size + (⟨#[32]⟩ : ByteArray).size ≤ 9223372036854775807) (gd ((y6 ++ (⟨#[32]⟩ : ByteArray)).size + y1.Text.size ≤ 9223372036854775807) (some ((y6 ++ (⟨#[32]⟩ : ByteArray)) ++ y1.Text))))))
theorem spec_Outcome.ev   {K : Nat} {a0 : List impl_Node} {a1 : Int} {r : ByteArray} (h : spec_Outcome.f  K a0 a1 = some r) : E 7 [(.d (.l true 7 (a0.map impl_Node.e))), (.d (.p (.int .i64 a1)))] = some ([(.d (.p (.string r)))], []) := by
  refine Ev_intro (fn := Tryz.f7) rfl (by kernel_rfl) (c := _) rfl ⟨rfl, by simp⟩ rfl (evP_spec _ ?_)
  unfold spec_Outcome.f at h
  refine goS ?_
  refine bindG h fun y1 hy2 h => ?_
  refine exM ([(.agg (y1.e.map .d))], []) ?_ ?_
  · exact spec_Run.ev hy2
  refine goS ?_
  try ((with_reducible apply cdX); exact rfl)
  refine ifB h (fun c3 h => ?_) (fun c3 h => ?_)
  · refine bindG h fun y4 hy5 h => ?_
    refine exM ([(.d (.p (.string y4)))], []) ?_ ?_
    · exact spec_CodeWord.ev hy5
    exact retE (enc := spec_Outcome.enc) h rfl
  · refine ⟨[[19, 20], [19, 20], [19, 20], [], [15, 16, 17], [15, 16, 17], [], []], [], by kernel_rfl, ?_⟩
    refine bindG h fun y6 hy7 h => ?_
    refine exM ([(.d (.p (.string y6)))], []) ?_ ?_
    · exact spec_CodeWord.ev hy7
    refine gdG h fun hc h => ?_
    refine anM hc ?_
    refine gdG h fun hc h => ?_
    refine anM hc ?_
    exact retE (enc := spec_Outcome.enc) h rfl
def impl_in.enc (r : Bool) : Res := ([(.d (.p (.bool r)))], [])
def impl_in.f  (K : Nat) (a0 : Int) (a1 : Int) (a2 : Int) : Option (Bool) := if a0 ≥ a1 then (some (decide (a0 ≤ a2))) else (some false)
theorem impl_in.ev   {K : Nat} {a0 : Int} {a1 : Int} {a2 : Int} {r : Bool} (h : impl_in.f  K a0 a1 a2 = some r) : E 35 [(.d (.p (.int .i64 a0))), (.d (.p (.int .i64 a1))), (.d (.p (.int .i64 a2)))] = some ([(.d (.p (.bool r)))], []) := by
  refine Ev_intro (fn := Tryz.f35) rfl (by kernel_rfl) (c := _) rfl ⟨rfl, by simp⟩ rfl (evP_spec _ ?_)
  unfold impl_in.f at h
  refine goS ?_
  try ((with_reducible apply cdX); exact rfl)
  refine iteF h (fun c1 h => ?_) (fun c1 h => ?_)
  · refine Ask.T rfl ?_
    refine Ask.T rfl ?_
    refine Ask.T rfl ?_
    exact retE (enc := impl_in.enc) h rfl
  · refine Ask.F rfl ?_
    refine Ask.F rfl ?_
    refine Ask.F rfl ?_
    exact retE (enc := impl_in.enc) h rfl
def impl_namesOf.enc (r : Int) : Res := ([(.d (.p (.int .i64 r)))], [])
def impl_namesOf.f  (K : Nat) (a0 : Int) : Option (Int) := jn (fun (v1 : Bool) => if v1 = true then (some 1) else (jn (fun (v6 : Bool) => if v6 = true then (some 2) else (some 0)) (fun j => if a0 = 6 then (j true) else (j (decide (a0 = 14)))))) (fun j => if a0 = 1 then (j true) else (if a0 = 3 then (j true) else (if a0 = 5 then (j true) else (j (decide (a0 = 19))))))
theorem impl_namesOf.ev   {K : Nat} {a0 : Int} {r : Int} (h : impl_namesOf.f  K a0 = some r) : E 117 [(.d (.p (.int .i64 a0)))] = some ([(.d (.p (.int .i64 r)))], []) := by
  refine Ev_intro (fn := Tryz.f117) rfl (by kernel_rfl) (c := _) rfl ⟨rfl, by simp⟩ rfl (evP_spec _ ?_)
  unfold impl_namesOf.f at h
  refine goS ?_
  refine seqJ h 12 (fun x => [(3, (.d (.p (.int .i64 a0)))), (4, (.d (.p (.bool x))))]) (fun x => []) (fun J h => ?_) ?_
  · try ((with_reducible apply cdX); exact rfl)
    refine iteF h (fun c2 h => ?_) (fun c2 h => ?_)
    · exact ⟨true, h, ⟨rfl, ⟨rfl, rfl, trivial⟩, trivial⟩⟩
    · try ((with_reducible apply cdX); exact rfl)
      refine iteF h (fun c3 h => ?_) (fun c3 h => ?_)
      · exact ⟨true, h, ⟨rfl, ⟨rfl, rfl, trivial⟩, trivial⟩⟩
      · try ((with_reducible apply cdX); exact rfl)
        refine iteF h (fun c4 h => ?_) (fun c4 h => ?_)
        · exact ⟨true, h, ⟨rfl, ⟨rfl, rfl, trivial⟩, trivial⟩⟩
        · exact ⟨(decide (a0 = 19)), h, ⟨rfl, ⟨rfl, rfl, trivial⟩, trivial⟩⟩
  · rintro v1 h e hp
    try ((with_reducible apply cdX); exact rfl)
    refine ifB h (fun c5 h => ?_) (fun c5 h => ?_)
    · exact retE (enc := impl_namesOf.enc) h rfl
    · refine seqJ h 12 (fun x => [(9, (.d (.p (.bool x))))]) (fun x => []) (fun J h => ?_) ?_
      · try ((with_reducible apply cdX); exact rfl)
        refine iteF h (fun c7 h => ?_) (fun c7 h => ?_)
        · exact ⟨true, h, ⟨rfl, ⟨rfl, trivial⟩, trivial⟩⟩
        · exact ⟨(decide (a0 = 14)), h, ⟨rfl, ⟨rfl, trivial⟩, trivial⟩⟩
      · rintro v6 h e hp
        try ((with_reducible apply cdX); exact rfl)
        refine ifB h (fun c8 h => ?_) (fun c8 h => ?_)
        · exact retE (enc := impl_namesOf.enc) h rfl
        · exact retE (enc := impl_namesOf.enc) h rfl
def impl_IsWord.enc (r : Bool) : Res := ([(.d (.p (.bool r)))], [])
def impl_IsWord.en (a0 : ByteArray) (r : Bool) (S : St) : Prop := endV tb md 151 Tryz.f151 [(.d (.p (.string a0)))] .ret S = some (impl_IsWord.enc r)
def impl_IsWord.l0 (a0 : ByteArray) (K : Nat) : Nat → Int → Option (Bool ⊕ Unit)
  | 0, _ => none
  | k + 1, v1 => if v1 < (a0.size : Int) then (jn (fun (v3 : Bool) => if v3 = true then (some (.inl false)) else (impl_IsWord.l0 a0 K k (w64 (v1 + 1)))) (fun j => (atS a0 v1).bind fun x4 => (if (x4.toNat : Int) < 97 then (j true) else ((atS a0 v1).bind fun x6 => (j (decide ((x6.toNat : Int) > 122))))))) else (some (.inr ()))
def impl_IsWord.f  (K : Nat) (a0 : ByteArray) : Option (Bool) := jn (fun (_ : Unit) => (impl_in.f K (a0.size : Int) 1 8).bind fun y8 => (some y8)) (fun j => lb (impl_IsWord.l0 a0 K K 0) (fun r => some r) (fun (_ : Unit) => j ()))
theorem impl_IsWord.ev   {K : Nat} {a0 : ByteArray} {r : Bool} (h : impl_IsWord.f  K a0 = some r) : E 151 [(.d (.p (.string a0)))] = some ([(.d (.p (.bool r)))], []) := by
  refine Ev_intro (fn := Tryz.f151) rfl (by kernel_rfl) (c := _) rfl ⟨rfl, by simp⟩ rfl (evP_spec _ ?_)
  unfold impl_IsWord.f at h
  refine seqJ h 23 (fun x => [(0, (.d (.p (.string a0))))]) (fun x => []) (fun J h => ?_) ?_
  · refine loopB (α := Int) (a := 0) 23 (fun x => [(0, (.d (.p (.string a0)))), (3, (.d (.p (.int .i64 x))))]) (fun x => []) (fun k x => impl_IsWord.l0 a0 K k x) (impl_IsWord.en a0) 0 (fun x => [(0, (.d (.p (.string a0))))]) (fun x => []) h (fun _ => rfl) ?_ ⟨rfl, ⟨rfl, rfl, trivial⟩, trivial⟩ ?_ ?_
    · rintro k v1 r h e hp
      replace h : impl_IsWord.l0 a0 K (k + 1) v1 = some r := h
      unfold impl_IsWord.l0 at h
      refine goS ?_
      try ((with_reducible apply cdX); exact rfl)
      refine iteF h (fun c2 h => ?_) (fun c2 h => ?_)
      · refine goS ?_
        refine seqJ h 23 (fun x => [(0, (.d (.p (.string a0)))), (3, (.d (.p (.int .i64 v1)))), (19, (.d (.p (.bool x))))]) (fun x => []) (fun J h => ?_) ?_
        · refine bindG h fun x4 hx4 h => ?_
          refine exM x4 hx4 ?_
          refine iteF h (fun c5 h => ?_) (fun c5 h => ?_)
          · refine Ask.T rfl ?_
            refine Ask.T rfl ?_
            refine Ask.T rfl ?_
            refine Ask.T rfl ?_
            exact ⟨true, h, ⟨rfl, ⟨rfl, rfl, rfl, trivial⟩, trivial⟩⟩
          · refine Ask.F rfl ?_
            refine Ask.F rfl ?_
            refine bindG h fun x6 hx6 h => ?_
            refine exM x6 hx6 ?_
            refine Ask.F rfl ?_
            refine Ask.F rfl ?_
            exact ⟨(decide ((x6.toNat : Int) > 122)), h, ⟨rfl, ⟨rfl, rfl, rfl, trivial⟩, trivial⟩⟩
        · rintro v3 h e hp
          try ((with_reducible apply cdX); exact rfl)
          refine ifB h (fun c7 h => ?_) (fun c7 h => ?_)
          · exact lqL h rfl
          · exact ⟨(w64 (v1 + 1)), h, ⟨rfl, ⟨rfl, rfl, trivial⟩, trivial⟩⟩
      · refine lqR h ?_
        exact ⟨rfl, ⟨rfl, trivial⟩, trivial⟩
    · intro r' S' h q
      exact retE (enc := impl_IsWord.enc) h q
    · rintro _ S' h ⟨qn, ⟨qa0, _⟩, ⟨_⟩⟩
      exact ⟨(), h, ⟨qn, ⟨qa0, trivial⟩, trivial⟩⟩
  · rintro _ h e hp
    refine bindG h fun y8 hy9 h => ?_
    refine exM ([(.d (.p (.bool y8)))], []) ?_ ?_
    · exact impl_in.ev hy9
    exact retE (enc := impl_IsWord.enc) h rfl
def impl_IsKey.enc (r : Bool) : Res := ([(.d (.p (.bool r)))], [])
def impl_IsKey.en (a0 : ByteArray) (r : Bool) (S : St) : Prop := endV tb md 152 Tryz.f152 [(.d (.p (.string a0)))] .ret S = some (impl_IsKey.enc r)
def impl_IsKey.l0 (a0 : ByteArray) (y1 : List ByteArray) (K : Nat) : Nat → Int → Option (Bool ⊕ Unit)
  | 0, _ => none
  | k + 1, v3 => if v3 < (y1.length : Int) then ((at_ y1 v3).bind fun x5 => (if (x5.toList == a0.toList) = true then (some (.inl true)) else (impl_IsKey.l0 a0 y1 K k (w64 (v3 + 1))))) else (some (.inr ()))
def impl_IsKey.f  (K : Nat) (a0 : ByteArray) : Option (Bool) := jn (fun (_ : Unit) => some false) (fun j => (strings_Split.f (⟨#[102, 117, 110, 32, 97, 112, 112, 32, 108, 101, 116, 32, 114, 101, 99, 32, 105, 102, 32, 97, 100, 100, 32, 115, 117, 98, 32, 108, 101, 115, 115, 32, 115, 97, 109, 101, 32, 112, 97, 105, 114, 32, 102, 115, 116, 32, 115, 110, 100, 32, 110, 105, 108, 32, 99, 111, 110, 115, 32, 109, 97, 116, 99, 104, 32, 114, 101, 102, 32, 103, 101, 116, 32, 115, 101, 116, 32, 114, 97, 105, 115, 101, 32, 116, 114, 121]⟩ : ByteArray) (⟨#[32]⟩ : ByteArray)).bind fun y1 => (lb (impl_IsKey.l0 a0 y1 K K 0) (fun r => some r) (fun (_ : Unit) => j ())))
theorem impl_IsKey.ev   {K : Nat} {a0 : ByteArray} {r : Bool} (h : impl_IsKey.f  K a0 = some r) : E 152 [(.d (.p (.string a0)))] = some ([(.d (.p (.bool r)))], []) := by
  refine Ev_intro (fn := Tryz.f152) rfl (by kernel_rfl) (c := _) rfl ⟨rfl, by simp⟩ rfl (evP_spec _ ?_)
  unfold impl_IsKey.f at h
  refine seqJ h 15 (fun x => []) (fun x => []) (fun J h => ?_) ?_
  · refine bindG h fun y1 hy2 h => ?_
    refine exM ([(.own true 1 (y1.map eS))], []) ?_ ?_
    · exact strings_Split.ev hy2
    refine eqM ((y1.length : Int) : Int) (mLen rfl) ?_
    refine loopB (α := Int) (a := 0) 15 (fun x => [(0, (.d (.p (.string a0)))), (5, (.own 5 0 2)), (6, (.d (.p (.int .i64 (y1.length : Int))))), (7, (.d (.p (.int .i64 x))))]) (fun x => [(5, 0, 2, (some (.row true true 1 (y1.map eS))))]) (fun k x => impl_IsKey.l0 a0 y1 K k x) (impl_IsKey.en a0) 0 (fun x => []) (fun x => []) h (fun _ => rfl) ?_ ⟨rfl, ⟨rfl, rfl, rfl, rfl, trivial⟩, ⟨rfl, trivial⟩⟩ ?_ ?_
    · rintro k v3 r h e hp
      replace h : impl_IsKey.l0 a0 y1 K (k + 1) v3 = some r := h
      unfold impl_IsKey.l0 at h
      refine goS ?_
      try ((with_reducible apply cdX); exact rfl)
      refine iteF h (fun c4 h => ?_) (fun c4 h => ?_)
      · refine goS ?_
        refine bindG h fun x5 hx5 h => ?_
        refine anM (at_ix rfl hx5) ?_
        refine exM (eS x5) (at_get rfl hx5) ?_
        refine ifB h (fun c6 h => ?_) (fun c6 h => ?_)
        · exact lqL h rfl
        · exact ⟨(w64 (v3 + 1)), h, ⟨rfl, ⟨rfl, rfl, rfl, rfl, trivial⟩, ⟨rfl, trivial⟩⟩⟩
      · refine lqR h ?_
        exact ⟨rfl, trivial, trivial⟩
    · intro r' S' h q
      exact retE (enc := impl_IsKey.enc) h q
    · rintro _ S' h ⟨qn, ⟨_⟩, ⟨_⟩⟩
      exact ⟨(), h, ⟨qn, trivial, trivial⟩⟩
  · rintro _ h e hp
    exact retE (enc := impl_IsKey.enc) h rfl
def impl_isName.enc (r : Bool) : Res := ([(.d (.p (.bool r)))], [])
def impl_isName.f  (K : Nat) (a0 : ByteArray) : Option (Bool) := (impl_IsWord.f K a0).bind fun y1 => (if y1 = true then ((impl_IsKey.f K a0).bind fun y4 => (some (!y4))) else (some false))
theorem impl_isName.ev   {K : Nat} {a0 : ByteArray} {r : Bool} (h : impl_isName.f  K a0 = some r) : E 139 [(.d (.p (.string a0)))] = some ([(.d (.p (.bool r)))], []) := by
  refine Ev_intro (fn := Tryz.f139) rfl (by kernel_rfl) (c := _) rfl ⟨rfl, by simp⟩ rfl (evP_spec _ ?_)
  unfold impl_isName.f at h
  refine goS ?_
  refine bindG h fun y1 hy2 h => ?_
  refine exM ([(.d (.p (.bool y1)))], []) ?_ ?_
  · exact impl_IsWord.ev hy2
  refine ifB h (fun c3 h => ?_) (fun c3 h => ?_)
  · refine Ask.T rfl ?_
    refine bindG h fun y4 hy5 h => ?_
    refine exM ([(.d (.p (.bool y4)))], []) ?_ ?_
    · exact impl_IsKey.ev hy5
    refine Ask.T rfl ?_
    refine Ask.T rfl ?_
    exact retE (enc := impl_isName.enc) h rfl
  · refine Ask.F rfl ?_
    refine Ask.F rfl ?_
    refine Ask.F rfl ?_
    exact retE (enc := impl_isName.enc) h rfl
def impl_nameFits.enc (r : Bool) : Res := ([(.d (.p (.bool r)))], [])
def impl_nameFits.f  (K : Nat) (a0 : ByteArray) (a1 : Bool) : Option (Bool) := if a1 = true then ((impl_isName.f K a0).bind fun y2 => (some y2)) else (some (a0.toList == (⟨#[]⟩ : ByteArray).toList))
theorem impl_nameFits.ev   {K : Nat} {a0 : ByteArray} {a1 : Bool} {r : Bool} (h : impl_nameFits.f  K a0 a1 = some r) : E 116 [(.d (.p (.string a0))), (.d (.p (.bool a1)))] = some ([(.d (.p (.bool r)))], []) := by
  refine Ev_intro (fn := Tryz.f116) rfl (by kernel_rfl) (c := _) rfl ⟨rfl, by simp⟩ rfl (evP_spec _ ?_)
  unfold impl_nameFits.f at h
  refine goS ?_
  try ((with_reducible apply cdX); exact rfl)
  refine ifB h (fun c1 h => ?_) (fun c1 h => ?_)
  · refine bindG h fun y2 hy3 h => ?_
    refine exM ([(.d (.p (.bool y2)))], []) ?_ ?_
    · exact impl_isName.ev hy3
    exact retE (enc := impl_nameFits.enc) h rfl
  · exact retE (enc := impl_nameFits.enc) h rfl
def impl_Arity.enc (r : Int) : Res := ([(.d (.p (.int .i64 r)))], [])
def impl_Arity.f  (K : Nat) (a0 : Int) : Option (Int) := jn (fun (v1 : Bool) => if v1 = true then (some 1) else (jn (fun (v8 : Bool) => if v8 = true then (some 2) else (jn (fun (v17 : Bool) => if v17 = true then (some 3) else (some 0)) (fun j => if a0 = 7 then (j true) else (j (decide (a0 = 14)))))) (fun j => if a0 = 4 then (j true) else (if a0 = 5 then (j true) else (if a0 = 6 then (j true) else (if a0 = 8 then (j true) else (if a0 = 9 then (j true) else (if a0 = 13 then (j true) else (if a0 = 17 then (j true) else (j (decide (a0 = 19)))))))))))) (fun j => if a0 = 3 then (j true) else (if a0 = 10 then (j true) else (if a0 = 11 then (j true) else (if a0 = 15 then (j true) else (if a0 = 16 then (j true) else (j (decide (a0 = 18))))))))
theorem impl_Arity.ev   {K : Nat} {a0 : Int} {r : Int} (h : impl_Arity.f  K a0 = some r) : E 118 [(.d (.p (.int .i64 a0)))] = some ([(.d (.p (.int .i64 r)))], []) := by
  refine Ev_intro (fn := Tryz.f118) rfl (by kernel_rfl) (c := _) rfl ⟨rfl, by simp⟩ rfl (evP_spec _ ?_)
  unfold impl_Arity.f at h
  refine goS ?_
  refine seqJ h 23 (fun x => [(3, (.d (.p (.int .i64 a0)))), (4, (.d (.p (.bool x))))]) (fun x => []) (fun J h => ?_) ?_
  · try ((with_reducible apply cdX); exact rfl)
    refine iteF h (fun c2 h => ?_) (fun c2 h => ?_)
    · exact ⟨true, h, ⟨rfl, ⟨rfl, rfl, trivial⟩, trivial⟩⟩
    · try ((with_reducible apply cdX); exact rfl)
      refine iteF h (fun c3 h => ?_) (fun c3 h => ?_)
      · exact ⟨true, h, ⟨rfl, ⟨rfl, rfl, trivial⟩, trivial⟩⟩
      · try ((with_reducible apply cdX); exact rfl)
        refine iteF h (fun c4 h => ?_) (fun c4 h => ?_)
        · exact ⟨true, h, ⟨rfl, ⟨rfl, rfl, trivial⟩, trivial⟩⟩
        · try ((with_reducible apply cdX); exact rfl)
          refine iteF h (fun c5 h => ?_) (fun c5 h => ?_)
          · exact ⟨true, h, ⟨rfl, ⟨rfl, rfl, trivial⟩, trivial⟩⟩
          · try ((with_reducible apply cdX); exact rfl)
            refine iteF h (fun c6 h => ?_) (fun c6 h => ?_)
            · exact ⟨true, h, ⟨rfl, ⟨rfl, rfl, trivial⟩, trivial⟩⟩
            · exact ⟨(decide (a0 = 18)), h, ⟨rfl, ⟨rfl, rfl, trivial⟩, trivial⟩⟩
  · rintro v1 h e hp
    try ((with_reducible apply cdX); exact rfl)
    refine ifB h (fun c7 h => ?_) (fun c7 h => ?_)
    · exact retE (enc := impl_Arity.enc) h rfl
    · refine seqJ h 23 (fun x => [(3, (.d (.p (.int .i64 a0)))), (11, (.d (.p (.bool x))))]) (fun x => []) (fun J h => ?_) ?_
      · try ((with_reducible apply cdX); exact rfl)
        refine iteF h (fun c9 h => ?_) (fun c9 h => ?_)
        · exact ⟨true, h, ⟨rfl, ⟨rfl, rfl, trivial⟩, trivial⟩⟩
        · try ((with_reducible apply cdX); exact rfl)
          refine iteF h (fun c10 h => ?_) (fun c10 h => ?_)
          · exact ⟨true, h, ⟨rfl, ⟨rfl, rfl, trivial⟩, trivial⟩⟩
          · try ((with_reducible apply cdX); exact rfl)
            refine iteF h (fun c11 h => ?_) (fun c11 h => ?_)
            · exact ⟨true, h, ⟨rfl, ⟨rfl, rfl, trivial⟩, trivial⟩⟩
            · try ((with_reducible apply cdX); exact rfl)
              refine iteF h (fun c12 h => ?_) (fun c12 h => ?_)
              · exact ⟨true, h, ⟨rfl, ⟨rfl, rfl, trivial⟩, trivial⟩⟩
              · try ((with_reducible apply cdX); exact rfl)
                refine iteF h (fun c13 h => ?_) (fun c13 h => ?_)
                · exact ⟨true, h, ⟨rfl, ⟨rfl, rfl, trivial⟩, trivial⟩⟩
                · try ((with_reducible apply cdX); exact rfl)
                  refine iteF h (fun c14 h => ?_) (fun c14 h => ?_)
                  · exact ⟨true, h, ⟨rfl, ⟨rfl, rfl, trivial⟩, trivial⟩⟩
                  · try ((with_reducible apply cdX); exact rfl)
                    refine iteF h (fun c15 h => ?_) (fun c15 h => ?_)
                    · exact ⟨true, h, ⟨rfl, ⟨rfl, rfl, trivial⟩, trivial⟩⟩
                    · exact ⟨(decide (a0 = 19)), h, ⟨rfl, ⟨rfl, rfl, trivial⟩, trivial⟩⟩
      · rintro v8 h e hp
        try ((with_reducible apply cdX); exact rfl)
        refine ifB h (fun c16 h => ?_) (fun c16 h => ?_)
        · exact retE (enc := impl_Arity.enc) h rfl
        · refine seqJ h 23 (fun x => [(20, (.d (.p (.bool x))))]) (fun x => []) (fun J h => ?_) ?_
          · try ((with_reducible apply cdX); exact rfl)
            refine iteF h (fun c18 h => ?_) (fun c18 h => ?_)
            · exact ⟨true, h, ⟨rfl, ⟨rfl, trivial⟩, trivial⟩⟩
            · exact ⟨(decide (a0 = 14)), h, ⟨rfl, ⟨rfl, trivial⟩, trivial⟩⟩
          · rintro v17 h e hp
            try ((with_reducible apply cdX); exact rfl)
            refine ifB h (fun c19 h => ?_) (fun c19 h => ?_)
            · exact retE (enc := impl_Arity.enc) h rfl
            · exact retE (enc := impl_Arity.enc) h rfl
def impl_fieldsOk.enc (r : Bool) : Res := ([(.d (.p (.bool r)))], [])
def impl_fieldsOk.en (a0 : impl_Node) (r : Bool) (S : St) : Prop := endV tb md 87 Tryz.f87 [(.agg (a0.e.map .d))] .ret S = some (impl_fieldsOk.enc r)
def impl_fieldsOk.l0 (a0 : impl_Node) (K : Nat) : Nat → Int → Option (Bool ⊕ Unit)
  | 0, _ => none
  | k + 1, v15 => if v15 < 3 then ((at_ ([a0.A, a0.B, a0.C] : List Int) v15).bind fun x17 => (jn (fun (v18 : Bool) => if v18 = true then (some (.inl false)) else (impl_fieldsOk.l0 a0 K k (w64 (v15 + 1)))) (fun j => (impl_Arity.f K a0.Kind).bind fun y19 => (if v15 ≥ y19 then (j (!(decide (x17 = 0)))) else (j false))))) else (some (.inr ()))
def impl_fieldsOk.f  (K : Nat) (a0 : impl_Node) : Option (Bool) := jn (fun (v1 : Bool) => if v1 = true then (some false) else (jn (fun (_ : Unit) => if a0.Kind = 2 then ((impl_in.f K a0.N 0 65535).bind fun y24 => (some y24)) else (if a0.Kind = 8 then ((impl_in.f K a0.N 0 3).bind fun y27 => (some y27)) else (some (decide (a0.N = 0))))) (fun j => lb (impl_fieldsOk.l0 a0 K K 0) (fun r => some r) (fun (_ : Unit) => j ())))) (fun j => (impl_in.f K a0.Kind 1 19).bind fun y2 => (if (!y2) = true then (j true) else ((impl_namesOf.f K a0.Kind).bind fun y5 => ((impl_nameFits.f K a0.Name (decide (y5 > 0))).bind fun y7 => (if (!y7) = true then (j true) else ((impl_namesOf.f K a0.Kind).bind fun y10 => ((impl_nameFits.f K a0.Other (decide (y10 > 1))).bind fun y12 => (j (!y12)))))))))
theorem impl_fieldsOk.ev   {K : Nat} {a0 : impl_Node} {r : Bool} (h : impl_fieldsOk.f  K a0 = some r) : E 87 [(.agg (a0.e.map .d))] = some ([(.d (.p (.bool r)))], []) := by
  refine Ev_intro (fn := Tryz.f87) rfl (by kernel_rfl) (c := _) rfl ⟨rfl, by simp⟩ rfl (evP_spec _ ?_)
  unfold impl_fieldsOk.f at h
  refine goS ?_
  refine seqJ h 67 (fun x => [(1, (.ptr 1 0 2 0)), (28, (.d (.p (.bool x))))]) (fun x => [(1, 0, 2, (some (.box [(.d (.p (.int .i64 a0.Kind))), (.d (.p (.int .i64 a0.A))), (.d (.p (.int .i64 a0.B))), (.d (.p (.int .i64 a0.C))), (.d (.p (.int .i64 a0.N))), (.d (.p (.string a0.Name))), (.d (.p (.string a0.Other)))])))]) (fun J h => ?_) ?_
  · refine ⟨[[], [], [], [], [], [12, 13, 14], [12, 13, 14], [10, 11], [10, 11], [10, 11], [], [], [], [], [], [22, 23, 24], [22, 23, 24], [20, 21], [20, 21], [20, 21], [], [], [], []], [], by kernel_rfl, ?_⟩
    refine bindG h fun y2 hy3 h => ?_
    refine exM ([(.d (.p (.bool y2)))], []) ?_ ?_
    · exact impl_in.ev hy3
    refine ifB h (fun c4 h => ?_) (fun c4 h => ?_)
    · refine Ask.T rfl ?_
      refine Ask.T rfl ?_
      refine Ask.T rfl ?_
      refine Ask.T rfl ?_
      refine Ask.T rfl ?_
      refine Ask.T rfl ?_
      refine Ask.T rfl ?_
      refine Ask.T rfl ?_
      refine Ask.T rfl ?_
      refine Ask.T rfl ?_
      refine Ask.T rfl ?_
      refine Ask.T rfl ?_
      refine Ask.T rfl ?_
      refine Ask.T rfl ?_
      refine Ask.T rfl ?_
      refine Ask.T rfl ?_
      refine Ask.T rfl ?_
      exact ⟨true, h, ⟨rfl, ⟨rfl, rfl, trivial⟩, ⟨rfl, trivial⟩⟩⟩
    · refine Ask.F rfl ?_
      refine Ask.F rfl ?_
      refine Ask.F rfl ?_
      refine Ask.F rfl ?_
      refine bindG h fun y5 hy6 h => ?_
      refine exM ([(.d (.p (.int .i64 y5)))], []) ?_ ?_
      · exact impl_namesOf.ev hy6
      refine Ask.F rfl ?_
      refine Ask.F rfl ?_
      refine bindG h fun y7 hy8 h => ?_
      refine exM ([(.d (.p (.bool y7)))], []) ?_ ?_
      · exact impl_nameFits.ev hy8
      refine Ask.F rfl ?_
      refine Ask.F rfl ?_
      refine ifB h (fun c9 h => ?_) (fun c9 h => ?_)
      · refine Ask.T rfl ?_
        refine Ask.T rfl ?_
        refine Ask.T rfl ?_
        refine Ask.T rfl ?_
        refine Ask.T rfl ?_
        refine Ask.T rfl ?_
        refine Ask.T rfl ?_
        refine Ask.T rfl ?_
        exact ⟨true, h, ⟨rfl, ⟨rfl, rfl, trivial⟩, ⟨rfl, trivial⟩⟩⟩
      · refine Ask.F rfl ?_
        refine Ask.F rfl ?_
        refine Ask.F rfl ?_
        refine Ask.F rfl ?_
        refine bindG h fun y10 hy11 h => ?_
        refine exM ([(.d (.p (.int .i64 y10)))], []) ?_ ?_
        · exact impl_namesOf.ev hy11
        refine Ask.F rfl ?_
        refine Ask.F rfl ?_
        refine bindG h fun y12 hy13 h => ?_
        refine exM ([(.d (.p (.bool y12)))], []) ?_ ?_
        · exact impl_nameFits.ev hy13
        refine Ask.F rfl ?_
        refine Ask.F rfl ?_
        exact ⟨(!y12), h, ⟨rfl, ⟨rfl, rfl, trivial⟩, ⟨rfl, trivial⟩⟩⟩
  · rintro v1 h e hp
    try ((with_reducible apply cdX); exact rfl)
    refine ifB h (fun c14 h => ?_) (fun c14 h => ?_)
    · exact retE (enc := impl_fieldsOk.enc) h rfl
    · refine seqJ h 67 (fun x => [(1, (.ptr 1 0 2 0))]) (fun x => [(1, 0, 2, (some (.box [(.d (.p (.int .i64 a0.Kind))), (.d (.p (.int .i64 a0.A))), (.d (.p (.int .i64 a0.B))), (.d (.p (.int .i64 a0.C))), (.d (.p (.int .i64 a0.N))), (.d (.p (.string a0.Name))), (.d (.p (.string a0.Other)))])))]) (fun J h => ?_) ?_
      · refine eqM (([a0.A, a0.B, a0.C] : List Int).map eI) rfl ?_
        refine eqM (3 : Int) rfl ?_
        refine loopB (α := Int) (a := 0) 67 (fun x => [(1, (.ptr 1 0 2 0)), (35, (.own 35 0 2)), (36, (.d (.p (.int .i64 3)))), (37, (.d (.p (.int .i64 x))))]) (fun x => [(1, 0, 2, (some (.box [(.d (.p (.int .i64 a0.Kind))), (.d (.p (.int .i64 a0.A))), (.d (.p (.int .i64 a0.B))), (.d (.p (.int .i64 a0.C))), (.d (.p (.int .i64 a0.N))), (.d (.p (.string a0.Name))), (.d (.p (.string a0.Other)))]))), (35, 0, 2, (some (.row true true 1 (([a0.A, a0.B, a0.C] : List Int).map eI))))]) (fun k x => impl_fieldsOk.l0 a0 K k x) (impl_fieldsOk.en a0) 0 (fun x => [(1, (.ptr 1 0 2 0))]) (fun x => [(1, 0, 2, (some (.box [(.d (.p (.int .i64 a0.Kind))), (.d (.p (.int .i64 a0.A))), (.d (.p (.int .i64 a0.B))), (.d (.p (.int .i64 a0.C))), (.d (.p (.int .i64 a0.N))), (.d (.p (.string a0.Name))), (.d (.p (.string a0.Other)))])))]) h (fun _ => rfl) ?_ ⟨rfl, ⟨rfl, rfl, rfl, rfl, trivial⟩, ⟨rfl, rfl, trivial⟩⟩ ?_ ?_
        · rintro k v15 r h e hp
          replace h : impl_fieldsOk.l0 a0 K (k + 1) v15 = some r := h
          unfold impl_fieldsOk.l0 at h
          refine goS ?_
          try ((with_reducible apply cdX); exact rfl)
          refine iteF h (fun c16 h => ?_) (fun c16 h => ?_)
          · refine goS ?_
            refine bindG h fun x17 hx17 h => ?_
            refine anM (at_ix rfl hx17) ?_
            refine exM (eI x17) (at_get rfl hx17) ?_
            refine seqJ h 67 (fun x => [(1, (.ptr 1 0 2 0)), (35, (.own 35 0 2)), (36, (.d (.p (.int .i64 3)))), (37, (.d (.p (.int .i64 v15)))), (50, (.d (.p (.bool x))))]) (fun x => [(1, 0, 2, (some (.box [(.d (.p (.int .i64 a0.Kind))), (.d (.p (.int .i64 a0.A))), (.d (.p (.int .i64 a0.B))), (.d (.p (.int .i64 a0.C))), (.d (.p (.int .i64 a0.N))), (.d (.p (.string a0.Name))), (.d (.p (.string a0.Other)))]))), (35, 0, 2, (some (.row true true 1 (([a0.A, a0.B, a0.C] : List Int).map eI))))]) (fun J h => ?_) ?_
            · refine bindG h fun y19 hy20 h => ?_
              refine exM ([(.d (.p (.int .i64 y19)))], []) ?_ ?_
              · exact impl_Arity.ev hy20
              refine iteF h (fun c21 h => ?_) (fun c21 h => ?_)
              · refine Ask.T rfl ?_
                refine Ask.T rfl ?_
                exact ⟨(!(decide (x17 = 0))), h, ⟨rfl, ⟨rfl, rfl, rfl, rfl, rfl, trivial⟩, ⟨rfl, rfl, trivial⟩⟩⟩
              · refine Ask.F rfl ?_
                refine Ask.F rfl ?_
                exact ⟨false, h, ⟨rfl, ⟨rfl, rfl, rfl, rfl, rfl, trivial⟩, ⟨rfl, rfl, trivial⟩⟩⟩
            · rintro v18 h e hp
              try ((with_reducible apply cdX); exact rfl)
              refine ifB h (fun c22 h => ?_) (fun c22 h => ?_)
              · exact lqL h rfl
              · exact ⟨(w64 (v15 + 1)), h, ⟨rfl, ⟨rfl, rfl, rfl, rfl, trivial⟩, ⟨rfl, rfl, trivial⟩⟩⟩
          · refine lqR h ?_
            exact ⟨rfl, ⟨rfl, trivial⟩, ⟨rfl, trivial⟩⟩
        · intro r' S' h q
          exact retE (enc := impl_fieldsOk.enc) h q
        · rintro _ S' h ⟨qn, ⟨qa0, _⟩, ⟨qb0, _⟩⟩
          exact ⟨(), h, ⟨qn, ⟨qa0, trivial⟩, ⟨qb0, trivial⟩⟩⟩
      · rintro _ h e hp
        refine goS ?_
        try ((with_reducible apply cdX); exact rfl)
        refine iteF h (fun c23 h => ?_) (fun c23 h => ?_)
        · refine bindG h fun y24 hy25 h => ?_
          refine exM ([(.d (.p (.bool y24)))], []) ?_ ?_
          · exact impl_in.ev hy25
          exact retE (enc := impl_fieldsOk.enc) h rfl
        · try ((with_reducible apply cdX); exact rfl)
          refine iteF h (fun c26 h => ?_) (fun c26 h => ?_)
          · refine bindG h fun y27 hy28 h => ?_
            refine exM ([(.d (.p (.bool y27)))], []) ?_ ?_
            · exact impl_in.ev hy28
            exact retE (enc := impl_fieldsOk.enc) h rfl
          · exact retE (enc := impl_fieldsOk.enc) h rfl
def impl_Kids.enc (r : List Int) : Res := ([(.d (.l true 1 (r.map eI)))], [])
def impl_Kids.f  (K : Nat) (a0 : impl_Node) : Option (List Int) := (impl_Arity.f K a0.Kind).bind fun y1 => ((impl_Arity.f K a0.Kind).bind fun y3 => (gd (0 ≤ y1 ∧ y1 ≤ y3 ∧ y3 ≤ (([a0.A, a0.B, a0.C] : List Int).length : Int)) (some (([a0.A, a0.B, a0.C] : List Int).take (y1).toNat))))
theorem impl_Kids.ev   {K : Nat} {a0 : impl_Node} {r : List Int} (h : impl_Kids.f  K a0 = some r) : E 88 [(.agg (a0.e.map .d))] = some ([(.d (.l true 1 (r.map eI)))], []) := by
  refine Ev_intro (fn := Tryz.f88) rfl (by kernel_rfl) (c := _) rfl ⟨rfl, by simp⟩ rfl (evP_spec _ ?_)
  unfold impl_Kids.f at h
  refine ⟨[[5, 6, 7, 8, 10, 11, 12, 13, 14, 15], [5, 6, 7, 8, 10, 11, 12, 13, 14, 15], [3, 4, 7, 8, 10, 11, 12, 13, 14, 15], [3, 4, 7, 8, 10, 11, 12, 13, 14, 15], [3, 4, 5, 6, 10, 11, 12, 13, 14, 15], [3, 4, 5, 6, 10, 11, 12, 13, 14, 15], [10, 11, 12, 13, 14, 15], [3, 4, 5, 6, 7, 8, 9, 13, 14], [3, 4, 5, 6, 7, 8, 9, 13, 14], [3, 4, 5, 6, 7, 8, 9, 13, 14], [3, 4, 5, 6, 7, 8, 9, 10, 11, 12], [3, 4, 5, 6, 7, 8, 9, 10, 11, 12], [3, 4, 5, 6, 7, 8, 9], [], []], [], by kernel_rfl, ?_⟩
  refine eqM (([a0.A, a0.B, a0.C] : List Int).map eI) rfl ?_
  refine bindG h fun y1 hy2 h => ?_
  refine exM ([(.d (.p (.int .i64 y1)))], []) ?_ ?_
  · exact impl_Arity.ev hy2
  refine bindG h fun y3 hy4 h => ?_
  refine exM ([(.d (.p (.int .i64 y3)))], []) ?_ ?_
  · exact impl_Arity.ev hy4
  refine gdG h fun hc h => ?_
  refine anM (slB hc) ?_
  refine eqM ((([a0.A, a0.B, a0.C] : List Int).take (y1).toNat).map eI) (mTake rfl) ?_
  exact retE (enc := impl_Kids.enc) h rfl
def impl_NodesOk.enc (r : Bool) : Res := ([(.d (.p (.bool r)))], [])
def impl_NodesOk.en (a0 : List impl_Node) (r : Bool) (S : St) : Prop := endV tb md 60 Tryz.f60 [(.d (.l true 7 (a0.map impl_Node.e)))] .ret S = some (impl_NodesOk.enc r)
def impl_NodesOk.l1 (v6 : List Int) (y13 : List Int) (K : Nat) : Nat → Int → Int → Option (Bool ⊕ Int)
  | 0, _, _ => none
  | k + 1, v16, v17 => if v17 ≥ 0 then (jn (fun (v20 : Bool) => if v20 = true then (some (.inl false)) else ((at_ v6 (w64 (v16 - 1))).bind fun x24 => (impl_NodesOk.l1 v6 y13 K k x24 (w64 (v17 - 1))))) (fun j => if v16 = 0 then (j true) else ((at_ y13 v17).bind fun x22 => (j (!(decide (x22 = (w64 (v16 - 1))))))))) else (some (.inr v16))
def impl_NodesOk.l0 (a0 : List impl_Node) (K : Nat) : Nat → Int → (List Int) → Option (Bool ⊕ (List Int))
  | 0, _, _ => none
  | k + 1, v5, v6 => if v5 < (a0.length : Int) then ((at_ a0 v5).bind fun x9 => ((impl_fieldsOk.f K x9).bind fun y10 => (if (!y10) = true then (some (.inl false)) else ((impl_Kids.f K x9).bind fun y13 => (jn (fun (v15 : Int) => (at_ v6 v5).bind fun x25 => (impl_NodesOk.l0 a0 K k (w64 (v5 + 1)) (v6.set (v5).toNat v15))) (fun j => lb (impl_NodesOk.l1 v6 y13 K K v5 (w64 ((y13.length : Int) - 1))) (fun r => some (.inl r)) (fun (v18 : Int) => j v18))))))) else (some (.inr v6))
def impl_NodesOk.f  (K : Nat) (a0 : List impl_Node) : Option (Bool) := (impl_in.f K (a0.length : Int) 1 150).bind fun y1 => (if (!y1) = true then (some false) else (gd (0 ≤ (a0.length : Int) ∧ 8 * (a0.length : Int) ≤ 140737488355328 ∧ (a0.length : Int) ≤ 140737488355328) (jn (fun (v4 : List Int) => (at_ v4 (w64 ((a0.length : Int) - 1))).bind fun x26 => (some (decide (x26 = 0)))) (fun j => lb (impl_NodesOk.l0 a0 K K 0 (List.replicate ((a0.length : Int)).toNat (0 : Int))) (fun r => some r) (fun (v7 : List Int) => j v7)))))
theorem impl_NodesOk.ev   {K : Nat} {a0 : List impl_Node} {r : Bool} (h : impl_NodesOk.f  K a0 = some r) : E 60 [(.d (.l true 7 (a0.map impl_Node.e)))] = some ([(.d (.p (.bool r)))], []) := by
  refine Ev_intro (fn := Tryz.f60) rfl (by kernel_rfl) (c := _) rfl ⟨rfl, by simp⟩ rfl (evP_spec _ ?_)
  unfold impl_NodesOk.f at h
  refine goS ?_
  refine eqM ((a0.length : Int) : Int) (mLen rfl) ?_
  refine bindG h fun y1 hy2 h => ?_
  refine exM ([(.d (.p (.bool y1)))], []) ?_ ?_
  · exact impl_in.ev hy2
  refine ifB h (fun c3 h => ?_) (fun c3 h => ?_)
  · exact retE (enc := impl_NodesOk.enc) h rfl
  · refine eqM ((a0.length : Int) : Int) (mLen rfl) ?_
    refine gdG h fun hc h => ?_
    refine anM ⟨rfl, hc⟩ ?_
    refine eqM ((List.replicate ((a0.length : Int)).toNat (0 : Int)).map eI) (mRep rfl) ?_
    refine seqJ h 64 (fun x => [(0, (.d (.l true 7 (a0.map impl_Node.e)))), (3, (.own 3 1 2))]) (fun x => [(3, 1, 2, (some (.row true true 1 (x.map eI))))]) (fun J h => ?_) ?_
    · refine eqM ((a0.length : Int) : Int) (mLen rfl) ?_
      refine loopB (α := Int × List Int) (a := (0, (List.replicate ((a0.length : Int)).toNat (0 : Int)))) 64 (fun x => [(0, (.d (.l true 7 (a0.map impl_Node.e)))), (3, (.own 3 1 2)), (16, (.d (.l true 7 (a0.map impl_Node.e)))), (17, (.d (.p (.int .i64 (a0.length : Int))))), (18, (.d (.p (.int .i64 x.1))))]) (fun x => [(3, 1, 2, (some (.row true true 1 (x.2.map eI))))]) (fun k x => impl_NodesOk.l0 a0 K k x.1 x.2) (impl_NodesOk.en a0) 0 (fun x => [(0, (.d (.l true 7 (a0.map impl_Node.e)))), (3, (.own 3 1 2))]) (fun x => [(3, 1, 2, (some (.row true true 1 (x.map eI))))]) h (fun _ => rfl) ?_ ⟨rfl, ⟨rfl, rfl, rfl, rfl, rfl, trivial⟩, ⟨rfl, trivial⟩⟩ ?_ ?_
      · rintro k ⟨v5, v6⟩ r h e hp
        replace h : impl_NodesOk.l0 a0 K (k + 1) v5 v6 = some r := h
        unfold impl_NodesOk.l0 at h
        refine goS ?_
        try ((with_reducible apply cdX); exact rfl)
        refine iteF h (fun c8 h => ?_) (fun c8 h => ?_)
        · refine goS ?_
          refine goS ?_
          refine bindG h fun x9 hx9 h => ?_
          refine anM (at_ix rfl hx9) ?_
          refine exM (impl_Node.e x9) (at_get rfl hx9) ?_
          refine goS ?_
          refine bindG h fun y10 hy11 h => ?_
          refine exM ([(.d (.p (.bool y10)))], []) ?_ ?_
          · exact impl_fieldsOk.ev hy11
          refine ifB h (fun c12 h => ?_) (fun c12 h => ?_)
          · exact lqL h rfl
          · refine bindG h fun y13 hy14 h => ?_
            refine exM ([(.d (.l true 1 (y13.map eI)))], []) ?_ ?_
            · exact impl_Kids.ev hy14
            refine seqJ h 64 (fun x => [(0, (.d (.l true 7 (a0.map impl_Node.e)))), (3, (.own 3 1 2)), (4, (.d (.p (.int .i64 v5)))), (7, (.d (.p (.int .i64 x)))), (16, (.d (.l true 7 (a0.map impl_Node.e)))), (17, (.d (.p (.int .i64 (a0.length : Int))))), (18, (.d (.p (.int .i64 v5))))]) (fun x => [(3, 1, 2, (some (.row true true 1 (v6.map eI))))]) (fun J h => ?_) ?_
            · refine eqM ((y13.length : Int) : Int) (mLen rfl) ?_
              refine loopB (α := Int × Int) (a := (v5, (w64 ((y13.length : Int) - 1)))) 64 (fun x => [(0, (.d (.l true 7 (a0.map impl_Node.e)))), (3, (.own 3 1 2)), (4, (.d (.p (.int .i64 v5)))), (6, (.d (.l true 1 (y13.map eI)))), (7, (.d (.p (.int .i64 x.1)))), (8, (.d (.p (.int .i64 x.2)))), (16, (.d (.l true 7 (a0.map impl_Node.e)))), (17, (.d (.p (.int .i64 (a0.length : Int))))), (18, (.d (.p (.int .i64 v5))))]) (fun x => [(3, 1, 2, (some (.row true true 1 (v6.map eI))))]) (fun k x => impl_NodesOk.l1 v6 y13 K k x.1 x.2) (impl_NodesOk.en a0) 2 (fun x => [(0, (.d (.l true 7 (a0.map impl_Node.e)))), (3, (.own 3 1 2)), (4, (.d (.p (.int .i64 v5)))), (7, (.d (.p (.int .i64 x)))), (16, (.d (.l true 7 (a0.map impl_Node.e)))), (17, (.d (.p (.int .i64 (a0.length : Int))))), (18, (.d (.p (.int .i64 v5))))]) (fun x => [(3, 1, 2, (some (.row true true 1 (v6.map eI))))]) h (fun _ => rfl) ?_ ⟨rfl, ⟨rfl, rfl, rfl, rfl, rfl, rfl, rfl, rfl, rfl, trivial⟩, ⟨rfl, trivial⟩⟩ ?_ ?_
              · rintro k ⟨v16, v17⟩ r h e hp
                replace h : impl_NodesOk.l1 v6 y13 K (k + 1) v16 v17 = some r := h
                unfold impl_NodesOk.l1 at h
                refine goS ?_
                try ((with_reducible apply cdX); exact rfl)
                refine iteF h (fun c19 h => ?_) (fun c19 h => ?_)
                · refine goS ?_
                  refine goS ?_
                  refine seqJ h 64 (fun x => [(0, (.d (.l true 7 (a0.map impl_Node.e)))), (3, (.own 3 1 2)), (4, (.d (.p (.int .i64 v5)))), (6, (.d (.l true 1 (y13.map eI)))), (7, (.d (.p (.int .i64 v16)))), (8, (.d (.p (.int .i64 v17)))), (16, (.d (.l true 7 (a0.map impl_Node.e)))), (17, (.d (.p (.int .i64 (a0.length : Int))))), (18, (.d (.p (.int .i64 v5)))), (46, (.d (.p (.bool x))))]) (fun x => [(3, 1, 2, (some (.row true true 1 (v6.map eI))))]) (fun J h => ?_) ?_
                  · try ((with_reducible apply cdX); exact rfl)
                    refine iteF h (fun c21 h => ?_) (fun c21 h => ?_)
                    · refine Ask.T rfl ?_
                      refine Ask.T rfl ?_
                      refine Ask.T rfl ?_
                      refine Ask.T rfl ?_
                      refine Ask.T rfl ?_
                      refine Ask.T rfl ?_
                      refine Ask.T rfl ?_
                      exact ⟨true, h, ⟨rfl, ⟨rfl, rfl, rfl, rfl, rfl, rfl, rfl, rfl, rfl, rfl, trivial⟩, ⟨rfl, trivial⟩⟩⟩
                    · refine Ask.F rfl ?_
                      refine Ask.F rfl ?_
                      refine bindG h fun x22 hx22 h => ?_
                      refine anM (at_ix rfl hx22) ?_
                      refine Ask.F rfl ?_
                      refine exM (eI x22) (at_get rfl hx22) ?_
                      refine Ask.F rfl ?_
                      refine Ask.F rfl ?_
                      refine Ask.F rfl ?_
                      refine Ask.F rfl ?_
                      exact ⟨(!(decide (x22 = (w64 (v16 - 1))))), h, ⟨rfl, ⟨rfl, rfl, rfl, rfl, rfl, rfl, rfl, rfl, rfl, rfl, trivial⟩, ⟨rfl, trivial⟩⟩⟩
                  · rintro v20 h e hp
                    try ((with_reducible apply cdX); exact rfl)
                    refine ifB h (fun c23 h => ?_) (fun c23 h => ?_)
                    · exact lqL h rfl
                    · refine bindG h fun x24 hx24 h => ?_
                      refine anM (at_ix rfl hx24) ?_
                      refine exM (eI x24) (at_get rfl hx24) ?_
                      exact ⟨(x24, (w64 (v17 - 1))), h, ⟨rfl, ⟨rfl, rfl, rfl, rfl, rfl, rfl, rfl, rfl, rfl, trivial⟩, ⟨rfl, trivial⟩⟩⟩
                · refine lqR h ?_
                  exact ⟨rfl, ⟨rfl, rfl, rfl, rfl, rfl, rfl, rfl, trivial⟩, ⟨rfl, trivial⟩⟩
              · intro r' S' h q
                exact lqL h q
              · rintro v18 S' h ⟨qn, ⟨qa0, qa1, qa2, qa3, qa4, qa5, qa6, _⟩, ⟨qb0, _⟩⟩
                exact ⟨v18, h, ⟨qn, ⟨qa0, qa1, qa2, qa3, qa4, qa5, qa6, trivial⟩, ⟨qb0, trivial⟩⟩⟩
            · rintro v15 h e hp
              refine bindG h fun x25 hx25 h => ?_
              refine anM (at_ix rfl hx25) ?_
              refine exM (eI x25) (at_get rfl hx25) ?_
              refine eqM ((v6.set (v5).toNat v15).map eI) (mSet rfl rfl) ?_
              exact ⟨((w64 (v5 + 1)), (v6.set (v5).toNat v15)), h, ⟨rfl, ⟨rfl, rfl, rfl, rfl, rfl, trivial⟩, ⟨rfl, trivial⟩⟩⟩
        · refine lqR h ?_
          exact ⟨rfl, ⟨rfl, rfl, trivial⟩, ⟨rfl, trivial⟩⟩
      · intro r' S' h q
        exact retE (enc := impl_NodesOk.enc) h q
      · rintro v7 S' h ⟨qn, ⟨qa0, qa1, _⟩, ⟨qb0, _⟩⟩
        exact ⟨v7, h, ⟨qn, ⟨qa0, qa1, trivial⟩, ⟨qb0, trivial⟩⟩⟩
    · rintro v4 h e hp
      refine eqM ((a0.length : Int) : Int) (mLen rfl) ?_
      refine bindG h fun x26 hx26 h => ?_
      refine anM (at_ix rfl hx26) ?_
      refine exM (eI x26) (at_get rfl hx26) ?_
      exact retE (enc := impl_NodesOk.enc) h rfl
def impl_parents.enc (r : List Int) : Res := ([(.own true 1 (r.map eI))], [])
def impl_parents.l0 (a0 : List impl_Node) (K : Nat) : Nat → Int → (List Int) → Option (List Int)
  | 0, _, _ => none
  | k + 1, v2, v3 => if v2 < ((List.replicate ((a0.length : Int)).toNat (0 : Int)).length : Int) then ((at_ v3 v2).bind fun x6 => (impl_parents.l0 a0 K k (w64 (v2 + 1)) (v3.set (v2).toNat (-1)))) else (some v3)
def impl_parents.l2 (v8 : Int) (y14 : List Int) (K : Nat) : Nat → Int → (List Int) → Option (List Int)
  | 0, _, _ => none
  | k + 1, v16, v17 => if v16 < (y14.length : Int) then ((at_ y14 v16).bind fun x20 => ((at_ v17 x20).bind fun x21 => (impl_parents.l2 v8 y14 K k (w64 (v16 + 1)) (v17.set (x20).toNat v8)))) else (some v17)
def impl_parents.l1 (a0 : List impl_Node) (K : Nat) : Nat → Int → (List Int) → Option (List Int)
  | 0, _, _ => none
  | k + 1, v8, v9 => if v8 < (a0.length : Int) then (jn (fun (v12 : List Int) => impl_parents.l1 a0 K k (w64 (v8 + 1)) v12) (fun j => (at_ a0 v8).bind fun x13 => ((impl_Kids.f K x13).bind fun y14 => ((impl_parents.l2 v8 y14 K K 0 v9).bind fun (v18 : List Int) => j v18)))) else (some v9)
def impl_parents.f  (K : Nat) (a0 : List impl_Node) : Option (List Int) := gd (0 ≤ (a0.length : Int) ∧ 8 * (a0.length : Int) ≤ 140737488355328 ∧ (a0.length : Int) ≤ 140737488355328) (jn (fun (v1 : List Int) => jn (fun (v7 : List Int) => some v7) (fun j => (impl_parents.l1 a0 K K 0 v1).bind fun (v10 : List Int) => j v10)) (fun j => (impl_parents.l0 a0 K K 0 (List.replicate ((a0.length : Int)).toNat (0 : Int))).bind fun (v4 : List Int) => j v4))
theorem impl_parents.ev   {K : Nat} {a0 : List impl_Node} {r : List Int} (h : impl_parents.f  K a0 = some r) : E 62 [(.d (.l true 7 (a0.map impl_Node.e)))] = some ([(.own true 1 (r.map eI))], []) := by
  refine Ev_intro (fn := Tryz.f62) rfl (by kernel_rfl) (c := _) rfl ⟨rfl, by simp⟩ rfl (evP_spec _ ?_)
  unfold impl_parents.f at h
  refine eqM ((a0.length : Int) : Int) (mLen rfl) ?_
  refine gdG h fun hc h => ?_
  refine anM ⟨rfl, hc⟩ ?_
  refine eqM ((List.replicate ((a0.length : Int)).toNat (0 : Int)).map eI) (mRep rfl) ?_
  refine seqJ h 42 (fun x => [(0, (.d (.l true 7 (a0.map impl_Node.e)))), (3, (.own 3 1 2))]) (fun x => [(3, 1, 2, (some (.row true true 1 (x.map eI))))]) (fun J h => ?_) ?_
  · refine eqM (((List.replicate ((a0.length : Int)).toNat (0 : Int)).length : Int) : Int) (mLen rfl) ?_
    refine loopX (α := Int × List Int) (a := (0, (List.replicate ((a0.length : Int)).toNat (0 : Int)))) 42 (fun x => [(0, (.d (.l true 7 (a0.map impl_Node.e)))), (3, (.own 3 1 2)), (13, (.d (.p (.int .i64 ((List.replicate ((a0.length : Int)).toNat (0 : Int)).length : Int))))), (14, (.d (.p (.int .i64 x.1))))]) (fun x => [(3, 1, 2, (some (.row true true 1 (x.2.map eI))))]) (fun k x => impl_parents.l0 a0 K k x.1 x.2) 0 (fun x => [(0, (.d (.l true 7 (a0.map impl_Node.e)))), (3, (.own 3 1 2))]) (fun x => [(3, 1, 2, (some (.row true true 1 (x.map eI))))]) h (fun _ => rfl) ?_ ⟨rfl, ⟨rfl, rfl, rfl, rfl, trivial⟩, ⟨rfl, trivial⟩⟩ ?_
    · rintro k ⟨v2, v3⟩ r h e hp
      replace h : impl_parents.l0 a0 K (k + 1) v2 v3 = some r := h
      unfold impl_parents.l0 at h
      refine goS ?_
      try ((with_reducible apply cdX); exact rfl)
      refine iteF h (fun c5 h => ?_) (fun c5 h => ?_)
      · refine goS ?_
        refine bindG h fun x6 hx6 h => ?_
        refine anM (at_ix rfl hx6) ?_
        refine exM (eI x6) (at_get rfl hx6) ?_
        refine eqM ((v3.set (v2).toNat (-1)).map eI) (mSet rfl rfl) ?_
        exact ⟨((w64 (v2 + 1)), (v3.set (v2).toNat (-1))), h, ⟨rfl, ⟨rfl, rfl, rfl, rfl, trivial⟩, ⟨rfl, trivial⟩⟩⟩
      · refine exQ h ?_
        exact ⟨rfl, ⟨rfl, rfl, trivial⟩, ⟨rfl, trivial⟩⟩
    · rintro v4 S' h ⟨qn, ⟨qa0, qa1, _⟩, ⟨qb0, _⟩⟩
      exact ⟨v4, h, ⟨qn, ⟨qa0, qa1, trivial⟩, ⟨qb0, trivial⟩⟩⟩
  · rintro v1 h e hp
    refine seqJ h 42 (fun x => [(3, (.own 3 1 2))]) (fun x => [(3, 1, 2, (some (.row true true 1 (x.map eI))))]) (fun J h => ?_) ?_
    · refine eqM ((a0.length : Int) : Int) (mLen rfl) ?_
      refine loopX (α := Int × List Int) (a := (0, v1)) 42 (fun x => [(3, (.own 3 1 2)), (21, (.d (.l true 7 (a0.map impl_Node.e)))), (22, (.d (.p (.int .i64 (a0.length : Int))))), (23, (.d (.p (.int .i64 x.1))))]) (fun x => [(3, 1, 2, (some (.row true true 1 (x.2.map eI))))]) (fun k x => impl_parents.l1 a0 K k x.1 x.2) 2 (fun x => [(3, (.own 3 1 2))]) (fun x => [(3, 1, 2, (some (.row true true 1 (x.map eI))))]) h (fun _ => rfl) ?_ ⟨rfl, ⟨rfl, rfl, rfl, rfl, trivial⟩, ⟨rfl, trivial⟩⟩ ?_
      · rintro k ⟨v8, v9⟩ r h e hp
        replace h : impl_parents.l1 a0 K (k + 1) v8 v9 = some r := h
        unfold impl_parents.l1 at h
        refine goS ?_
        try ((with_reducible apply cdX); exact rfl)
        refine iteF h (fun c11 h => ?_) (fun c11 h => ?_)
        · refine seqJ h 42 (fun x => [(3, (.own 3 1 2)), (21, (.d (.l true 7 (a0.map impl_Node.e)))), (22, (.d (.p (.int .i64 (a0.length : Int))))), (23, (.d (.p (.int .i64 v8))))]) (fun x => [(3, 1, 2, (some (.row true true 1 (x.map eI))))]) (fun J h => ?_) ?_
          · refine goS ?_
            refine bindG h fun x13 hx13 h => ?_
            refine anM (at_ix rfl hx13) ?_
            refine exM (impl_Node.e x13) (at_get rfl hx13) ?_
            refine bindG h fun y14 hy15 h => ?_
            refine exM ([(.d (.l true 1 (y14.map eI)))], []) ?_ ?_
            · exact impl_Kids.ev hy15
            refine eqM ((y14.length : Int) : Int) (mLen rfl) ?_
            refine loopX (α := Int × List Int) (a := (0, v9)) 42 (fun x => [(3, (.own 3 1 2)), (5, (.d (.p (.int .i64 v8)))), (21, (.d (.l true 7 (a0.map impl_Node.e)))), (22, (.d (.p (.int .i64 (a0.length : Int))))), (23, (.d (.p (.int .i64 v8)))), (29, (.d (.l true 1 (y14.map eI)))), (30, (.d (.p (.int .i64 (y14.length : Int))))), (31, (.d (.p (.int .i64 x.1))))]) (fun x => [(3, 1, 2, (some (.row true true 1 (x.2.map eI))))]) (fun k x => impl_parents.l2 v8 y14 K k x.1 x.2) 4 (fun x => [(3, (.own 3 1 2)), (21, (.d (.l true 7 (a0.map impl_Node.e)))), (22, (.d (.p (.int .i64 (a0.length : Int))))), (23, (.d (.p (.int .i64 v8))))]) (fun x => [(3, 1, 2, (some (.row true true 1 (x.map eI))))]) h (fun _ => rfl) ?_ ⟨rfl, ⟨rfl, rfl, rfl, rfl, rfl, rfl, rfl, rfl, trivial⟩, ⟨rfl, trivial⟩⟩ ?_
            · rintro k ⟨v16, v17⟩ r h e hp
              replace h : impl_parents.l2 v8 y14 K (k + 1) v16 v17 = some r := h
              unfold impl_parents.l2 at h
              refine goS ?_
              try ((with_reducible apply cdX); exact rfl)
              refine iteF h (fun c19 h => ?_) (fun c19 h => ?_)
              · refine goS ?_
                refine bindG h fun x20 hx20 h => ?_
                refine anM (at_ix rfl hx20) ?_
                refine exM (eI x20) (at_get rfl hx20) ?_
                refine bindG h fun x21 hx21 h => ?_
                refine anM (at_ix rfl hx21) ?_
                refine exM (eI x21) (at_get rfl hx21) ?_
                refine eqM ((v17.set (x20).toNat v8).map eI) (mSet rfl rfl) ?_
                exact ⟨((w64 (v16 + 1)), (v17.set (x20).toNat v8)), h, ⟨rfl, ⟨rfl, rfl, rfl, rfl, rfl, rfl, rfl, rfl, trivial⟩, ⟨rfl, trivial⟩⟩⟩
              · refine exQ h ?_
                exact ⟨rfl, ⟨rfl, rfl, rfl, rfl, trivial⟩, ⟨rfl, trivial⟩⟩
            · rintro v18 S' h ⟨qn, ⟨qa0, qa1, qa2, qa3, _⟩, ⟨qb0, _⟩⟩
              exact ⟨v18, h, ⟨qn, ⟨qa0, qa1, qa2, qa3, trivial⟩, ⟨qb0, trivial⟩⟩⟩
          · rintro v12 h e hp
            exact ⟨((w64 (v8 + 1)), v12), h, ⟨rfl, ⟨rfl, rfl, rfl, rfl, trivial⟩, ⟨rfl, trivial⟩⟩⟩
        · refine exQ h ?_
          exact ⟨rfl, ⟨rfl, trivial⟩, ⟨rfl, trivial⟩⟩
      · rintro v10 S' h ⟨qn, ⟨qa0, _⟩, ⟨qb0, _⟩⟩
        exact ⟨v10, h, ⟨qn, ⟨qa0, trivial⟩, ⟨qb0, trivial⟩⟩⟩
    · rintro v7 h e hp
      exact retE (enc := impl_parents.enc) h rfl
def impl_bindsIn.enc (r : List ByteArray × List Int) : Res := ([(.own true 1 (r.1.map eS)), (.own true 1 (r.2.map eI))], [])
def impl_bindsIn.f  (K : Nat) (a0 : impl_Node) (a1 : Int) : Option (List ByteArray × List Int) := jn (fun (v1 : Bool) => if v1 = true then (some (([a0.Name] : List ByteArray), ([0] : List Int))) else (jn (fun (v6 : Bool) => if v6 = true then (some (([a0.Other, a0.Name] : List ByteArray), ([1, 0] : List Int))) else (if a0.Kind = 6 then (some (([a0.Name] : List ByteArray), ([0] : List Int))) else (some (([] : List ByteArray), ([] : List Int))))) (fun j => jn (fun (v7 : Bool) => if v7 = true then (j true) else (if a0.Kind = 14 then (j (decide (a1 = a0.C))) else (j false))) (fun j => if a0.Kind = 6 then (j (decide (a1 = a0.A))) else (j false))))) (fun j => if a0.Kind = 3 then (j true) else (if a0.Kind = 5 then (j (decide (a1 = a0.B))) else (if a0.Kind = 19 then (j (decide (a1 = a0.B))) else (j false))))
theorem impl_bindsIn.ev   {K : Nat} {a0 : impl_Node} {a1 : Int} {r : List ByteArray × List Int} (h : impl_bindsIn.f  K a0 a1 = some r) : E 90 [(.agg (a0.e.map .d)), (.d (.p (.int .i64 a1)))] = some ([(.own true 1 (r.1.map eS)), (.own true 1 (r.2.map eI))], []) := by
  refine Ev_intro (fn := Tryz.f90) rfl (by kernel_rfl) (c := _) rfl ⟨rfl, by simp⟩ rfl (evP_spec _ ?_)
  unfold impl_bindsIn.f at h
  refine goS ?_
  refine seqJ h 61 (fun x => [(1, (.d (.p (.int .i64 a1)))), (2, (.ptr 2 0 2 0)), (6, (.d (.p (.bool x))))]) (fun x => [(2, 0, 2, (some (.box [(.d (.p (.int .i64 a0.Kind))), (.d (.p (.int .i64 a0.A))), (.d (.p (.int .i64 a0.B))), (.d (.p (.int .i64 a0.C))), (.d (.p (.int .i64 a0.N))), (.d (.p (.string a0.Name))), (.d (.p (.string a0.Other)))])))]) (fun J h => ?_) ?_
  · try ((with_reducible apply cdX); exact rfl)
    refine iteF h (fun c2 h => ?_) (fun c2 h => ?_)
    · exact ⟨true, h, ⟨rfl, ⟨rfl, rfl, rfl, trivial⟩, ⟨rfl, trivial⟩⟩⟩
    · try ((with_reducible apply cdX); exact rfl)
      refine iteF h (fun c3 h => ?_) (fun c3 h => ?_)
      · refine Ask.T rfl ?_
        refine Ask.T rfl ?_
        refine Ask.T rfl ?_
        refine Ask.T rfl ?_
        refine Ask.T rfl ?_
        refine Ask.T rfl ?_
        refine Ask.T rfl ?_
        refine Ask.T rfl ?_
        exact ⟨(decide (a1 = a0.B)), h, ⟨rfl, ⟨rfl, rfl, rfl, trivial⟩, ⟨rfl, trivial⟩⟩⟩
      · refine Ask.F rfl ?_
        refine Ask.F rfl ?_
        refine Ask.F rfl ?_
        refine iteF h (fun c4 h => ?_) (fun c4 h => ?_)
        · refine Ask.T rfl ?_
          refine Ask.T rfl ?_
          refine Ask.T rfl ?_
          refine Ask.T rfl ?_
          exact ⟨(decide (a1 = a0.B)), h, ⟨rfl, ⟨rfl, rfl, rfl, trivial⟩, ⟨rfl, trivial⟩⟩⟩
        · refine Ask.F rfl ?_
          refine Ask.F rfl ?_
          refine Ask.F rfl ?_
          refine Ask.F rfl ?_
          exact ⟨false, h, ⟨rfl, ⟨rfl, rfl, rfl, trivial⟩, ⟨rfl, trivial⟩⟩⟩
  · rintro v1 h e hp
    try ((with_reducible apply cdX); exact rfl)
    refine ifB h (fun c5 h => ?_) (fun c5 h => ?_)
    · refine eqM (([a0.Name] : List ByteArray).map eS) rfl ?_
      refine eqM (([0] : List Int).map eI) rfl ?_
      exact retE (enc := impl_bindsIn.enc) h rfl
    · refine seqJ h 61 (fun x => [(2, (.ptr 2 0 2 0)), (28, (.d (.p (.bool x))))]) (fun x => [(2, 0, 2, (some (.box [(.d (.p (.int .i64 a0.Kind))), (.d (.p (.int .i64 a0.A))), (.d (.p (.int .i64 a0.B))), (.d (.p (.int .i64 a0.C))), (.d (.p (.int .i64 a0.N))), (.d (.p (.string a0.Name))), (.d (.p (.string a0.Other)))])))]) (fun J h => ?_) ?_
      · refine seqJ h 61 (fun x => [(1, (.d (.p (.int .i64 a1)))), (2, (.ptr 2 0 2 0)), (28, (.d (.p (.bool x))))]) (fun x => [(2, 0, 2, (some (.box [(.d (.p (.int .i64 a0.Kind))), (.d (.p (.int .i64 a0.A))), (.d (.p (.int .i64 a0.B))), (.d (.p (.int .i64 a0.C))), (.d (.p (.int .i64 a0.N))), (.d (.p (.string a0.Name))), (.d (.p (.string a0.Other)))])))]) (fun J h => ?_) ?_
        · try ((with_reducible apply cdX); exact rfl)
          refine iteF h (fun c8 h => ?_) (fun c8 h => ?_)
          · refine Ask.T rfl ?_
            refine Ask.T rfl ?_
            refine Ask.T rfl ?_
            refine Ask.T rfl ?_
            exact ⟨(decide (a1 = a0.A)), h, ⟨rfl, ⟨rfl, rfl, rfl, trivial⟩, ⟨rfl, trivial⟩⟩⟩
          · refine Ask.F rfl ?_
            refine Ask.F rfl ?_
            refine Ask.F rfl ?_
            refine Ask.F rfl ?_
            exact ⟨false, h, ⟨rfl, ⟨rfl, rfl, rfl, trivial⟩, ⟨rfl, trivial⟩⟩⟩
        · rintro v7 h e hp
          try ((with_reducible apply cdX); exact rfl)
          refine ifB h (fun c9 h => ?_) (fun c9 h => ?_)
          · exact ⟨true, h, ⟨rfl, ⟨rfl, rfl, trivial⟩, ⟨rfl, trivial⟩⟩⟩
          · try ((with_reducible apply cdX); exact rfl)
            refine iteF h (fun c10 h => ?_) (fun c10 h => ?_)
            · refine Ask.T rfl ?_
              refine Ask.T rfl ?_
              refine Ask.T rfl ?_
              refine Ask.T rfl ?_
              exact ⟨(decide (a1 = a0.C)), h, ⟨rfl, ⟨rfl, rfl, trivial⟩, ⟨rfl, trivial⟩⟩⟩
            · refine Ask.F rfl ?_
              refine Ask.F rfl ?_
              refine Ask.F rfl ?_
              refine Ask.F rfl ?_
              exact ⟨false, h, ⟨rfl, ⟨rfl, rfl, trivial⟩, ⟨rfl, trivial⟩⟩⟩
      · rintro v6 h e hp
        try ((with_reducible apply cdX); exact rfl)
        refine ifB h (fun c11 h => ?_) (fun c11 h => ?_)
        · refine eqM (([a0.Other, a0.Name] : List ByteArray).map eS) rfl ?_
          refine eqM (([1, 0] : List Int).map eI) rfl ?_
          exact retE (enc := impl_bindsIn.enc) h rfl
        · try ((with_reducible apply cdX); exact rfl)
          refine iteF h (fun c12 h => ?_) (fun c12 h => ?_)
          · refine eqM (([a0.Name] : List ByteArray).map eS) rfl ?_
            refine eqM (([0] : List Int).map eI) rfl ?_
            exact retE (enc := impl_bindsIn.enc) h rfl
          · exact retE (enc := impl_bindsIn.enc) h rfl
def impl_binderOf.enc (r : impl_Bind) : Res := ([(.agg (r.e.map .d))], [])
def impl_binderOf.en (a0 : List impl_Node) (a1 : List Int) (a2 : Int) (a3 : ByteArray) (r : impl_Bind) (S : St) : Prop := endV tb md 63 Tryz.f63 [(.d (.l true 7 (a0.map impl_Node.e))), (.d (.l true 1 (a1.map eI))), (.d (.p (.int .i64 a2))), (.d (.p (.string a3)))] .ret S = some (impl_binderOf.enc r)
def impl_binderOf.l1 (a1 : List Int) (a3 : ByteArray) (v1 : Int) (y5 : List ByteArray) (y6 : List Int) (K : Nat) : Nat → Int → Option (impl_Bind ⊕ Unit)
  | 0, _ => none
  | k + 1, v8 => if v8 < (y5.length : Int) then ((at_ y5 v8).bind fun x10 => (if (x10.toList == a3.toList) = true then ((at_ a1 v1).bind fun x12 => ((at_ y6 v8).bind fun x13 => (some (.inl (⟨x12, x13⟩ : impl_Bind))))) else (impl_binderOf.l1 a1 a3 v1 y5 y6 K k (w64 (v8 + 1))))) else (some (.inr ()))
def impl_binderOf.l0 (a0 : List impl_Node) (a1 : List Int) (a3 : ByteArray) (K : Nat) : Nat → Int → Option (impl_Bind ⊕ Unit)
  | 0, _ => none
  | k + 1, v1 => (at_ a1 v1).bind fun x2 => (if x2 ≥ 0 then ((at_ a0 x2).bind fun x4 => ((impl_bindsIn.f K x4 v1).bind fun (y5, y6) => (jn (fun (_ : Unit) => impl_binderOf.l0 a0 a1 a3 K k x2) (fun j => lb (impl_binderOf.l1 a1 a3 v1 y5 y6 K K 0) (fun r => some (.inl r)) (fun (_ : Unit) => j ()))))) else (some (.inr ())))
def impl_binderOf.f  (K : Nat) (a0 : List impl_Node) (a1 : List Int) (a2 : Int) (a3 : ByteArray) : Option (impl_Bind) := jn (fun (_ : Unit) => some (⟨(-1), (-1)⟩ : impl_Bind)) (fun j => lb (impl_binderOf.l0 a0 a1 a3 K K a2) (fun r => some r) (fun (_ : Unit) => j ()))
theorem impl_binderOf.ev   {K : Nat} {a0 : List impl_Node} {a1 : List Int} {a2 : Int} {a3 : ByteArray} {r : impl_Bind} (h : impl_binderOf.f  K a0 a1 a2 a3 = some r) : E 63 [(.d (.l true 7 (a0.map impl_Node.e))), (.d (.l true 1 (a1.map eI))), (.d (.p (.int .i64 a2))), (.d (.p (.string a3)))] = some ([(.agg (r.e.map .d))], []) := by
  refine Ev_intro (fn := Tryz.f63) rfl (by kernel_rfl) (c := _) rfl ⟨rfl, by simp⟩ rfl (evP_spec _ ?_)
  unfold impl_binderOf.f at h
  refine seqJ h 55 (fun x => [(8, (.ptr 8 0 2 0))]) (fun x => [(8, 0, 2, (some (.box [(.d (.p (.int .i64 0))), (.d (.p (.int .i64 0)))])))]) (fun J h => ?_) ?_
  · refine loopB (α := Int) (a := a2) 55 (fun x => [(0, (.d (.l true 7 (a0.map impl_Node.e)))), (1, (.d (.l true 1 (a1.map eI)))), (2, (.d (.p (.int .i64 x)))), (3, (.d (.p (.string a3)))), (8, (.ptr 8 0 2 0))]) (fun x => [(8, 0, 2, (some (.box [(.d (.p (.int .i64 0))), (.d (.p (.int .i64 0)))])))]) (fun k x => impl_binderOf.l0 a0 a1 a3 K k x) (impl_binderOf.en a0 a1 a2 a3) 0 (fun x => [(8, (.ptr 8 0 2 0))]) (fun x => [(8, 0, 2, (some (.box [(.d (.p (.int .i64 0))), (.d (.p (.int .i64 0)))])))]) h (fun _ => rfl) ?_ ⟨rfl, ⟨rfl, rfl, rfl, rfl, rfl, trivial⟩, ⟨rfl, trivial⟩⟩ ?_ ?_
    · rintro k v1 r h e hp
      replace h : impl_binderOf.l0 a0 a1 a3 K (k + 1) v1 = some r := h
      unfold impl_binderOf.l0 at h
      refine goS ?_
      refine bindG h fun x2 hx2 h => ?_
      refine anM (at_ix rfl hx2) ?_
      refine exM (eI x2) (at_get rfl hx2) ?_
      refine iteF h (fun c3 h => ?_) (fun c3 h => ?_)
      · refine anM (at_ix rfl hx2) ?_
        refine exM (eI x2) (at_get rfl hx2) ?_
        refine bindG h fun x4 hx4 h => ?_
        refine anM (at_ix rfl hx4) ?_
        refine exM (impl_Node.e x4) (at_get rfl hx4) ?_
        refine bindG h ?_
        rintro ⟨y5, y6⟩ hy7 h
        refine exM ([(.own true 1 (y5.map eS)), (.own true 1 (y6.map eI))], []) ?_ ?_
        · exact impl_bindsIn.ev hy7
        refine seqJ h 55 (fun x => [(0, (.d (.l true 7 (a0.map impl_Node.e)))), (1, (.d (.l true 1 (a1.map eI)))), (2, (.d (.p (.int .i64 v1)))), (3, (.d (.p (.string a3)))), (8, (.ptr 8 0 2 0))]) (fun x => [(8, 0, 2, (some (.box [(.d (.p (.int .i64 0))), (.d (.p (.int .i64 0)))])))]) (fun J h => ?_) ?_
        · refine eqM ((y5.length : Int) : Int) (mLen rfl) ?_
          refine loopB (α := Int) (a := 0) 55 (fun x => [(0, (.d (.l true 7 (a0.map impl_Node.e)))), (1, (.d (.l true 1 (a1.map eI)))), (2, (.d (.p (.int .i64 v1)))), (3, (.d (.p (.string a3)))), (8, (.ptr 8 0 2 0)), (10, (.own 10 1 2)), (30, (.own 9 1 2)), (31, (.d (.p (.int .i64 (y5.length : Int))))), (32, (.d (.p (.int .i64 x))))]) (fun x => [(8, 0, 2, (some (.box [(.d (.p (.int .i64 0))), (.d (.p (.int .i64 0)))]))), (9, 1, 2, (some (.row true true 1 (y5.map eS)))), (10, 1, 2, (some (.row true true 1 (y6.map eI))))]) (fun k x => impl_binderOf.l1 a1 a3 v1 y5 y6 K k x) (impl_binderOf.en a0 a1 a2 a3) 2 (fun x => [(0, (.d (.l true 7 (a0.map impl_Node.e)))), (1, (.d (.l true 1 (a1.map eI)))), (2, (.d (.p (.int .i64 v1)))), (3, (.d (.p (.string a3)))), (8, (.ptr 8 0 2 0))]) (fun x => [(8, 0, 2, (some (.box [(.d (.p (.int .i64 0))), (.d (.p (.int .i64 0)))])))]) h (fun _ => rfl) ?_ ⟨rfl, ⟨rfl, rfl, rfl, rfl, rfl, rfl, rfl, rfl, rfl, trivial⟩, ⟨rfl, rfl, rfl, trivial⟩⟩ ?_ ?_
          · rintro k v8 r h e hp
            replace h : impl_binderOf.l1 a1 a3 v1 y5 y6 K (k + 1) v8 = some r := h
            unfold impl_binderOf.l1 at h
            refine goS ?_
            try ((with_reducible apply cdX); exact rfl)
            refine iteF h (fun c9 h => ?_) (fun c9 h => ?_)
            · refine goS ?_
              refine bindG h fun x10 hx10 h => ?_
              refine anM (at_ix rfl hx10) ?_
              refine exM (eS x10) (at_get rfl hx10) ?_
              refine ifB h (fun c11 h => ?_) (fun c11 h => ?_)
              · refine goS ?_
                refine ⟨[[], [], [46, 47], [46, 47], [], [], [42, 43], [42, 43], [], []], [], by kernel_rfl, ?_⟩
                refine bindG h fun x12 hx12 h => ?_
                refine anM (at_ix rfl hx12) ?_
                refine exM (eI x12) (at_get rfl hx12) ?_
                refine bindG h fun x13 hx13 h => ?_
                refine anM (at_ix rfl hx13) ?_
                refine exM (eI x13) (at_get rfl hx13) ?_
                exact lqL h rfl
              · exact ⟨(w64 (v8 + 1)), h, ⟨rfl, ⟨rfl, rfl, rfl, rfl, rfl, rfl, rfl, rfl, rfl, trivial⟩, ⟨rfl, rfl, rfl, trivial⟩⟩⟩
            · refine lqR h ?_
              exact ⟨rfl, ⟨rfl, rfl, rfl, rfl, rfl, trivial⟩, ⟨rfl, trivial⟩⟩
          · intro r' S' h q
            exact lqL h q
          · rintro _ S' h ⟨qn, ⟨qa0, qa1, qa2, qa3, qa4, _⟩, ⟨qb0, _⟩⟩
            exact ⟨(), h, ⟨qn, ⟨qa0, qa1, qa2, qa3, qa4, trivial⟩, ⟨qb0, trivial⟩⟩⟩
        · rintro _ h e hp
          refine anM (at_ix rfl hx2) ?_
          refine exM (eI x2) (at_get rfl hx2) ?_
          exact ⟨x2, h, ⟨rfl, ⟨rfl, rfl, rfl, rfl, rfl, trivial⟩, ⟨rfl, trivial⟩⟩⟩
      · refine lqR h ?_
        exact ⟨rfl, ⟨rfl, trivial⟩, ⟨rfl, trivial⟩⟩
    · intro r' S' h q
      exact retE (enc := impl_binderOf.enc) h q
    · rintro _ S' h ⟨qn, ⟨qa0, _⟩, ⟨qb0, _⟩⟩
      exact ⟨(), h, ⟨qn, ⟨qa0, trivial⟩, ⟨qb0, trivial⟩⟩⟩
  · rintro _ h e hp
    refine goS ?_
    exact retE (enc := impl_binderOf.enc) h rfl
def impl_binders.enc (r : List impl_Bind) : Res := ([(.own true 2 (r.map impl_Bind.e))], [])
def impl_binders.l0 (a0 : List impl_Node) (y1 : List Int) (K : Nat) : Nat → Int → (List impl_Bind) → Option (List impl_Bind)
  | 0, _, _ => none
  | k + 1, v4, v5 => if v4 < (a0.length : Int) then ((at_ a0 v4).bind fun x8 => (jn (fun (v9 : impl_Bind) => gd ((v5.length + 1) * 16 ≤ 140737488355328) (impl_binders.l0 a0 y1 K k (w64 (v4 + 1)) (v5 ++ ([v9] : List impl_Bind)))) (fun j => if x8.Kind = 1 then ((impl_binderOf.f K a0 y1 v4 x8.Name).bind fun y11 => (j y11)) else (j (⟨(-1), (-1)⟩ : impl_Bind))))) else (some v5)
def impl_binders.f  (K : Nat) (a0 : List impl_Node) : Option (List impl_Bind) := (impl_parents.f K a0).bind fun y1 => (jn (fun (v3 : List impl_Bind) => some v3) (fun j => (impl_binders.l0 a0 y1 K K 0 ([] : List impl_Bind)).bind fun (v6 : List impl_Bind) => j v6))
theorem impl_binders.ev   {K : Nat} {a0 : List impl_Node} {r : List impl_Bind} (h : impl_binders.f  K a0 = some r) : E 36 [(.d (.l true 7 (a0.map impl_Node.e)))] = some ([(.own true 2 (r.map impl_Bind.e))], []) := by
  refine Ev_intro (fn := Tryz.f36) rfl (by kernel_rfl) (c := _) rfl ⟨rfl, by simp⟩ rfl (evP_spec _ ?_)
  unfold impl_binders.f at h
  refine bindG h fun y1 hy2 h => ?_
  refine exM ([(.own true 1 (y1.map eI))], []) ?_ ?_
  · exact impl_parents.ev hy2
  refine seqJ h 33 (fun x => [(4, (.own 4 1 2))]) (fun x => [(4, 1, 2, (some (.row true true 2 (x.map impl_Bind.e))))]) (fun J h => ?_) ?_
  · refine eqM ((a0.length : Int) : Int) (mLen rfl) ?_
    refine loopX (α := Int × List impl_Bind) (a := (0, ([] : List impl_Bind))) 33 (fun x => [(0, (.d (.l true 7 (a0.map impl_Node.e)))), (3, (.own 3 1 2)), (4, (.own 4 1 2)), (10, (.d (.l true 7 (a0.map impl_Node.e)))), (11, (.d (.p (.int .i64 (a0.length : Int))))), (12, (.d (.p (.int .i64 x.1))))]) (fun x => [(3, 1, 2, (some (.row true true 1 (y1.map eI)))), (4, 1, 2, (some (.row true true 2 (x.2.map impl_Bind.e))))]) (fun k x => impl_binders.l0 a0 y1 K k x.1 x.2) 0 (fun x => [(4, (.own 4 1 2))]) (fun x => [(4, 1, 2, (some (.row true true 2 (x.map impl_Bind.e))))]) h (fun _ => rfl) ?_ ⟨rfl, ⟨rfl, rfl, rfl, rfl, rfl, rfl, trivial⟩, ⟨rfl, rfl, trivial⟩⟩ ?_
    · rintro k ⟨v4, v5⟩ r h e hp
      replace h : impl_binders.l0 a0 y1 K (k + 1) v4 v5 = some r := h
      unfold impl_binders.l0 at h
      refine goS ?_
      try ((with_reducible apply cdX); exact rfl)
      refine iteF h (fun c7 h => ?_) (fun c7 h => ?_)
      · refine goS ?_
        refine goS ?_
        refine bindG h fun x8 hx8 h => ?_
        refine anM (at_ix rfl hx8) ?_
        refine exM (impl_Node.e x8) (at_get rfl hx8) ?_
        refine goS ?_
        refine seqJ h 33 (fun x => [(0, (.d (.l true 7 (a0.map impl_Node.e)))), (3, (.own 3 1 2)), (4, (.own 4 1 2)), (7, (.ptr 7 0 2 0)), (10, (.d (.l true 7 (a0.map impl_Node.e)))), (11, (.d (.p (.int .i64 (a0.length : Int))))), (12, (.d (.p (.int .i64 v4))))]) (fun x => [(3, 1, 2, (some (.row true true 1 (y1.map eI)))), (4, 1, 2, (some (.row true true 2 (v5.map impl_Bind.e)))), (7, 0, 2, (some (.box [(.d (.p (.int .i64 x.Node))), (.d (.p (.int .i64 x.Role)))])))]) (fun J h => ?_) ?_
        · try ((with_reducible apply cdX); exact rfl)
          refine iteF h (fun c10 h => ?_) (fun c10 h => ?_)
          · refine bindG h fun y11 hy12 h => ?_
            refine exM ([(.agg (y11.e.map .d))], []) ?_ ?_
            · exact impl_binderOf.ev hy12
            exact ⟨y11, h, ⟨rfl, ⟨rfl, rfl, rfl, rfl, rfl, rfl, rfl, trivial⟩, ⟨rfl, rfl, rfl, trivial⟩⟩⟩
          · exact ⟨(⟨(-1), (-1)⟩ : impl_Bind), h, ⟨rfl, ⟨rfl, rfl, rfl, rfl, rfl, rfl, rfl, trivial⟩, ⟨rfl, rfl, rfl, trivial⟩⟩⟩
        · rintro v9 h e hp
          refine eqM (([v9] : List impl_Bind).map impl_Bind.e) rfl ?_
          refine gdG h fun hc h => ?_
          refine anM (apB hc) ?_
          refine eqM ((v5 ++ ([v9] : List impl_Bind)).map impl_Bind.e) (mApp rfl rfl) ?_
          exact ⟨((w64 (v4 + 1)), (v5 ++ ([v9] : List impl_Bind))), h, ⟨rfl, ⟨rfl, rfl, rfl, rfl, rfl, rfl, trivial⟩, ⟨rfl, rfl, trivial⟩⟩⟩
      · refine exQ h ?_
        exact ⟨rfl, ⟨rfl, trivial⟩, ⟨rfl, trivial⟩⟩
    · rintro v6 S' h ⟨qn, ⟨qa0, _⟩, ⟨qb0, _⟩⟩
      exact ⟨v6, h, ⟨qn, ⟨qa0, trivial⟩, ⟨qb0, trivial⟩⟩⟩
  · rintro v3 h e hp
    exact retE (enc := impl_binders.enc) h rfl
def impl_sorted.enc (r : List ByteArray × List ByteArray) : Res := ([(.own true 1 (r.1.map eS))], [(.own true 1 (r.2.map eS))])
def impl_sorted.l0 (y1 : List ByteArray) (K : Nat) : Nat → Int → (List ByteArray) → Option (List ByteArray)
  | 0, _, _ => none
  | k + 1, v4, v5 => if v4 < (y1.length : Int) then (jn (fun (v8 : List ByteArray) => impl_sorted.l0 y1 K k (w64 (v4 + 1)) v8) (fun j => (at_ y1 v4).bind fun x9 => (jn (fun (v10 : Bool) => if v10 = true then (gd ((v5.length + 1) * 16 ≤ 140737488355328) (j (v5 ++ ([x9] : List ByteArray)))) else (j v5)) (fun j => if v4 = 0 then (j true) else ((at_ y1 (w64 (v4 - 1))).bind fun x12 => (j (!(x12.toList == x9.toList)))))))) else (some v5)
def impl_sorted.f  (K : Nat) (a0 : List ByteArray) : Option (List ByteArray × List ByteArray) := (sort_Strings.f a0).bind fun y1 => (gd (y1.length = a0.length) (jn (fun (v3 : List ByteArray) => some (v3, y1)) (fun j => (impl_sorted.l0 y1 K K 0 ([] : List ByteArray)).bind fun (v6 : List ByteArray) => j v6)))
theorem impl_sorted.ev   {K : Nat} {a0 : List ByteArray} {r : List ByteArray × List ByteArray} (h : impl_sorted.f  K a0 = some r) : E 89 [(.lend true 1 (a0.map eS))] = some ([(.own true 1 (r.1.map eS))], [(.own true 1 (r.2.map eS))]) := by
  refine Ev_intro (fn := Tryz.f89) rfl (by kernel_rfl) (c := _) rfl ⟨rfl, by simp⟩ rfl (evP_spec _ ?_)
  unfold impl_sorted.f at h
  refine bindG h fun y1 hy2 h => ?_
  refine exM ([], [(.own true 1 (y1.map eS))]) ?_ ?_
  · exact sort_Strings.ev hy2
  refine gdG h fun g h => ?_
  refine anM (lenM g) ?_
  refine seqJ h 32 (fun x => [(3, (.own 3 1 2))]) (fun x => [(3, 1, 2, (some (.row true true 1 (x.map eS)))), (32, 0, 1, (some (.row true true 1 (y1.map eS))))]) (fun J h => ?_) ?_
  · refine eqM ((y1.length : Int) : Int) (mLen rfl) ?_
    refine loopX (α := Int × List ByteArray) (a := (0, ([] : List ByteArray))) 32 (fun x => [(0, (.own 32 0 1)), (3, (.own 3 1 2)), (8, (.own 32 0 1)), (9, (.d (.p (.int .i64 (y1.length : Int))))), (10, (.d (.p (.int .i64 x.1))))]) (fun x => [(3, 1, 2, (some (.row true true 1 (x.2.map eS)))), (32, 0, 1, (some (.row true true 1 (y1.map eS))))]) (fun k x => impl_sorted.l0 y1 K k x.1 x.2) 0 (fun x => [(3, (.own 3 1 2))]) (fun x => [(3, 1, 2, (some (.row true true 1 (x.map eS)))), (32, 0, 1, (some (.row true true 1 (y1.map eS))))]) h (fun _ => rfl) ?_ ⟨rfl, ⟨rfl, rfl, rfl, rfl, rfl, trivial⟩, ⟨rfl, rfl, trivial⟩⟩ ?_
    · rintro k ⟨v4, v5⟩ r h e hp
      replace h : impl_sorted.l0 y1 K (k + 1) v4 v5 = some r := h
      unfold impl_sorted.l0 at h
      refine goS ?_
      try ((with_reducible apply cdX); exact rfl)
      refine iteF h (fun c7 h => ?_) (fun c7 h => ?_)
      · refine seqJ h 32 (fun x => [(0, (.own 32 0 1)), (3, (.own 3 1 2)), (8, (.own 32 0 1)), (9, (.d (.p (.int .i64 (y1.length : Int))))), (10, (.d (.p (.int .i64 v4))))]) (fun x => [(3, 1, 2, (some (.row true true 1 (x.map eS)))), (32, 0, 1, (some (.row true true 1 (y1.map eS))))]) (fun J h => ?_) ?_
        · refine bindG h fun x9 hx9 h => ?_
          refine anM (at_ix rfl hx9) ?_
          refine exM (eS x9) (at_get rfl hx9) ?_
          refine seqJ h 32 (fun x => [(0, (.own 32 0 1)), (3, (.own 3 1 2)), (5, (.d (.p (.string x9)))), (8, (.own 32 0 1)), (9, (.d (.p (.int .i64 (y1.length : Int))))), (10, (.d (.p (.int .i64 v4)))), (25, (.d (.p (.bool x))))]) (fun x => [(3, 1, 2, (some (.row true true 1 (v5.map eS)))), (32, 0, 1, (some (.row true true 1 (y1.map eS))))]) (fun J h => ?_) ?_
          · try ((with_reducible apply cdX); exact rfl)
            refine iteF h (fun c11 h => ?_) (fun c11 h => ?_)
            · refine Ask.T rfl ?_
              refine Ask.T rfl ?_
              refine Ask.T rfl ?_
              refine Ask.T rfl ?_
              refine Ask.T rfl ?_
              refine Ask.T rfl ?_
              refine Ask.T rfl ?_
              exact ⟨true, h, ⟨rfl, ⟨rfl, rfl, rfl, rfl, rfl, rfl, rfl, trivial⟩, ⟨rfl, rfl, trivial⟩⟩⟩
            · refine Ask.F rfl ?_
              refine Ask.F rfl ?_
              refine Ask.F rfl ?_
              refine bindG h fun x12 hx12 h => ?_
              refine anM (at_ix rfl hx12) ?_
              refine Ask.F rfl ?_
              refine exM (eS x12) (at_get rfl hx12) ?_
              refine Ask.F rfl ?_
              refine Ask.F rfl ?_
              refine Ask.F rfl ?_
              exact ⟨(!(x12.toList == x9.toList)), h, ⟨rfl, ⟨rfl, rfl, rfl, rfl, rfl, rfl, rfl, trivial⟩, ⟨rfl, rfl, trivial⟩⟩⟩
          · rintro v10 h e hp
            try ((with_reducible apply cdX); exact rfl)
            refine ifB h (fun c13 h => ?_) (fun c13 h => ?_)
            · refine eqM (([x9] : List ByteArray).map eS) rfl ?_
              refine gdG h fun hc h => ?_
              refine anM (apB hc) ?_
              refine eqM ((v5 ++ ([x9] : List ByteArray)).map eS) (mApp rfl rfl) ?_
              exact ⟨(v5 ++ ([x9] : List ByteArray)), h, ⟨rfl, ⟨rfl, rfl, rfl, rfl, rfl, trivial⟩, ⟨rfl, rfl, trivial⟩⟩⟩
            · exact ⟨v5, h, ⟨rfl, ⟨rfl, rfl, rfl, rfl, rfl, trivial⟩, ⟨rfl, rfl, trivial⟩⟩⟩
        · rintro v8 h e hp
          exact ⟨((w64 (v4 + 1)), v8), h, ⟨rfl, ⟨rfl, rfl, rfl, rfl, rfl, trivial⟩, ⟨rfl, rfl, trivial⟩⟩⟩
      · refine exQ h ?_
        exact ⟨rfl, ⟨rfl, trivial⟩, ⟨rfl, rfl, trivial⟩⟩
    · rintro v6 S' h ⟨qn, ⟨qa0, _⟩, ⟨qb0, qb1, _⟩⟩
      exact ⟨v6, h, ⟨qn, ⟨qa0, trivial⟩, ⟨qb0, qb1, trivial⟩⟩⟩
  · rintro v3 h e hp
    exact retE (enc := impl_sorted.enc) h rfl
def impl_FreeNames.enc (r : List ByteArray) : Res := ([(.own true 1 (r.map eS))], [])
def impl_FreeNames.l0 (a0 : List impl_Node) (y5 : List impl_Bind) (K : Nat) : Nat → Int → (List ByteArray) → Option (List ByteArray)
  | 0, _, _ => none
  | k + 1, v7, v8 => if v7 < (y5.length : Int) then (jn (fun (v11 : List ByteArray) => impl_FreeNames.l0 a0 y5 K k (w64 (v7 + 1)) v11) (fun j => (at_ y5 v7).bind fun x12 => (jn (fun (v13 : Bool) => if v13 = true then ((at_ a0 v7).bind fun x17 => (gd ((v8.length + 1) * 16 ≤ 140737488355328) (j (v8 ++ ([x17.Name] : List ByteArray))))) else (j v8)) (fun j => (at_ a0 v7).bind fun x14 => (if x14.Kind = 1 then (j (decide (x12.Node < 0))) else (j false)))))) else (some v8)
def impl_FreeNames.f  (K : Nat) (a0 : List impl_Node) : Option (List ByteArray) := (impl_NodesOk.f K a0).bind fun y1 => (if (!y1) = true then (some ([] : List ByteArray)) else (jn (fun (v4 : List ByteArray) => (impl_sorted.f K v4).bind fun (y18, y19) => (gd (y19.length = v4.length) (some y18))) (fun j => (impl_binders.f K a0).bind fun y5 => ((impl_FreeNames.l0 a0 y5 K K 0 ([] : List ByteArray)).bind fun (v9 : List ByteArray) => j v9))))
theorem impl_FreeNames.ev   {K : Nat} {a0 : List impl_Node} {r : List ByteArray} (h : impl_FreeNames.f  K a0 = some r) : E 61 [(.d (.l true 7 (a0.map impl_Node.e)))] = some ([(.own true 1 (r.map eS))], []) := by
  refine Ev_intro (fn := Tryz.f61) rfl (by kernel_rfl) (c := _) rfl ⟨rfl, by simp⟩ rfl (evP_spec _ ?_)
  unfold impl_FreeNames.f at h
  refine goS ?_
  refine bindG h fun y1 hy2 h => ?_
  refine exM ([(.d (.p (.bool y1)))], []) ?_ ?_
  · exact impl_NodesOk.ev hy2
  refine ifB h (fun c3 h => ?_) (fun c3 h => ?_)
  · exact retE (enc := impl_FreeNames.enc) h rfl
  · refine seqJ h 39 (fun x => [(3, (.own 3 1 2))]) (fun x => [(3, 1, 2, (some (.row true true 1 (x.map eS))))]) (fun J h => ?_) ?_
    · refine bindG h fun y5 hy6 h => ?_
      refine exM ([(.own true 2 (y5.map impl_Bind.e))], []) ?_ ?_
      · exact impl_binders.ev hy6
      refine eqM ((y5.length : Int) : Int) (mLen rfl) ?_
      refine loopX (α := Int × List ByteArray) (a := (0, ([] : List ByteArray))) 39 (fun x => [(0, (.d (.l true 7 (a0.map impl_Node.e)))), (3, (.own 3 1 2)), (10, (.own 10 0 2)), (11, (.d (.p (.int .i64 (y5.length : Int))))), (12, (.d (.p (.int .i64 x.1))))]) (fun x => [(3, 1, 2, (some (.row true true 1 (x.2.map eS)))), (10, 0, 2, (some (.row true true 2 (y5.map impl_Bind.e))))]) (fun k x => impl_FreeNames.l0 a0 y5 K k x.1 x.2) 0 (fun x => [(3, (.own 3 1 2))]) (fun x => [(3, 1, 2, (some (.row true true 1 (x.map eS))))]) h (fun _ => rfl) ?_ ⟨rfl, ⟨rfl, rfl, rfl, rfl, rfl, trivial⟩, ⟨rfl, rfl, trivial⟩⟩ ?_
      · rintro k ⟨v7, v8⟩ r h e hp
        replace h : impl_FreeNames.l0 a0 y5 K (k + 1) v7 v8 = some r := h
        unfold impl_FreeNames.l0 at h
        refine goS ?_
        try ((with_reducible apply cdX); exact rfl)
        refine iteF h (fun c10 h => ?_) (fun c10 h => ?_)
        · refine seqJ h 39 (fun x => [(0, (.d (.l true 7 (a0.map impl_Node.e)))), (3, (.own 3 1 2)), (10, (.own 10 0 2)), (11, (.d (.p (.int .i64 (y5.length : Int))))), (12, (.d (.p (.int .i64 v7))))]) (fun x => [(3, 1, 2, (some (.row true true 1 (x.map eS)))), (10, 0, 2, (some (.row true true 2 (y5.map impl_Bind.e))))]) (fun J h => ?_) ?_
          · refine goS ?_
            refine bindG h fun x12 hx12 h => ?_
            refine anM (at_ix rfl hx12) ?_
            refine exM (impl_Bind.e x12) (at_get rfl hx12) ?_
            refine seqJ h 39 (fun x => [(0, (.d (.l true 7 (a0.map impl_Node.e)))), (3, (.own 3 1 2)), (4, (.d (.p (.int .i64 v7)))), (10, (.own 10 0 2)), (11, (.d (.p (.int .i64 (y5.length : Int))))), (12, (.d (.p (.int .i64 v7)))), (27, (.d (.p (.bool x))))]) (fun x => [(3, 1, 2, (some (.row true true 1 (v8.map eS)))), (10, 0, 2, (some (.row true true 2 (y5.map impl_Bind.e))))]) (fun J h => ?_) ?_
            · refine bindG h fun x14 hx14 h => ?_
              refine anM (at_ix rfl hx14) ?_
              refine exM (impl_Node.e x14) (at_get rfl hx14) ?_
              refine iteF h (fun c15 h => ?_) (fun c15 h => ?_)
              · refine Ask.T rfl ?_
                refine Ask.T rfl ?_
                refine Ask.T rfl ?_
                exact ⟨(decide (x12.Node < 0)), h, ⟨rfl, ⟨rfl, rfl, rfl, rfl, rfl, rfl, rfl, trivial⟩, ⟨rfl, rfl, trivial⟩⟩⟩
              · refine Ask.F rfl ?_
                refine Ask.F rfl ?_
                refine Ask.F rfl ?_
                exact ⟨false, h, ⟨rfl, ⟨rfl, rfl, rfl, rfl, rfl, rfl, rfl, trivial⟩, ⟨rfl, rfl, trivial⟩⟩⟩
            · rintro v13 h e hp
              try ((with_reducible apply cdX); exact rfl)
              refine ifB h (fun c16 h => ?_) (fun c16 h => ?_)
              · refine bindG h fun x17 hx17 h => ?_
                refine anM (at_ix rfl hx17) ?_
                refine exM (impl_Node.e x17) (at_get rfl hx17) ?_
                refine eqM (([x17.Name] : List ByteArray).map eS) rfl ?_
                refine gdG h fun hc h => ?_
                refine anM (apB hc) ?_
                refine eqM ((v8 ++ ([x17.Name] : List ByteArray)).map eS) (mApp rfl rfl) ?_
                exact ⟨(v8 ++ ([x17.Name] : List ByteArray)), h, ⟨rfl, ⟨rfl, rfl, rfl, rfl, rfl, trivial⟩, ⟨rfl, rfl, trivial⟩⟩⟩
              · exact ⟨v8, h, ⟨rfl, ⟨rfl, rfl, rfl, rfl, rfl, trivial⟩, ⟨rfl, rfl, trivial⟩⟩⟩
          · rintro v11 h e hp
            exact ⟨((w64 (v7 + 1)), v11), h, ⟨rfl, ⟨rfl, rfl, rfl, rfl, rfl, trivial⟩, ⟨rfl, rfl, trivial⟩⟩⟩
        · refine exQ h ?_
          exact ⟨rfl, ⟨rfl, trivial⟩, ⟨rfl, trivial⟩⟩
      · rintro v9 S' h ⟨qn, ⟨qa0, _⟩, ⟨qb0, _⟩⟩
        exact ⟨v9, h, ⟨qn, ⟨qa0, trivial⟩, ⟨qb0, trivial⟩⟩⟩
    · rintro v4 h e hp
      refine bindG h ?_
      rintro ⟨y18, y19⟩ hy20 h
      refine exM ([(.own true 1 (y18.map eS))], [(.own true 1 (y19.map eS))]) ?_ ?_
      · exact impl_sorted.ev hy20
      refine gdG h fun g h => ?_
      refine anM (lenM g) ?_
      exact retE (enc := impl_FreeNames.enc) h rfl
def impl_Closed.enc (r : Bool) : Res := ([(.d (.p (.bool r)))], [])
def impl_Closed.f  (K : Nat) (a0 : List impl_Node) : Option (Bool) := (impl_NodesOk.f K a0).bind fun y1 => (if y1 = true then ((impl_FreeNames.f K a0).bind fun y4 => (some (decide ((y4.length : Int) = 0)))) else (some false))
theorem impl_Closed.ev   {K : Nat} {a0 : List impl_Node} {r : Bool} (h : impl_Closed.f  K a0 = some r) : E 34 [(.d (.l true 7 (a0.map impl_Node.e)))] = some ([(.d (.p (.bool r)))], []) := by
  refine Ev_intro (fn := Tryz.f34) rfl (by kernel_rfl) (c := _) rfl ⟨rfl, by simp⟩ rfl (evP_spec _ ?_)
  unfold impl_Closed.f at h
  refine goS ?_
  refine bindG h fun y1 hy2 h => ?_
  refine exM ([(.d (.p (.bool y1)))], []) ?_ ?_
  · exact impl_NodesOk.ev hy2
  refine ifB h (fun c3 h => ?_) (fun c3 h => ?_)
  · refine Ask.T rfl ?_
    refine bindG h fun y4 hy5 h => ?_
    refine exM ([(.own true 1 (y4.map eS))], []) ?_ ?_
    · exact impl_FreeNames.ev hy5
    refine Ask.T rfl ?_
    refine eqM ((y4.length : Int) : Int) (mLen rfl) ?_
    refine Ask.T rfl ?_
    refine Ask.T rfl ?_
    exact retE (enc := impl_Closed.enc) h rfl
  · refine Ask.F rfl ?_
    refine Ask.F rfl ?_
    refine Ask.F rfl ?_
    refine Ask.F rfl ?_
    exact retE (enc := impl_Closed.enc) h rfl
def impl_machine_look.enc (r : impl_machine) : Res := ([], [(.ptr r.q)])
def impl_machine_look.f  (K : Nat) (a0 : impl_machine) (a1 : Int) (a2 : Int) : Option (impl_machine) := some (⟨a0.Heap, a0.l, a0.uses, 0, a1, a2, a0.v_, a0.frames, a0.events, a0.stuck⟩ : impl_machine)
theorem impl_machine_look.ev   {K : Nat} {a0 : impl_machine} {a1 : Int} {a2 : Int} {r : impl_machine} (h : impl_machine_look.f  K a0 a1 a2 = some r) : E 37 [(.ptr a0.q), (.d (.p (.int .i64 a1))), (.d (.p (.int .i64 a2)))] = some ([], [(.ptr r.q)]) := by
  refine Ev_intro (fn := Tryz.f37) rfl (by kernel_rfl) (c := _) rfl ⟨rfl, by simp⟩ (vs := [(.ptr 17 0 1 0), (.d (.p (.int .i64 a1))), (.d (.p (.int .i64 a2)))]) (h0 := ((((((((Hp.nil.put 17 1000 (1, (some (.row true true 5 (a0.Heap.Envs.map impl_EnvCell.e))))).put 17 1001 (1, (some (.row true true 2 (a0.Heap.Clos.map impl_Clo.e))))).put 17 1002 (1, (some (.row true true 4 (a0.Heap.Twos.map impl_Two.e))))).put 17 1003 (1, (some (.row true true 2 (a0.Heap.Refs.map impl_Val.e))))).put 17 1005 (1, (some (.row true true 2 (a0.uses.map impl_Bind.e))))).put 17 1011 (1, (some (.row true true 5 (a0.frames.map impl_frame.e))))).put 17 1012 (1, (some (.row true true 3 (a0.events.map impl_Event.e))))).put 17 0 (1, (some (.box [(.own 17 1000 1), (.own 17 1001 1), (.own 17 1002 1), (.own 17 1003 1), (.d (.l true 7 (a0.l.map impl_Node.e))), (.own 17 1005 1), (.d (.p (.int .i64 a0.do_))), (.d (.p (.int .i64 a0.node))), (.d (.p (.int .i64 a0.env))), (.d (.p (.int .i64 a0.v_.Kind))), (.d (.p (.int .i64 a0.v_.N))), (.own 17 1011 1), (.own 17 1012 1), (.d (.p (.bool a0.stuck)))]))))) (by kernel_rfl) (evP_spec _ ?_)
  unfold impl_machine_look.f at h
  exact retE (enc := impl_machine_look.enc) h (by kernel_rfl)
def impl_Heap_show.enc (r : ByteArray × impl_Heap) : Res := ([(.d (.p (.string r.1)))], [(.ptr [(.own true 5 (r.2.Envs.map impl_EnvCell.e)), (.own true 2 (r.2.Clos.map impl_Clo.e)), (.own true 4 (r.2.Twos.map impl_Two.e)), (.own true 2 (r.2.Refs.map impl_Val.e))])])
def impl_Heap_show.b (r_impl_Heap_show : impl_Heap → impl_Val → Int → Option (ByteArray × impl_Heap)) (K : Nat) (a0 : impl_Heap) (a1 : impl_Val) (a2 : Int) : Option (ByteArray × impl_Heap) := jn (fun (v1 : ByteArray) => if a2 = 0 then (some ((⟨#[95]⟩ : ByteArray), a0)) else ((at_ a0.Twos a1.N).bind fun x10 => (gd ((⟨#[40]⟩ : ByteArray).size + v1.size ≤ 9223372036854775807) (gd (((⟨#[40]⟩ : ByteArray) ++ v1).size + (⟨#[32]⟩ : ByteArray).size ≤ 9223372036854775807) ((r_impl_Heap_show a0 x10.A (w64 (a2 - 1))).bind fun (y11, y12) => (gd ((((⟨#[40]⟩ : ByteArray) ++ v1) ++ (⟨#[32]⟩ : ByteArray)).size + y11.size ≤ 9223372036854775807) (gd (((((⟨#[40]⟩ : ByteArray) ++ v1) ++ (⟨#[32]⟩ : ByteArray)) ++ y11).size + (⟨#[32]⟩ : ByteArray).size ≤ 9223372036854775807) ((r_impl_Heap_show y12 x10.B (w64 (a2 - 1))).bind fun (y14, y15) => (gd ((((((⟨#[40]⟩ : ByteArray) ++ v1) ++ (⟨#[32]⟩ : ByteArray)) ++ y11) ++ (⟨#[32]⟩ : ByteArray)).size + y14.size ≤ 9223372036854775807) (gd (((((((⟨#[40]⟩ : ByteArray) ++ v1) ++ (⟨#[32]⟩ : ByteArray)) ++ y11) ++ (⟨#[32]⟩ : ByteArray)) ++ y14).size + (⟨#[41]⟩ : ByteArray).size ≤ 9223372036854775807) (some ((((((((⟨#[40]⟩ : ByteArray) ++ v1) ++ (⟨#[32]⟩ : ByteArray)) ++ y11) ++ (⟨#[32]⟩ : ByteArray)) ++ y14) ++ (⟨#[41]⟩ : ByteArray)), y15)))))))))))) (fun j => if a1.Kind = 0 then ((impl_Dec.f a1.N).bind fun y3 => (some (y3, a0))) else (if a1.Kind = 1 then (some ((⟨#[102, 117, 110]⟩ : ByteArray), a0)) else (if a1.Kind = 2 then (some ((⟨#[110, 105, 108]⟩ : ByteArray), a0)) else (if a1.Kind = 5 then (some ((⟨#[114, 101, 102]⟩ : ByteArray), a0)) else (if a1.Kind = 4 then (j (⟨#[99, 111, 110, 115]⟩ : ByteArray)) else (j (⟨#[112, 97, 105, 114]⟩ : ByteArray)))))))
theorem impl_Heap_show.b_ev {r_impl_Heap_show : impl_Heap → impl_Val → Int → Option (ByteArray × impl_Heap)} (hr_impl_Heap_show : ∀ {a0 : impl_Heap} {a1 : impl_Val} {a2 : Int} {r : ByteArray × impl_Heap}, r_impl_Heap_show a0 a1 a2 = some r → E 39 [(.ptr a0.q), (.agg (a1.e.map .d)), (.d (.p (.int .i64 a2)))] = some ([(.d (.p (.string r.1)))], [(.ptr [(.own true 5 (r.2.Envs.map impl_EnvCell.e)), (.own true 2 (r.2.Clos.map impl_Clo.e)), (.own true 4 (r.2.Twos.map impl_Two.e)), (.own true 2 (r.2.Refs.map impl_Val.e))])])) {K : Nat} {a0 : impl_Heap} {a1 : impl_Val} {a2 : Int} {r : ByteArray × impl_Heap} (h : impl_Heap_show.b r_impl_Heap_show K a0 a1 a2 = some r) : E 39 [(.ptr a0.q), (.agg (a1.e.map .d)), (.d (.p (.int .i64 a2)))] = some ([(.d (.p (.string r.1)))], [(.ptr [(.own true 5 (r.2.Envs.map impl_EnvCell.e)), (.own true 2 (r.2.Clos.map impl_Clo.e)), (.own true 4 (r.2.Twos.map impl_Two.e)), (.own true 2 (r.2.Refs.map impl_Val.e))])]) := by
  refine Ev_intro (fn := Tryz.f39) rfl (by kernel_rfl) (c := _) rfl ⟨rfl, by simp⟩ (vs := [(.ptr 53 0 1 0), (.agg [(.d (.p (.int .i64 a1.Kind))), (.d (.p (.int .i64 a1.N)))]), (.d (.p (.int .i64 a2)))]) (h0 := (((((Hp.nil.put 53 1000 (1, (some (.row true true 5 (a0.Envs.map impl_EnvCell.e))))).put 53 1001 (1, (some (.row true true 2 (a0.Clos.map impl_Clo.e))))).put 53 1002 (1, (some (.row true true 4 (a0.Twos.map impl_Two.e))))).put 53 1003 (1, (some (.row true true 2 (a0.Refs.map impl_Val.e))))).put 53 0 (1, (some (.box [(.own 53 1000 1), (.own 53 1001 1), (.own 53 1002 1), (.own 53 1003 1)]))))) (by kernel_rfl) (evP_spec _ ?_)
  unfold impl_Heap_show.b at h
  refine seqJ h 53 (fun x => [(0, (.ptr 53 0 1 0)), (2, (.d (.p (.int .i64 a2)))), (4, (.ptr 4 0 2 0)), (7, (.d (.p (.string x))))]) (fun x => [(4, 0, 2, (some (.box [(.d (.p (.int .i64 a1.Kind))), (.d (.p (.int .i64 a1.N)))]))), (53, 0, 1, (some (.box [(.own 53 1000 2), (.own 53 1001 2), (.own 53 1002 2), (.own 53 1003 2)]))), (53, 1000, 2, (some (.row true true 5 (a0.Envs.map impl_EnvCell.e)))), (53, 1001, 2, (some (.row true true 2 (a0.Clos.map impl_Clo.e)))), (53, 1002, 2, (some (.row true true 4 (a0.Twos.map impl_Two.e)))), (53, 1003, 2, (some (.row true true 2 (a0.Refs.map impl_Val.e))))]) (fun J h => ?_) ?_
  · try ((with_reducible apply cdX); exact rfl)
    refine iteF h (fun c2 h => ?_) (fun c2 h => ?_)
    · refine bindG h fun y3 hy4 h => ?_
      refine exM ([(.d (.p (.string y3)))], []) ?_ ?_
      · exact impl_Dec.ev hy4
      exact retE (enc := impl_Heap_show.enc) h (by kernel_rfl)
    · try ((with_reducible apply cdX); exact rfl)
      refine iteF h (fun c5 h => ?_) (fun c5 h => ?_)
      · exact retE (enc := impl_Heap_show.enc) h (by kernel_rfl)
      · try ((with_reducible apply cdX); exact rfl)
        refine iteF h (fun c6 h => ?_) (fun c6 h => ?_)
        · exact retE (enc := impl_Heap_show.enc) h (by kernel_rfl)
        · try ((with_reducible apply cdX); exact rfl)
          refine iteF h (fun c7 h => ?_) (fun c7 h => ?_)
          · exact retE (enc := impl_Heap_show.enc) h (by kernel_rfl)
          · try ((with_reducible apply cdX); exact rfl)
            refine iteF h (fun c8 h => ?_) (fun c8 h => ?_)
            · exact ⟨(⟨#[99, 111, 110, 115]⟩ : ByteArray), h, ⟨rfl, ⟨(by kernel_rfl), (by kernel_rfl), (by kernel_rfl), (by kernel_rfl), trivial⟩, ⟨(by kernel_rfl), (by kernel_rfl), (by kernel_rfl), (by kernel_rfl), (by kernel_rfl), (by kernel_rfl), trivial⟩⟩⟩
            · exact ⟨(⟨#[112, 97, 105, 114]⟩ : ByteArray), h, ⟨rfl, ⟨(by kernel_rfl), (by kernel_rfl), (by kernel_rfl), (by kernel_rfl), trivial⟩, ⟨(by kernel_rfl), (by kernel_rfl), (by kernel_rfl), (by kernel_rfl), (by kernel_rfl), (by kernel_rfl), trivial⟩⟩⟩
  · rintro v1 h e hp
    refine goS ?_
    try ((with_reducible apply cdX); exact rfl)
    refine iteF h (fun c9 h => ?_) (fun c9 h => ?_)
    · exact retE (enc := impl_Heap_show.enc) h (by kernel_rfl)
    · refine goR ?_
      refine ⟨[[], [30, 31, 8], [30, 31, 8], [30, 31, 8], [27, 28, 29, 8], [27, 28, 29, 8], [8], [8], [27, 28, 29, 30, 31, 32, 33], []], [], by kernel_rfl, ?_⟩
      refine bindG h fun x10 hx10 h => ?_
      refine anM (at_ix rfl hx10) ?_
      refine exM (impl_Two.e x10) (at_get rfl hx10) ?_
      refine Re.mk 53 [(0, (.ptr 53 0 1 0)), (2, (.d (.p (.int .i64 a2)))), (7, (.d (.p (.string v1)))), (8, (.ptr 8 0 2 0))] [(8, 0, 2, (some (.box [(.d (.p (.int .i64 x10.A.Kind))), (.d (.p (.int .i64 x10.A.N))), (.d (.p (.int .i64 x10.B.Kind))), (.d (.p (.int .i64 x10.B.N)))]))), (53, 0, 1, (some (.box [(.own 53 1000 2), (.own 53 1001 2), (.own 53 1002 2), (.own 53 1003 2)]))), (53, 1000, 2, (some (.row true true 5 (a0.Envs.map impl_EnvCell.e)))), (53, 1001, 2, (some (.row true true 2 (a0.Clos.map impl_Clo.e)))), (53, 1002, 2, (some (.row true true 4 (a0.Twos.map impl_Two.e)))), (53, 1003, 2, (some (.row true true 2 (a0.Refs.map impl_Val.e))))] (by exact ⟨rfl, ⟨(by kernel_rfl), (by kernel_rfl), (by kernel_rfl), (by kernel_rfl), trivial⟩, ⟨(by kernel_rfl), (by kernel_rfl), (by kernel_rfl), (by kernel_rfl), (by kernel_rfl), (by kernel_rfl), trivial⟩⟩) ?_
      intro e hp
      refine ⟨[[], [], [], [], [46, 47], [46, 47], [], [], [46, 999999, 8, 47, 999999, 8], [], [], [], [38, 39, 42], [38, 39, 42], [], [], [], [], [], []], [[], [], [], [], [], [], [], [], [], [], [], [], [999999, 8], [999999, 8], [], [], [], [], [], []], by kernel_rfl, ?_⟩
      refine gdG h fun hc h => ?_
      refine anM hc ?_
      refine gdG h fun hc h => ?_
      refine anM hc ?_
      refine bindG h ?_
      rintro ⟨y11, y12⟩ hy13 h
      refine exM ([(.d (.p (.string y11)))], [(.ptr y12.q)]) ?_ ?_
      · exact hr_impl_Heap_show hy13
      refine gdG h fun hc h => ?_
      refine anM hc ?_
      refine gdG h fun hc h => ?_
      refine anM hc ?_
      refine bindG h ?_
      rintro ⟨y14, y15⟩ hy16 h
      refine exM ([(.d (.p (.string y14)))], [(.ptr y15.q)]) ?_ ?_
      · exact hr_impl_Heap_show hy16
      refine gdG h fun hc h => ?_
      refine anM hc ?_
      refine gdG h fun hc h => ?_
      refine anM hc ?_
      exact retE (enc := impl_Heap_show.enc) h (by kernel_rfl)
def impl_Heap_show.r (K : Nat) : Nat → impl_Heap → impl_Val → Int → Option (ByteArray × impl_Heap)
  | 0, _, _, _ => none
  | d + 1, a0, a1, a2 => impl_Heap_show.b (impl_Heap_show.r K d) K a0 a1 a2
theorem impl_Heap_show.r_ev {K : Nat} : ∀ (d : Nat) {a0 : impl_Heap} {a1 : impl_Val} {a2 : Int} {r : ByteArray × impl_Heap}, impl_Heap_show.r K d a0 a1 a2 = some r → E 39 [(.ptr a0.q), (.agg (a1.e.map .d)), (.d (.p (.int .i64 a2)))] = some ([(.d (.p (.string r.1)))], [(.ptr [(.own true 5 (r.2.Envs.map impl_EnvCell.e)), (.own true 2 (r.2.Clos.map impl_Clo.e)), (.own true 4 (r.2.Twos.map impl_Two.e)), (.own true 2 (r.2.Refs.map impl_Val.e))])]) := by
  intro d
  induction d with
  | zero => intro a0 a1 a2 r h; cases h
  | succ d ih => intro a0 a1 a2 r h; exact impl_Heap_show.b_ev ih h
def impl_Heap_show.f (K : Nat) (a0 : impl_Heap) (a1 : impl_Val) (a2 : Int) : Option (ByteArray × impl_Heap) := impl_Heap_show.r K K a0 a1 a2
theorem impl_Heap_show.ev {K : Nat} {a0 : impl_Heap} {a1 : impl_Val} {a2 : Int} {r : ByteArray × impl_Heap} (h : impl_Heap_show.f K a0 a1 a2 = some r) : E 39 [(.ptr a0.q), (.agg (a1.e.map .d)), (.d (.p (.int .i64 a2)))] = some ([(.d (.p (.string r.1)))], [(.ptr [(.own true 5 (r.2.Envs.map impl_EnvCell.e)), (.own true 2 (r.2.Clos.map impl_Clo.e)), (.own true 4 (r.2.Twos.map impl_Two.e)), (.own true 2 (r.2.Refs.map impl_Val.e))])]) := impl_Heap_show.r_ev K h
def impl_machine_give.enc (r : impl_machine) : Res := ([], [(.ptr r.q)])
def impl_machine_give.f  (K : Nat) (a0 : impl_machine) (a1 : impl_Val) : Option (impl_machine) := some (⟨a0.Heap, a0.l, a0.uses, 1, a0.node, a0.env, a1, a0.frames, a0.events, a0.stuck⟩ : impl_machine)
theorem impl_machine_give.ev   {K : Nat} {a0 : impl_machine} {a1 : impl_Val} {r : impl_machine} (h : impl_machine_give.f  K a0 a1 = some r) : E 94 [(.ptr a0.q), (.agg (a1.e.map .d))] = some ([], [(.ptr r.q)]) := by
  refine Ev_intro (fn := Tryz.f94) rfl (by kernel_rfl) (c := _) rfl ⟨rfl, by simp⟩ (vs := [(.ptr 11 0 1 0), (.agg [(.d (.p (.int .i64 a1.Kind))), (.d (.p (.int .i64 a1.N)))])]) (h0 := ((((((((Hp.nil.put 11 1000 (1, (some (.row true true 5 (a0.Heap.Envs.map impl_EnvCell.e))))).put 11 1001 (1, (some (.row true true 2 (a0.Heap.Clos.map impl_Clo.e))))).put 11 1002 (1, (some (.row true true 4 (a0.Heap.Twos.map impl_Two.e))))).put 11 1003 (1, (some (.row true true 2 (a0.Heap.Refs.map impl_Val.e))))).put 11 1005 (1, (some (.row true true 2 (a0.uses.map impl_Bind.e))))).put 11 1011 (1, (some (.row true true 5 (a0.frames.map impl_frame.e))))).put 11 1012 (1, (some (.row true true 3 (a0.events.map impl_Event.e))))).put 11 0 (1, (some (.box [(.own 11 1000 1), (.own 11 1001 1), (.own 11 1002 1), (.own 11 1003 1), (.d (.l true 7 (a0.l.map impl_Node.e))), (.own 11 1005 1), (.d (.p (.int .i64 a0.do_))), (.d (.p (.int .i64 a0.node))), (.d (.p (.int .i64 a0.env))), (.d (.p (.int .i64 a0.v_.Kind))), (.d (.p (.int .i64 a0.v_.N))), (.own 11 1011 1), (.own 11 1012 1), (.d (.p (.bool a0.stuck)))]))))) (by kernel_rfl) (evP_spec _ ?_)
  unfold impl_machine_give.f at h
  refine ⟨[[], [], [7, 8], [6], [6], [6, 999999, 3], [], [], []], [[], [], [999999, 3], [], [], [], [], [], []], by kernel_rfl, ?_⟩
  exact retE (enc := impl_machine_give.enc) h (by kernel_rfl)
def impl_machine_done.enc (r : impl_machine) : Res := ([], [(.ptr r.q)])
def impl_machine_done.f  (K : Nat) (a0 : impl_machine) (a1 : Int) (a2 : impl_Val) : Option (impl_machine) := gd ((a0.events.length + 1) * 24 ≤ 140737488355328) ((impl_machine_give.f K (⟨a0.Heap, a0.l, a0.uses, a0.do_, a0.node, a0.env, a0.v_, a0.frames, (a0.events ++ ([(⟨2, a1, a2.Kind⟩ : impl_Event)] : List impl_Event)), a0.stuck⟩ : impl_machine) a2).bind fun y1 => (some y1))
theorem impl_machine_done.ev   {K : Nat} {a0 : impl_machine} {a1 : Int} {a2 : impl_Val} {r : impl_machine} (h : impl_machine_done.f  K a0 a1 a2 = some r) : E 68 [(.ptr a0.q), (.d (.p (.int .i64 a1))), (.agg (a2.e.map .d))] = some ([], [(.ptr r.q)]) := by
  refine Ev_intro (fn := Tryz.f68) rfl (by kernel_rfl) (c := _) rfl ⟨rfl, by simp⟩ (vs := [(.ptr 22 0 1 0), (.d (.p (.int .i64 a1))), (.agg [(.d (.p (.int .i64 a2.Kind))), (.d (.p (.int .i64 a2.N)))])]) (h0 := ((((((((Hp.nil.put 22 1000 (1, (some (.row true true 5 (a0.Heap.Envs.map impl_EnvCell.e))))).put 22 1001 (1, (some (.row true true 2 (a0.Heap.Clos.map impl_Clo.e))))).put 22 1002 (1, (some (.row true true 4 (a0.Heap.Twos.map impl_Two.e))))).put 22 1003 (1, (some (.row true true 2 (a0.Heap.Refs.map impl_Val.e))))).put 22 1005 (1, (some (.row true true 2 (a0.uses.map impl_Bind.e))))).put 22 1011 (1, (some (.row true true 5 (a0.frames.map impl_frame.e))))).put 22 1012 (1, (some (.row true true 3 (a0.events.map impl_Event.e))))).put 22 0 (1, (some (.box [(.own 22 1000 1), (.own 22 1001 1), (.own 22 1002 1), (.own 22 1003 1), (.d (.l true 7 (a0.l.map impl_Node.e))), (.own 22 1005 1), (.d (.p (.int .i64 a0.do_))), (.d (.p (.int .i64 a0.node))), (.d (.p (.int .i64 a0.env))), (.d (.p (.int .i64 a0.v_.Kind))), (.d (.p (.int .i64 a0.v_.N))), (.own 22 1011 1), (.own 22 1012 1), (.d (.p (.bool a0.stuck)))]))))) (by kernel_rfl) (evP_spec _ ?_)
  unfold impl_machine_done.f at h
  refine goR ?_
  refine ⟨[[], [], [12, 13, 15], [12, 13, 15], [12, 13, 15], [], [8, 9, 10], [8, 9, 10], [], [8, 9, 10], [], [], [], []], [], by kernel_rfl, ?_⟩
  refine eqM (([(⟨2, a1, a2.Kind⟩ : impl_Event)] : List impl_Event).map impl_Event.e) rfl ?_
  refine gdG h fun hc h => ?_
  refine anM (apB hc) ?_
  refine eqM ((a0.events ++ ([(⟨2, a1, a2.Kind⟩ : impl_Event)] : List impl_Event)).map impl_Event.e) (mApp rfl rfl) ?_
  refine Re.mk 22 [(0, (.ptr 22 0 1 0)), (5, (.ptr 5 0 2 0))] [(5, 0, 2, (some (.box [(.d (.p (.int .i64 a2.Kind))), (.d (.p (.int .i64 a2.N)))]))), (22, 0, 1, (some (.box [(.own 22 1000 2), (.own 22 1001 2), (.own 22 1002 2), (.own 22 1003 2), (.d (.l true 7 (a0.l.map impl_Node.e))), (.own 22 1005 2), (.d (.p (.int .i64 a0.do_))), (.d (.p (.int .i64 a0.node))), (.d (.p (.int .i64 a0.env))), (.d (.p (.int .i64 a0.v_.Kind))), (.d (.p (.int .i64 a0.v_.N))), (.own 22 1011 2), (.own 22 1012 2), (.d (.p (.bool a0.stuck)))]))), (22, 1000, 2, (some (.row true true 5 (a0.Heap.Envs.map impl_EnvCell.e)))), (22, 1001, 2, (some (.row true true 2 (a0.Heap.Clos.map impl_Clo.e)))), (22, 1002, 2, (some (.row true true 4 (a0.Heap.Twos.map impl_Two.e)))), (22, 1003, 2, (some (.row true true 2 (a0.Heap.Refs.map impl_Val.e)))), (22, 1005, 2, (some (.row true true 2 (a0.uses.map impl_Bind.e)))), (22, 1011, 2, (some (.row true true 5 (a0.frames.map impl_frame.e)))), (22, 1012, 2, (some (.row true true 3 ((a0.events ++ ([(⟨2, a1, a2.Kind⟩ : impl_Event)] : List impl_Event)).map impl_Event.e))))] (by exact ⟨rfl, ⟨(by kernel_rfl), (by kernel_rfl), trivial⟩, ⟨(by kernel_rfl), (by kernel_rfl), (by kernel_rfl), (by kernel_rfl), (by kernel_rfl), (by kernel_rfl), (by kernel_rfl), (by kernel_rfl), (by kernel_rfl), trivial⟩⟩) ?_
  intro e hp
  refine bindG h fun y1 hy2 h => ?_
  refine exM ([], [(.ptr y1.q)]) ?_ ?_
  · exact impl_machine_give.ev hy2
  exact retE (enc := impl_machine_done.enc) h (by kernel_rfl)
def impl_Heap_lookUp.enc (r : impl_Val × Bool × impl_Heap) : Res := ([(.agg (r.1.e.map .d)), (.d (.p (.bool r.2.1)))], [(.ptr [(.own true 5 (r.2.2.Envs.map impl_EnvCell.e)), (.own true 2 (r.2.2.Clos.map impl_Clo.e)), (.own true 4 (r.2.2.Twos.map impl_Two.e)), (.own true 2 (r.2.2.Refs.map impl_Val.e))])])
def impl_Heap_lookUp.en (a0 : impl_Heap) (a1 : Int) (a2 : impl_Bind) (r : impl_Val × Bool × impl_Heap) (S : St) : Prop := endV tb md 92 Tryz.f92 [(.ptr a0.q), (.d (.p (.int .i64 a1))), (.agg (a2.e.map .d))] .ret S = some (impl_Heap_lookUp.enc r)
def impl_Heap_lookUp.l0 (a0 : impl_Heap) (a2 : impl_Bind) (K : Nat) : Nat → Int → Option ((impl_Val × Bool × impl_Heap) ⊕ Unit)
  | 0, _ => none
  | k + 1, v1 => if v1 ≥ 0 then ((at_ a0.Envs v1).bind fun x3 => (jn (fun (v4 : Bool) => if v4 = true then (some (.inl (x3.Val, true, a0))) else (impl_Heap_lookUp.l0 a0 a2 K k x3.Next)) (fun j => if x3.Node = a2.Node then (j (decide (x3.Role = a2.Role))) else (j false)))) else (some (.inr ()))
def impl_Heap_lookUp.f  (K : Nat) (a0 : impl_Heap) (a1 : Int) (a2 : impl_Bind) : Option (impl_Val × Bool × impl_Heap) := jn (fun (_ : Unit) => some ((⟨0, 0⟩ : impl_Val), false, a0)) (fun j => lb (impl_Heap_lookUp.l0 a0 a2 K K a1) (fun r => some r) (fun (_ : Unit) => j ()))
theorem impl_Heap_lookUp.ev   {K : Nat} {a0 : impl_Heap} {a1 : Int} {a2 : impl_Bind} {r : impl_Val × Bool × impl_Heap} (h : impl_Heap_lookUp.f  K a0 a1 a2 = some r) : E 92 [(.ptr a0.q), (.d (.p (.int .i64 a1))), (.agg (a2.e.map .d))] = some ([(.agg (r.1.e.map .d)), (.d (.p (.bool r.2.1)))], [(.ptr [(.own true 5 (r.2.2.Envs.map impl_EnvCell.e)), (.own true 2 (r.2.2.Clos.map impl_Clo.e)), (.own true 4 (r.2.2.Twos.map impl_Two.e)), (.own true 2 (r.2.2.Refs.map impl_Val.e))])]) := by
  refine Ev_intro (fn := Tryz.f92) rfl (by kernel_rfl) (c := _) rfl ⟨rfl, by simp⟩ (vs := [(.ptr 41 0 1 0), (.d (.p (.int .i64 a1))), (.agg [(.d (.p (.int .i64 a2.Node))), (.d (.p (.int .i64 a2.Role)))])]) (h0 := (((((Hp.nil.put 41 1000 (1, (some (.row true true 5 (a0.Envs.map impl_EnvCell.e))))).put 41 1001 (1, (some (.row true true 2 (a0.Clos.map impl_Clo.e))))).put 41 1002 (1, (some (.row true true 4 (a0.Twos.map impl_Two.e))))).put 41 1003 (1, (some (.row true true 2 (a0.Refs.map impl_Val.e))))).put 41 0 (1, (some (.box [(.own 41 1000 1), (.own 41 1001 1), (.own 41 1002 1), (.own 41 1003 1)]))))) (by kernel_rfl) (evP_spec _ ?_)
  unfold impl_Heap_lookUp.f at h
  refine seqJ h 41 (fun x => [(6, (.ptr 6 0 2 0))]) (fun x => [(6, 0, 2, (some (.box [(.d (.p (.int .i64 0))), (.d (.p (.int .i64 0)))]))), (41, 0, 1, (some (.box [(.own 41 1000 2), (.own 41 1001 2), (.own 41 1002 2), (.own 41 1003 2)]))), (41, 1000, 2, (some (.row true true 5 (a0.Envs.map impl_EnvCell.e)))), (41, 1001, 2, (some (.row true true 2 (a0.Clos.map impl_Clo.e)))), (41, 1002, 2, (some (.row true true 4 (a0.Twos.map impl_Two.e)))), (41, 1003, 2, (some (.row true true 2 (a0.Refs.map impl_Val.e))))]) (fun J h => ?_) ?_
  · refine loopB (α := Int) (a := a1) 41 (fun x => [(0, (.ptr 41 0 1 0)), (1, (.d (.p (.int .i64 x)))), (5, (.ptr 5 0 2 0)), (6, (.ptr 6 0 2 0))]) (fun x => [(5, 0, 2, (some (.box [(.d (.p (.int .i64 a2.Node))), (.d (.p (.int .i64 a2.Role)))]))), (6, 0, 2, (some (.box [(.d (.p (.int .i64 0))), (.d (.p (.int .i64 0)))]))), (41, 0, 1, (some (.box [(.own 41 1000 2), (.own 41 1001 2), (.own 41 1002 2), (.own 41 1003 2)]))), (41, 1000, 2, (some (.row true true 5 (a0.Envs.map impl_EnvCell.e)))), (41, 1001, 2, (some (.row true true 2 (a0.Clos.map impl_Clo.e)))), (41, 1002, 2, (some (.row true true 4 (a0.Twos.map impl_Two.e)))), (41, 1003, 2, (some (.row true true 2 (a0.Refs.map impl_Val.e))))]) (fun k x => impl_Heap_lookUp.l0 a0 a2 K k x) (impl_Heap_lookUp.en a0 a1 a2) 0 (fun x => [(6, (.ptr 6 0 2 0))]) (fun x => [(6, 0, 2, (some (.box [(.d (.p (.int .i64 0))), (.d (.p (.int .i64 0)))]))), (41, 0, 1, (some (.box [(.own 41 1000 2), (.own 41 1001 2), (.own 41 1002 2), (.own 41 1003 2)]))), (41, 1000, 2, (some (.row true true 5 (a0.Envs.map impl_EnvCell.e)))), (41, 1001, 2, (some (.row true true 2 (a0.Clos.map impl_Clo.e)))), (41, 1002, 2, (some (.row true true 4 (a0.Twos.map impl_Two.e)))), (41, 1003, 2, (some (.row true true 2 (a0.Refs.map impl_Val.e))))]) h (fun _ => rfl) ?_ ⟨rfl, ⟨(by kernel_rfl), (by kernel_rfl), (by kernel_rfl), (by kernel_rfl), trivial⟩, ⟨(by kernel_rfl), (by kernel_rfl), (by kernel_rfl), (by kernel_rfl), (by kernel_rfl), (by kernel_rfl), (by kernel_rfl), trivial⟩⟩ ?_ ?_
    · rintro k v1 r h e hp
      replace h : impl_Heap_lookUp.l0 a0 a2 K (k + 1) v1 = some r := h
      unfold impl_Heap_lookUp.l0 at h
      refine goS ?_
      try ((with_reducible apply cdX); exact rfl)
      refine iteF h (fun c2 h => ?_) (fun c2 h => ?_)
      · refine goS ?_
        refine goR ?_
        refine bindG h fun x3 hx3 h => ?_
        refine anM (at_ix rfl hx3) ?_
        refine exM (impl_EnvCell.e x3) (at_get rfl hx3) ?_
        refine Re.mk 41 [(0, (.ptr 41 0 1 0)), (1, (.d (.p (.int .i64 v1)))), (5, (.ptr 5 0 2 0)), (6, (.ptr 6 0 2 0)), (8, (.ptr 8 0 2 0))] [(5, 0, 2, (some (.box [(.d (.p (.int .i64 a2.Node))), (.d (.p (.int .i64 a2.Role)))]))), (6, 0, 2, (some (.box [(.d (.p (.int .i64 0))), (.d (.p (.int .i64 0)))]))), (8, 0, 2, (some (.box [(.d (.p (.int .i64 x3.Node))), (.d (.p (.int .i64 x3.Role))), (.d (.p (.int .i64 x3.Val.Kind))), (.d (.p (.int .i64 x3.Val.N))), (.d (.p (.int .i64 x3.Next)))]))), (41, 0, 1, (some (.box [(.own 41 1000 2), (.own 41 1001 2), (.own 41 1002 2), (.own 41 1003 2)]))), (41, 1000, 2, (some (.row true true 5 (a0.Envs.map impl_EnvCell.e)))), (41, 1001, 2, (some (.row true true 2 (a0.Clos.map impl_Clo.e)))), (41, 1002, 2, (some (.row true true 4 (a0.Twos.map impl_Two.e)))), (41, 1003, 2, (some (.row true true 2 (a0.Refs.map impl_Val.e))))] (by exact ⟨rfl, ⟨(by kernel_rfl), (by kernel_rfl), (by kernel_rfl), (by kernel_rfl), (by kernel_rfl), trivial⟩, ⟨(by kernel_rfl), (by kernel_rfl), (by kernel_rfl), (by kernel_rfl), (by kernel_rfl), (by kernel_rfl), (by kernel_rfl), (by kernel_rfl), trivial⟩⟩) ?_
        intro e hp
        refine seqJ h 41 (fun x => [(0, (.ptr 41 0 1 0)), (1, (.d (.p (.int .i64 v1)))), (5, (.ptr 5 0 2 0)), (6, (.ptr 6 0 2 0)), (8, (.ptr 8 0 2 0)), (37, (.d (.p (.bool x))))]) (fun x => [(5, 0, 2, (some (.box [(.d (.p (.int .i64 a2.Node))), (.d (.p (.int .i64 a2.Role)))]))), (6, 0, 2, (some (.box [(.d (.p (.int .i64 0))), (.d (.p (.int .i64 0)))]))), (8, 0, 2, (some (.box [(.d (.p (.int .i64 x3.Node))), (.d (.p (.int .i64 x3.Role))), (.d (.p (.int .i64 x3.Val.Kind))), (.d (.p (.int .i64 x3.Val.N))), (.d (.p (.int .i64 x3.Next)))]))), (41, 0, 1, (some (.box [(.own 41 1000 2), (.own 41 1001 2), (.own 41 1002 2), (.own 41 1003 2)]))), (41, 1000, 2, (some (.row true true 5 (a0.Envs.map impl_EnvCell.e)))), (41, 1001, 2, (some (.row true true 2 (a0.Clos.map impl_Clo.e)))), (41, 1002, 2, (some (.row true true 4 (a0.Twos.map impl_Two.e)))), (41, 1003, 2, (some (.row true true 2 (a0.Refs.map impl_Val.e))))]) (fun J h => ?_) ?_
        · try ((with_reducible apply cdX); exact rfl)
          refine iteF h (fun c5 h => ?_) (fun c5 h => ?_)
          · refine Ask.T rfl ?_
            refine Ask.T rfl ?_
            refine Ask.T rfl ?_
            refine Ask.T rfl ?_
            refine Ask.T rfl ?_
            exact ⟨(decide (x3.Role = a2.Role)), h, ⟨rfl, ⟨(by kernel_rfl), (by kernel_rfl), (by kernel_rfl), (by kernel_rfl), (by kernel_rfl), (by kernel_rfl), trivial⟩, ⟨(by kernel_rfl), (by kernel_rfl), (by kernel_rfl), (by kernel_rfl), (by kernel_rfl), (by kernel_rfl), (by kernel_rfl), (by kernel_rfl), trivial⟩⟩⟩
          · refine Ask.F rfl ?_
            refine Ask.F rfl ?_
            refine Ask.F rfl ?_
            refine Ask.F rfl ?_
            refine Ask.F rfl ?_
            exact ⟨false, h, ⟨rfl, ⟨(by kernel_rfl), (by kernel_rfl), (by kernel_rfl), (by kernel_rfl), (by kernel_rfl), (by kernel_rfl), trivial⟩, ⟨(by kernel_rfl), (by kernel_rfl), (by kernel_rfl), (by kernel_rfl), (by kernel_rfl), (by kernel_rfl), (by kernel_rfl), (by kernel_rfl), trivial⟩⟩⟩
        · rintro v4 h e hp
          try ((with_reducible apply cdX); exact rfl)
          refine ifB h (fun c6 h => ?_) (fun c6 h => ?_)
          · refine goS ?_
            exact lqL h rfl
          · refine anM (at_ix rfl hx3) ?_
            refine anM (at_lt rfl hx3) ?_
            refine exM (impl_EnvCell.e x3) (at_get rfl hx3) ?_
            exact ⟨x3.Next, h, ⟨rfl, ⟨(by kernel_rfl), (by kernel_rfl), (by kernel_rfl), (by kernel_rfl), trivial⟩, ⟨(by kernel_rfl), (by kernel_rfl), (by kernel_rfl), (by kernel_rfl), (by kernel_rfl), (by kernel_rfl), (by kernel_rfl), trivial⟩⟩⟩
      · refine lqR h ?_
        exact ⟨rfl, ⟨(by kernel_rfl), trivial⟩, ⟨(by kernel_rfl), (by kernel_rfl), (by kernel_rfl), (by kernel_rfl), (by kernel_rfl), (by kernel_rfl), trivial⟩⟩
    · intro r' S' h q
      exact retE (enc := impl_Heap_lookUp.enc) h q
    · rintro _ S' h ⟨qn, ⟨qa0, _⟩, ⟨qb0, qb1, qb2, qb3, qb4, qb5, _⟩⟩
      exact ⟨(), h, ⟨qn, ⟨qa0, trivial⟩, ⟨qb0, qb1, qb2, qb3, qb4, qb5, trivial⟩⟩⟩
  · rintro _ h e hp
    refine goS ?_
    exact retE (enc := impl_Heap_lookUp.enc) h (by kernel_rfl)
def impl_machine_cell.enc (r : Int × impl_machine) : Res := ([(.d (.p (.int .i64 r.1)))], [(.ptr [(.own true 5 (r.2.Heap.Envs.map impl_EnvCell.e)), (.own true 2 (r.2.Heap.Clos.map impl_Clo.e)), (.own true 4 (r.2.Heap.Twos.map impl_Two.e)), (.own true 2 (r.2.Heap.Refs.map impl_Val.e)), (.d (.l true 7 (r.2.l.map impl_Node.e))), (.own true 2 (r.2.uses.map impl_Bind.e)), (.d (.p (.int .i64 r.2.do_))), (.d (.p (.int .i64 r.2.node))), (.d (.p (.int .i64 r.2.env))), (.d (.p (.int .i64 r.2.v_.Kind))), (.d (.p (.int .i64 r.2.v_.N))), (.own true 5 (r.2.frames.map impl_frame.e)), (.own true 3 (r.2.events.map impl_Event.e)), (.d (.p (.bool r.2.stuck)))])])
def impl_machine_cell.f  (K : Nat) (a0 : impl_machine) (a1 : Int) (a2 : Int) (a3 : impl_Val) (a4 : Int) : Option (Int × impl_machine) := gd ((a0.Heap.Envs.length + 1) * 40 ≤ 140737488355328) (some ((w64 (((a0.Heap.Envs ++ ([(⟨a1, a2, a3, a4⟩ : impl_EnvCell)] : List impl_EnvCell)).length : Int) - 1)), (⟨(⟨(a0.Heap.Envs ++ ([(⟨a1, a2, a3, a4⟩ : impl_EnvCell)] : List impl_EnvCell)), a0.Heap.Clos, a0.Heap.Twos, a0.Heap.Refs⟩ : impl_Heap), a0.l, a0.uses, a0.do_, a0.node, a0.env, a0.v_, a0.frames, a0.events, a0.stuck⟩ : impl_machine)))
theorem impl_machine_cell.ev   {K : Nat} {a0 : impl_machine} {a1 : Int} {a2 : Int} {a3 : impl_Val} {a4 : Int} {r : Int × impl_machine} (h : impl_machine_cell.f  K a0 a1 a2 a3 a4 = some r) : E 67 [(.ptr a0.q), (.d (.p (.int .i64 a1))), (.d (.p (.int .i64 a2))), (.agg (a3.e.map .d)), (.d (.p (.int .i64 a4)))] = some ([(.d (.p (.int .i64 r.1)))], [(.ptr [(.own true 5 (r.2.Heap.Envs.map impl_EnvCell.e)), (.own true 2 (r.2.Heap.Clos.map impl_Clo.e)), (.own true 4 (r.2.Heap.Twos.map impl_Two.e)), (.own true 2 (r.2.Heap.Refs.map impl_Val.e)), (.d (.l true 7 (r.2.l.map impl_Node.e))), (.own true 2 (r.2.uses.map impl_Bind.e)), (.d (.p (.int .i64 r.2.do_))), (.d (.p (.int .i64 r.2.node))), (.d (.p (.int .i64 r.2.env))), (.d (.p (.int .i64 r.2.v_.Kind))), (.d (.p (.int .i64 r.2.v_.N))), (.own true 5 (r.2.frames.map impl_frame.e)), (.own true 3 (r.2.events.map impl_Event.e)), (.d (.p (.bool r.2.stuck)))])]) := by
  refine Ev_intro (fn := Tryz.f67) rfl (by kernel_rfl) (c := _) rfl ⟨rfl, by simp⟩ (vs := [(.ptr 34 0 1 0), (.d (.p (.int .i64 a1))), (.d (.p (.int .i64 a2))), (.agg [(.d (.p (.int .i64 a3.Kind))), (.d (.p (.int .i64 a3.N)))]), (.d (.p (.int .i64 a4)))]) (h0 := ((((((((Hp.nil.put 34 1000 (1, (some (.row true true 5 (a0.Heap.Envs.map impl_EnvCell.e))))).put 34 1001 (1, (some (.row true true 2 (a0.Heap.Clos.map impl_Clo.e))))).put 34 1002 (1, (some (.row true true 4 (a0.Heap.Twos.map impl_Two.e))))).put 34 1003 (1, (some (.row true true 2 (a0.Heap.Refs.map impl_Val.e))))).put 34 1005 (1, (some (.row true true 2 (a0.uses.map impl_Bind.e))))).put 34 1011 (1, (some (.row true true 5 (a0.frames.map impl_frame.e))))).put 34 1012 (1, (some (.row true true 3 (a0.events.map impl_Event.e))))).put 34 0 (1, (some (.box [(.own 34 1000 1), (.own 34 1001 1), (.own 34 1002 1), (.own 34 1003 1), (.d (.l true 7 (a0.l.map impl_Node.e))), (.own 34 1005 1), (.d (.p (.int .i64 a0.do_))), (.d (.p (.int .i64 a0.node))), (.d (.p (.int .i64 a0.env))), (.d (.p (.int .i64 a0.v_.Kind))), (.d (.p (.int .i64 a0.v_.N))), (.own 34 1011 1), (.own 34 1012 1), (.d (.p (.bool a0.stuck)))]))))) (by kernel_rfl) (evP_spec _ ?_)
  unfold impl_machine_cell.f at h
  refine goR ?_
  refine ⟨[[], [], [19, 22], [19, 22], [19, 22], [19, 22], [], [], [13, 14, 15, 16], [], [], [13, 14, 15, 16], [], [], [], [], []], [], by kernel_rfl, ?_⟩
  refine eqM (([(⟨a1, a2, a3, a4⟩ : impl_EnvCell)] : List impl_EnvCell).map impl_EnvCell.e) rfl ?_
  refine gdG h fun hc h => ?_
  refine anM (apB hc) ?_
  refine eqM ((a0.Heap.Envs ++ ([(⟨a1, a2, a3, a4⟩ : impl_EnvCell)] : List impl_EnvCell)).map impl_EnvCell.e) (mApp rfl rfl) ?_
  refine Re.mk 34 [(0, (.ptr 34 0 1 0))] [(34, 0, 1, (some (.box [(.own 34 1000 2), (.own 34 1001 2), (.own 34 1002 2), (.own 34 1003 2), (.d (.l true 7 (a0.l.map impl_Node.e))), (.own 34 1005 2), (.d (.p (.int .i64 a0.do_))), (.d (.p (.int .i64 a0.node))), (.d (.p (.int .i64 a0.env))), (.d (.p (.int .i64 a0.v_.Kind))), (.d (.p (.int .i64 a0.v_.N))), (.own 34 1011 2), (.own 34 1012 2), (.d (.p (.bool a0.stuck)))]))), (34, 1000, 2, (some (.row true true 5 ((a0.Heap.Envs ++ ([(⟨a1, a2, a3, a4⟩ : impl_EnvCell)] : List impl_EnvCell)).map impl_EnvCell.e)))), (34, 1001, 2, (some (.row true true 2 (a0.Heap.Clos.map impl_Clo.e)))), (34, 1002, 2, (some (.row true true 4 (a0.Heap.Twos.map impl_Two.e)))), (34, 1003, 2, (some (.row true true 2 (a0.Heap.Refs.map impl_Val.e)))), (34, 1005, 2, (some (.row true true 2 (a0.uses.map impl_Bind.e)))), (34, 1011, 2, (some (.row true true 5 (a0.frames.map impl_frame.e)))), (34, 1012, 2, (some (.row true true 3 (a0.events.map impl_Event.e))))] (by exact ⟨rfl, ⟨(by kernel_rfl), trivial⟩, ⟨(by kernel_rfl), (by kernel_rfl), (by kernel_rfl), (by kernel_rfl), (by kernel_rfl), (by kernel_rfl), (by kernel_rfl), (by kernel_rfl), trivial⟩⟩) ?_
  intro e hp
  refine eqM (((a0.Heap.Envs ++ ([(⟨a1, a2, a3, a4⟩ : impl_EnvCell)] : List impl_EnvCell)).length : Int) : Int) (mLen rfl) ?_
  exact retE (enc := impl_machine_cell.enc) h (by kernel_rfl)
def impl_machine_push.enc (r : impl_machine) : Res := ([], [(.ptr r.q)])
def impl_machine_push.f  (K : Nat) (a0 : impl_machine) (a1 : impl_frame) : Option (impl_machine) := gd ((a0.frames.length + 1) * 40 ≤ 140737488355328) (some (⟨a0.Heap, a0.l, a0.uses, a0.do_, a0.node, a0.env, a0.v_, (a0.frames ++ ([a1] : List impl_frame)), a0.events, a0.stuck⟩ : impl_machine))
theorem impl_machine_push.ev   {K : Nat} {a0 : impl_machine} {a1 : impl_frame} {r : impl_machine} (h : impl_machine_push.f  K a0 a1 = some r) : E 93 [(.ptr a0.q), (.agg (a1.e.map .d))] = some ([], [(.ptr r.q)]) := by
  refine Ev_intro (fn := Tryz.f93) rfl (by kernel_rfl) (c := _) rfl ⟨rfl, by simp⟩ (vs := [(.ptr 14 0 1 0), (.agg [(.d (.p (.int .i64 a1.wait))), (.d (.p (.int .i64 a1.node))), (.d (.p (.int .i64 a1.env))), (.d (.p (.int .i64 a1.v_.Kind))), (.d (.p (.int .i64 a1.v_.N)))])]) (h0 := ((((((((Hp.nil.put 14 1000 (1, (some (.row true true 5 (a0.Heap.Envs.map impl_EnvCell.e))))).put 14 1001 (1, (some (.row true true 2 (a0.Heap.Clos.map impl_Clo.e))))).put 14 1002 (1, (some (.row true true 4 (a0.Heap.Twos.map impl_Two.e))))).put 14 1003 (1, (some (.row true true 2 (a0.Heap.Refs.map impl_Val.e))))).put 14 1005 (1, (some (.row true true 2 (a0.uses.map impl_Bind.e))))).put 14 1011 (1, (some (.row true true 5 (a0.frames.map impl_frame.e))))).put 14 1012 (1, (some (.row true true 3 (a0.events.map impl_Event.e))))).put 14 0 (1, (some (.box [(.own 14 1000 1), (.own 14 1001 1), (.own 14 1002 1), (.own 14 1003 1), (.d (.l true 7 (a0.l.map impl_Node.e))), (.own 14 1005 1), (.d (.p (.int .i64 a0.do_))), (.d (.p (.int .i64 a0.node))), (.d (.p (.int .i64 a0.env))), (.d (.p (.int .i64 a0.v_.Kind))), (.d (.p (.int .i64 a0.v_.N))), (.own 14 1011 1), (.own 14 1012 1), (.d (.p (.bool a0.stuck)))]))))) (by kernel_rfl) (evP_spec _ ?_)
  unfold impl_machine_push.f at h
  refine ⟨[[], [], [9, 10], [9, 10], [9, 10], [6, 7, 8], [6, 7, 8], [], [], [], []], [], by kernel_rfl, ?_⟩
  refine eqM (([a1] : List impl_frame).map impl_frame.e) rfl ?_
  refine gdG h fun hc h => ?_
  refine anM (apB hc) ?_
  refine eqM ((a0.frames ++ ([a1] : List impl_frame)).map impl_frame.e) (mApp rfl rfl) ?_
  exact retE (enc := impl_machine_push.enc) h (by kernel_rfl)
def impl_machine_pass.enc (r : impl_machine) : Res := ([], [(.ptr r.q)])
def impl_machine_pass.f  (K : Nat) (a0 : impl_machine) (a1 : Int) : Option (impl_machine) := (impl_machine_push.f K a0 (⟨0, a1, 0, (⟨0, 0⟩ : impl_Val)⟩ : impl_frame)).bind fun y1 => (some y1)
theorem impl_machine_pass.ev   {K : Nat} {a0 : impl_machine} {a1 : Int} {r : impl_machine} (h : impl_machine_pass.f  K a0 a1 = some r) : E 66 [(.ptr a0.q), (.d (.p (.int .i64 a1)))] = some ([], [(.ptr r.q)]) := by
  refine Ev_intro (fn := Tryz.f66) rfl (by kernel_rfl) (c := _) rfl ⟨rfl, by simp⟩ (vs := [(.ptr 8 0 1 0), (.d (.p (.int .i64 a1)))]) (h0 := ((((((((Hp.nil.put 8 1000 (1, (some (.row true true 5 (a0.Heap.Envs.map impl_EnvCell.e))))).put 8 1001 (1, (some (.row true true 2 (a0.Heap.Clos.map impl_Clo.e))))).put 8 1002 (1, (some (.row true true 4 (a0.Heap.Twos.map impl_Two.e))))).put 8 1003 (1, (some (.row true true 2 (a0.Heap.Refs.map impl_Val.e))))).put 8 1005 (1, (some (.row true true 2 (a0.uses.map impl_Bind.e))))).put 8 1011 (1, (some (.row true true 5 (a0.frames.map impl_frame.e))))).put 8 1012 (1, (some (.row true true 3 (a0.events.map impl_Event.e))))).put 8 0 (1, (some (.box [(.own 8 1000 1), (.own 8 1001 1), (.own 8 1002 1), (.own 8 1003 1), (.d (.l true 7 (a0.l.map impl_Node.e))), (.own 8 1005 1), (.d (.p (.int .i64 a0.do_))), (.d (.p (.int .i64 a0.node))), (.d (.p (.int .i64 a0.env))), (.d (.p (.int .i64 a0.v_.Kind))), (.d (.p (.int .i64 a0.v_.N))), (.own 8 1011 1), (.own 8 1012 1), (.d (.p (.bool a0.stuck)))]))))) (by kernel_rfl) (evP_spec _ ?_)
  unfold impl_machine_pass.f at h
  refine bindG h fun y1 hy2 h => ?_
  refine exM ([], [(.ptr y1.q)]) ?_ ?_
  · exact impl_machine_push.ev hy2
  exact retE (enc := impl_machine_pass.enc) h (by kernel_rfl)
end Go.Proofs.YtifomiglajcanaaGreatDoorE
