/- For Go functions of the program: their Lean functions, and that Go answers as these do. Written by a program of the session (evprint.py). -/
import Derived.Test.YtfkanjgfjejgiaaDoorZO1
set_option linter.unusedSimpArgs false
set_option linter.unusedVariables false
namespace Go.Proofs.YtfkanjgfjejgiaaDoorE
open Go.Ev
set_option linter.unusedVariables false
set_option maxRecDepth 100000
set_option maxHeartbeats 4000000
def spec_OuterOf.enc (r : List impl_Bind) : Res := ([(.own true 2 (r.map impl_Bind.e))], [])
def spec_OuterOf.l1 (v17 : List impl_Bind) (y24 : impl_Bind) (K : Nat) : Nat → Bool → Int → Option (Bool)
  | 0, _, _ => none
  | k + 1, v46, v47 => if v47 < (v17.length : Int) then (jn (fun (v50 : Bool) => spec_OuterOf.l1 v17 y24 K k v50 (w64 (v47 + 1))) (fun j => if v46 = true then (j true) else ((at_ v17 v47).bind fun x52 => (j ((decide (x52.Node = y24.Node)) && ((decide (x52.Role = y24.Role)) && true)))))) else (some v46)
def spec_OuterOf.l0 (a0 : List impl_Node) (a1 : Int) (K : Nat) : Nat → Int → (List impl_Bind) → Option (List impl_Bind)
  | 0, _, _ => none
  | k + 1, v16, v17 => (at_ a0 a1).bind fun x19 => (if v16 ≤ x19.A then (jn (fun (v21 : List impl_Bind) => spec_OuterOf.l0 a0 a1 K k (w64 (v16 + 1)) v21) (fun j => (at_ a0 v16).bind fun x22 => (if (!(decide (x22.Kind = 1))) = true then (j v17) else ((spec_BinderOf.f K a0 v16).bind fun y24 => (jn (fun (v26 : Bool) => if v26 = true then (j v17) else (jn (fun (v45 : Bool) => if (!v45) = true then (gd ((v17.length + 1) * 16 ≤ 140737488355328) (j (v17 ++ ([y24] : List impl_Bind)))) else (j v17)) (fun j => (spec_OuterOf.l1 v17 y24 K K false 0).bind fun (v48 : Bool) => j v48))) (fun j => if y24.Node < a1 then (if y24.Node ≥ 0 then ((spec_StartOf.f K a0 x19.A).bind fun y29 => (if y24.Node ≥ y29 then (j true) else (if y24.Node < 0 then (j true) else (if y24.Node = a1 then ((spec_l16Param.f K x19).bind fun y34 => (j (decide (y24.Role = y34)))) else (j false))))) else (if y24.Node < 0 then (j true) else (if y24.Node = a1 then ((spec_l16Param.f K x19).bind fun y38 => (j (decide (y24.Role = y38)))) else (j false)))) else (if y24.Node < 0 then (j true) else (if y24.Node = a1 then ((spec_l16Param.f K x19).bind fun y42 => (j (decide (y24.Role = y42)))) else (j false))))))))) else (some v17))
def spec_OuterOf.f  (K : Nat) (a0 : List impl_Node) (a1 : Int) : Option (List impl_Bind) := jn (fun (v1 : Bool) => if v1 = true then (some ([] : List impl_Bind)) else (jn (fun (v12 : List impl_Bind) => some v12) (fun j => (at_ a0 a1).bind fun x13 => ((spec_StartOf.f K a0 x13.A).bind fun y14 => ((spec_OuterOf.l0 a0 a1 K K y14 ([] : List impl_Bind)).bind fun (v18 : List impl_Bind) => j v18))))) (fun j => (spec_NodesOk.f K a0).bind fun y2 => (if (!y2) = true then (j true) else ((spec_l1In.f K a1 0 (w64 ((a0.length : Int) - 1))).bind fun y5 => (if (!y5) = true then (j true) else ((at_ a0 a1).bind fun x8 => ((spec_l16Lambda.f K x8).bind fun y9 => (j (!y9))))))))
theorem spec_OuterOf.ev   {K : Nat} {a0 : List impl_Node} {a1 : Int} {r : List impl_Bind} (h : spec_OuterOf.f  K a0 a1 = some r) : E 21 [(.d (.l true 7 (a0.map impl_Node.e))), (.d (.p (.int .i64 a1)))] = some ([(.own true 2 (r.map impl_Bind.e))], []) := by
  refine Ev_intro (fn := Tryd.f21) rfl (by kernel_rfl) (c := _) rfl ⟨rfl, by simp⟩ rfl (evP_spec _ ?_)
  unfold spec_OuterOf.f at h
  refine eqM (([] : List impl_Bind).map impl_Bind.e) rfl ?_
  refine goS ?_
  refine seqJ h 120 (fun x => [(0, (.d (.l true 7 (a0.map impl_Node.e)))), (1, (.d (.p (.int .i64 a1)))), (5, (.own 5 1 2)), (29, (.d (.p (.bool x))))]) (fun x => [(5, 1, 2, (some (.row true true 2 (([] : List impl_Bind).map impl_Bind.e))))]) (fun J h => ?_) ?_
  · refine bindG h fun y2 hy3 h => ?_
    refine exM ([(.d (.p (.bool y2)))], []) ?_ ?_
    · exact spec_NodesOk.ev hy3
    refine ifB h (fun c4 h => ?_) (fun c4 h => ?_)
    · refine Ask.T rfl ?_
      refine Ask.T rfl ?_
      refine Ask.T rfl ?_
      refine Ask.T rfl ?_
      refine Ask.T rfl ?_
      refine Ask.T rfl ?_
      refine Ask.T rfl ?_
      refine Ask.T rfl ?_
      refine Ask.T rfl ?_
      refine Ask.T rfl ?_
      refine Ask.T rfl ?_
      refine Ask.T rfl ?_
      refine Ask.T rfl ?_
      exact ⟨true, h, ⟨rfl, ⟨rfl, rfl, rfl, rfl, trivial⟩, ⟨rfl, trivial⟩⟩⟩
    · refine Ask.F rfl ?_
      refine Ask.F rfl ?_
      refine eqM ((a0.length : Int) : Int) (mLen rfl) ?_
      refine Ask.F rfl ?_
      refine Ask.F rfl ?_
      refine bindG h fun y5 hy6 h => ?_
      refine exM ([(.d (.p (.bool y5)))], []) ?_ ?_
      · exact spec_l1In.ev hy6
      refine Ask.F rfl ?_
      refine Ask.F rfl ?_
      refine ifB h (fun c7 h => ?_) (fun c7 h => ?_)
      · refine Ask.T rfl ?_
        refine Ask.T rfl ?_
        refine Ask.T rfl ?_
        refine Ask.T rfl ?_
        refine Ask.T rfl ?_
        refine Ask.T rfl ?_
        exact ⟨true, h, ⟨rfl, ⟨rfl, rfl, rfl, rfl, trivial⟩, ⟨rfl, trivial⟩⟩⟩
      · refine Ask.F rfl ?_
        refine Ask.F rfl ?_
        refine bindG h fun x8 hx8 h => ?_
        refine anM (at_ix rfl hx8) ?_
        refine Ask.F rfl ?_
        refine exM (impl_Node.e x8) (at_get rfl hx8) ?_
        refine Ask.F rfl ?_
        refine bindG h fun y9 hy10 h => ?_
        refine exM ([(.d (.p (.bool y9)))], []) ?_ ?_
        · exact spec_l16Lambda.ev hy10
        refine Ask.F rfl ?_
        refine Ask.F rfl ?_
        exact ⟨(!y9), h, ⟨rfl, ⟨rfl, rfl, rfl, rfl, trivial⟩, ⟨rfl, trivial⟩⟩⟩
  · rintro v1 h e hp
    try ((with_reducible apply cdX); exact rfl)
    refine ifB h (fun c11 h => ?_) (fun c11 h => ?_)
    · exact retE (enc := spec_OuterOf.enc) h rfl
    · refine seqJ h 120 (fun x => [(5, (.own 5 1 2))]) (fun x => [(5, 1, 2, (some (.row true true 2 (x.map impl_Bind.e))))]) (fun J h => ?_) ?_
      · refine bindG h fun x13 hx13 h => ?_
        refine anM (at_ix rfl hx13) ?_
        refine exM (impl_Node.e x13) (at_get rfl hx13) ?_
        refine bindG h fun y14 hy15 h => ?_
        refine exM ([(.d (.p (.int .i64 y14)))], []) ?_ ?_
        · exact spec_StartOf.ev hy15
        refine loopX (α := Int × List impl_Bind) (a := (y14, ([] : List impl_Bind))) 120 (fun x => [(0, (.d (.l true 7 (a0.map impl_Node.e)))), (1, (.d (.p (.int .i64 a1)))), (5, (.own 5 1 2)), (6, (.d (.p (.int .i64 x.1))))]) (fun x => [(5, 1, 2, (some (.row true true 2 (x.2.map impl_Bind.e))))]) (fun k x => spec_OuterOf.l0 a0 a1 K k x.1 x.2) 0 (fun x => [(5, (.own 5 1 2))]) (fun x => [(5, 1, 2, (some (.row true true 2 (x.map impl_Bind.e))))]) h (fun _ => rfl) ?_ ⟨rfl, ⟨rfl, rfl, rfl, rfl, trivial⟩, ⟨rfl, trivial⟩⟩ ?_
        · rintro k ⟨v16, v17⟩ r h e hp
          replace h : spec_OuterOf.l0 a0 a1 K (k + 1) v16 v17 = some r := h
          unfold spec_OuterOf.l0 at h
          refine goS ?_
          refine bindG h fun x19 hx19 h => ?_
          refine anM (at_ix rfl hx19) ?_
          refine exM (impl_Node.e x19) (at_get rfl hx19) ?_
          refine iteF h (fun c20 h => ?_) (fun c20 h => ?_)
          · refine seqJ h 120 (fun x => [(0, (.d (.l true 7 (a0.map impl_Node.e)))), (1, (.d (.p (.int .i64 a1)))), (5, (.own 5 1 2)), (6, (.d (.p (.int .i64 v16))))]) (fun x => [(5, 1, 2, (some (.row true true 2 (x.map impl_Bind.e))))]) (fun J h => ?_) ?_
            · refine goS ?_
              refine bindG h fun x22 hx22 h => ?_
              refine anM (at_ix rfl hx22) ?_
              refine exM (impl_Node.e x22) (at_get rfl hx22) ?_
              refine ifB h (fun c23 h => ?_) (fun c23 h => ?_)
              · exact ⟨v17, h, ⟨rfl, ⟨rfl, rfl, rfl, rfl, trivial⟩, ⟨rfl, trivial⟩⟩⟩
              · refine goS ?_
                refine bindG h fun y24 hy25 h => ?_
                refine exM ([(.agg (y24.e.map .d))], []) ?_ ?_
                · exact spec_BinderOf.ev hy25
                refine goS ?_
                refine seqJ h 120 (fun x => [(0, (.d (.l true 7 (a0.map impl_Node.e)))), (1, (.d (.p (.int .i64 a1)))), (5, (.own 5 1 2)), (6, (.d (.p (.int .i64 v16)))), (7, (.ptr 7 0 2 0)), (97, (.d (.p (.bool x))))]) (fun x => [(5, 1, 2, (some (.row true true 2 (v17.map impl_Bind.e)))), (7, 0, 2, (some (.box [(.d (.p (.int .i64 y24.Node))), (.d (.p (.int .i64 y24.Role)))])))]) (fun J h => ?_) ?_
                · refine ⟨[[], [], [], [], [], [], [], [], [], [], [71, 72, 73, 74], [71, 72, 73, 74], [], [], [], [66, 67], [66, 67], [66, 67], [66, 67], [], [], [], [], [], [], [], [], [], [], [], [], [], [92, 93, 94], [92, 93, 94], [], [], [88, 89], [88, 89], [88, 89], [], [], []], [], by kernel_rfl, ?_⟩
                  refine iteF h (fun c27 h => ?_) (fun c27 h => ?_)
                  · refine Ask.T rfl ?_
                    refine Ask.T rfl ?_
                    refine Ask.T rfl ?_
                    refine iteF h (fun c28 h => ?_) (fun c28 h => ?_)
                    · refine Ask.T rfl ?_
                      refine Ask.T rfl ?_
                      refine Ask.T rfl ?_
                      refine Ask.T rfl ?_
                      refine Ask.T rfl ?_
                      refine anM (at_ix rfl hx19) ?_
                      refine Ask.T rfl ?_
                      refine Ask.T rfl ?_
                      refine exM (impl_Node.e x19) (at_get rfl hx19) ?_
                      refine Ask.T rfl ?_
                      refine bindG h fun y29 hy30 h => ?_
                      refine exM ([(.d (.p (.int .i64 y29)))], []) ?_ ?_
                      · exact spec_StartOf.ev hy30
                      refine Ask.T rfl ?_
                      refine Ask.T rfl ?_
                      refine iteF h (fun c31 h => ?_) (fun c31 h => ?_)
                      · refine Ask.T rfl ?_
                        refine Ask.T rfl ?_
                        refine Ask.T rfl ?_
                        refine Ask.T rfl ?_
                        refine Ask.T rfl ?_
                        refine Ask.T rfl ?_
                        refine Ask.T rfl ?_
                        refine Ask.T rfl ?_
                        refine Ask.T rfl ?_
                        refine Ask.T rfl ?_
                        exact ⟨true, h, ⟨rfl, ⟨rfl, rfl, rfl, rfl, rfl, rfl, trivial⟩, ⟨rfl, rfl, trivial⟩⟩⟩
                      · refine Ask.F rfl ?_
                        refine Ask.F rfl ?_
                        refine Ask.F rfl ?_
                        refine iteF h (fun c32 h => ?_) (fun c32 h => ?_)
                        · refine Ask.T rfl ?_
                          refine Ask.T rfl ?_
                          refine Ask.T rfl ?_
                          refine Ask.T rfl ?_
                          refine Ask.T rfl ?_
                          refine Ask.T rfl ?_
                          exact ⟨true, h, ⟨rfl, ⟨rfl, rfl, rfl, rfl, rfl, rfl, trivial⟩, ⟨rfl, rfl, trivial⟩⟩⟩
                        · refine Ask.F rfl ?_
                          refine Ask.F rfl ?_
                          refine Ask.F rfl ?_
                          refine Ask.F rfl ?_
                          refine iteF h (fun c33 h => ?_) (fun c33 h => ?_)
                          · refine Ask.T rfl ?_
                            refine Ask.T rfl ?_
                            refine Ask.T rfl ?_
                            refine Ask.T rfl ?_
                            refine anM (at_ix rfl hx19) ?_
                            refine Ask.T rfl ?_
                            refine exM (impl_Node.e x19) (at_get rfl hx19) ?_
                            refine Ask.T rfl ?_
                            refine bindG h fun y34 hy35 h => ?_
                            refine exM ([(.d (.p (.int .i64 y34)))], []) ?_ ?_
                            · exact spec_l16Param.ev hy35
                            refine Ask.T rfl ?_
                            refine Ask.F rfl ?_
                            refine Ask.T rfl ?_
                            refine Ask.F rfl ?_
                            exact ⟨(decide (y24.Role = y34)), h, ⟨rfl, ⟨rfl, rfl, rfl, rfl, rfl, rfl, trivial⟩, ⟨rfl, rfl, trivial⟩⟩⟩
                          · refine Ask.F rfl ?_
                            refine Ask.F rfl ?_
                            refine Ask.F rfl ?_
                            refine Ask.F rfl ?_
                            refine Ask.F rfl ?_
                            refine Ask.F rfl ?_
                            refine Ask.F rfl ?_
                            refine Ask.F rfl ?_
                            refine Ask.F rfl ?_
                            refine Ask.F rfl ?_
                            exact ⟨false, h, ⟨rfl, ⟨rfl, rfl, rfl, rfl, rfl, rfl, trivial⟩, ⟨rfl, rfl, trivial⟩⟩⟩
                    · refine Ask.F rfl ?_
                      refine Ask.F rfl ?_
                      refine Ask.F rfl ?_
                      refine Ask.F rfl ?_
                      refine Ask.F rfl ?_
                      refine Ask.F rfl ?_
                      refine Ask.F rfl ?_
                      refine Ask.F rfl ?_
                      refine Ask.F rfl ?_
                      refine Ask.F rfl ?_
                      refine Ask.F rfl ?_
                      refine Ask.F rfl ?_
                      refine Ask.F rfl ?_
                      refine Ask.F rfl ?_
                      refine iteF h (fun c36 h => ?_) (fun c36 h => ?_)
                      · refine Ask.T rfl ?_
                        refine Ask.T rfl ?_
                        refine Ask.T rfl ?_
                        refine Ask.T rfl ?_
                        refine Ask.T rfl ?_
                        refine Ask.T rfl ?_
                        exact ⟨true, h, ⟨rfl, ⟨rfl, rfl, rfl, rfl, rfl, rfl, trivial⟩, ⟨rfl, rfl, trivial⟩⟩⟩
                      · refine Ask.F rfl ?_
                        refine Ask.F rfl ?_
                        refine Ask.F rfl ?_
                        refine Ask.F rfl ?_
                        refine iteF h (fun c37 h => ?_) (fun c37 h => ?_)
                        · refine Ask.T rfl ?_
                          refine Ask.T rfl ?_
                          refine Ask.T rfl ?_
                          refine Ask.T rfl ?_
                          refine anM (at_ix rfl hx19) ?_
                          refine Ask.T rfl ?_
                          refine exM (impl_Node.e x19) (at_get rfl hx19) ?_
                          refine Ask.T rfl ?_
                          refine bindG h fun y38 hy39 h => ?_
                          refine exM ([(.d (.p (.int .i64 y38)))], []) ?_ ?_
                          · exact spec_l16Param.ev hy39
                          refine Ask.T rfl ?_
                          refine Ask.F rfl ?_
                          refine Ask.T rfl ?_
                          refine Ask.F rfl ?_
                          exact ⟨(decide (y24.Role = y38)), h, ⟨rfl, ⟨rfl, rfl, rfl, rfl, rfl, rfl, trivial⟩, ⟨rfl, rfl, trivial⟩⟩⟩
                        · refine Ask.F rfl ?_
                          refine Ask.F rfl ?_
                          refine Ask.F rfl ?_
                          refine Ask.F rfl ?_
                          refine Ask.F rfl ?_
                          refine Ask.F rfl ?_
                          refine Ask.F rfl ?_
                          refine Ask.F rfl ?_
                          refine Ask.F rfl ?_
                          refine Ask.F rfl ?_
                          exact ⟨false, h, ⟨rfl, ⟨rfl, rfl, rfl, rfl, rfl, rfl, trivial⟩, ⟨rfl, rfl, trivial⟩⟩⟩
                  · refine Ask.F rfl ?_
                    refine Ask.F rfl ?_
                    refine Ask.F rfl ?_
                    refine Ask.F rfl ?_
                    refine Ask.F rfl ?_
                    refine Ask.F rfl ?_
                    refine Ask.F rfl ?_
                    refine Ask.F rfl ?_
                    refine Ask.F rfl ?_
                    refine Ask.F rfl ?_
                    refine Ask.F rfl ?_
                    refine Ask.F rfl ?_
                    refine Ask.F rfl ?_
                    refine Ask.F rfl ?_
                    refine Ask.F rfl ?_
                    refine Ask.F rfl ?_
                    refine Ask.F rfl ?_
                    refine Ask.F rfl ?_
                    refine iteF h (fun c40 h => ?_) (fun c40 h => ?_)
                    · refine Ask.T rfl ?_
                      refine Ask.T rfl ?_
                      refine Ask.T rfl ?_
                      refine Ask.T rfl ?_
                      refine Ask.T rfl ?_
                      refine Ask.T rfl ?_
                      exact ⟨true, h, ⟨rfl, ⟨rfl, rfl, rfl, rfl, rfl, rfl, trivial⟩, ⟨rfl, rfl, trivial⟩⟩⟩
                    · refine Ask.F rfl ?_
                      refine Ask.F rfl ?_
                      refine Ask.F rfl ?_
                      refine Ask.F rfl ?_
                      refine iteF h (fun c41 h => ?_) (fun c41 h => ?_)
                      · refine Ask.T rfl ?_
                        refine Ask.T rfl ?_
                        refine Ask.T rfl ?_
                        refine Ask.T rfl ?_
                        refine anM (at_ix rfl hx19) ?_
                        refine Ask.T rfl ?_
                        refine exM (impl_Node.e x19) (at_get rfl hx19) ?_
                        refine Ask.T rfl ?_
                        refine bindG h fun y42 hy43 h => ?_
                        refine exM ([(.d (.p (.int .i64 y42)))], []) ?_ ?_
                        · exact spec_l16Param.ev hy43
                        refine Ask.T rfl ?_
                        refine Ask.F rfl ?_
                        refine Ask.T rfl ?_
                        refine Ask.F rfl ?_
                        exact ⟨(decide (y24.Role = y42)), h, ⟨rfl, ⟨rfl, rfl, rfl, rfl, rfl, rfl, trivial⟩, ⟨rfl, rfl, trivial⟩⟩⟩
                      · refine Ask.F rfl ?_
                        refine Ask.F rfl ?_
                        refine Ask.F rfl ?_
                        refine Ask.F rfl ?_
                        refine Ask.F rfl ?_
                        refine Ask.F rfl ?_
                        refine Ask.F rfl ?_
                        refine Ask.F rfl ?_
                        refine Ask.F rfl ?_
                        refine Ask.F rfl ?_
                        exact ⟨false, h, ⟨rfl, ⟨rfl, rfl, rfl, rfl, rfl, rfl, trivial⟩, ⟨rfl, rfl, trivial⟩⟩⟩
                · rintro v26 h e hp
                  try ((with_reducible apply cdX); exact rfl)
                  refine ifB h (fun c44 h => ?_) (fun c44 h => ?_)
                  · exact ⟨v17, h, ⟨rfl, ⟨rfl, rfl, rfl, rfl, trivial⟩, ⟨rfl, trivial⟩⟩⟩
                  · refine seqJ h 120 (fun x => [(0, (.d (.l true 7 (a0.map impl_Node.e)))), (1, (.d (.p (.int .i64 a1)))), (5, (.own 5 1 2)), (6, (.d (.p (.int .i64 v16)))), (7, (.ptr 7 0 2 0)), (8, (.d (.p (.bool x))))]) (fun x => [(5, 1, 2, (some (.row true true 2 (v17.map impl_Bind.e)))), (7, 0, 2, (some (.box [(.d (.p (.int .i64 y24.Node))), (.d (.p (.int .i64 y24.Role)))])))]) (fun J h => ?_) ?_
                    · refine loopX (α := Bool × Int) (a := (false, 0)) 120 (fun x => [(0, (.d (.l true 7 (a0.map impl_Node.e)))), (1, (.d (.p (.int .i64 a1)))), (5, (.own 5 1 2)), (6, (.d (.p (.int .i64 v16)))), (7, (.ptr 7 0 2 0)), (8, (.d (.p (.bool x.1)))), (9, (.d (.p (.int .i64 x.2))))]) (fun x => [(5, 1, 2, (some (.row true true 2 (v17.map impl_Bind.e)))), (7, 0, 2, (some (.box [(.d (.p (.int .i64 y24.Node))), (.d (.p (.int .i64 y24.Role)))])))]) (fun k x => spec_OuterOf.l1 v17 y24 K k x.1 x.2) 2 (fun x => [(0, (.d (.l true 7 (a0.map impl_Node.e)))), (1, (.d (.p (.int .i64 a1)))), (5, (.own 5 1 2)), (6, (.d (.p (.int .i64 v16)))), (7, (.ptr 7 0 2 0)), (8, (.d (.p (.bool x))))]) (fun x => [(5, 1, 2, (some (.row true true 2 (v17.map impl_Bind.e)))), (7, 0, 2, (some (.box [(.d (.p (.int .i64 y24.Node))), (.d (.p (.int .i64 y24.Role)))])))]) h (fun _ => rfl) ?_ ⟨rfl, ⟨rfl, rfl, rfl, rfl, rfl, rfl, rfl, trivial⟩, ⟨rfl, rfl, trivial⟩⟩ ?_
                      · rintro k ⟨v46, v47⟩ r h e hp
                        replace h : spec_OuterOf.l1 v17 y24 K (k + 1) v46 v47 = some r := h
                        unfold spec_OuterOf.l1 at h
                        refine goS ?_
                        refine eqM ((v17.length : Int) : Int) (mLen rfl) ?_
                        refine iteF h (fun c49 h => ?_) (fun c49 h => ?_)
                        · refine seqJ h 120 (fun x => [(0, (.d (.l true 7 (a0.map impl_Node.e)))), (1, (.d (.p (.int .i64 a1)))), (5, (.own 5 1 2)), (6, (.d (.p (.int .i64 v16)))), (7, (.ptr 7 0 2 0)), (8, (.d (.p (.bool x)))), (9, (.d (.p (.int .i64 v47))))]) (fun x => [(5, 1, 2, (some (.row true true 2 (v17.map impl_Bind.e)))), (7, 0, 2, (some (.box [(.d (.p (.int .i64 y24.Node))), (.d (.p (.int .i64 y24.Role)))])))]) (fun J h => ?_) ?_
                          · refine ⟨[[], [], [], [], [110], [110], [108, 109], [], [], []], [], by kernel_rfl, ?_⟩
                            refine ifB h (fun c51 h => ?_) (fun c51 h => ?_)
                            · refine Ask.T rfl ?_
                              refine Ask.T rfl ?_
                              refine Ask.T rfl ?_
                              refine Ask.T rfl ?_
                              refine Ask.T rfl ?_
                              refine Ask.T rfl ?_
                              exact ⟨true, h, ⟨rfl, ⟨rfl, rfl, rfl, rfl, rfl, rfl, rfl, trivial⟩, ⟨rfl, rfl, trivial⟩⟩⟩
                            · refine Ask.F rfl ?_
                              refine Ask.F rfl ?_
                              refine bindG h fun x52 hx52 h => ?_
                              refine anM (at_ix rfl hx52) ?_
                              refine Ask.F rfl ?_
                              refine exM (impl_Bind.e x52) (at_get rfl hx52) ?_
                              refine Ask.F rfl ?_
                              refine Ask.F rfl ?_
                              refine anM eqT43 ?_
                              refine Ask.F rfl ?_
                              exact ⟨((decide (x52.Node = y24.Node)) && ((decide (x52.Role = y24.Role)) && true)), h, ⟨rfl, ⟨rfl, rfl, rfl, rfl, rfl, rfl, rfl, trivial⟩, ⟨rfl, rfl, trivial⟩⟩⟩
                          · rintro v50 h e hp
                            exact ⟨(v50, (w64 (v47 + 1))), h, ⟨rfl, ⟨rfl, rfl, rfl, rfl, rfl, rfl, rfl, trivial⟩, ⟨rfl, rfl, trivial⟩⟩⟩
                        · refine exQ h ?_
                          exact ⟨rfl, ⟨rfl, rfl, rfl, rfl, rfl, rfl, trivial⟩, ⟨rfl, rfl, trivial⟩⟩
                      · rintro v48 S' h ⟨qn, ⟨qa0, qa1, qa2, qa3, qa4, qa5, _⟩, ⟨qb0, qb1, _⟩⟩
                        exact ⟨v48, h, ⟨qn, ⟨qa0, qa1, qa2, qa3, qa4, qa5, trivial⟩, ⟨qb0, qb1, trivial⟩⟩⟩
                    · rintro v45 h e hp
                      try ((with_reducible apply cdX); exact rfl)
                      refine ifB h (fun c53 h => ?_) (fun c53 h => ?_)
                      · refine eqM (([y24] : List impl_Bind).map impl_Bind.e) rfl ?_
                        refine gdG h fun hc h => ?_
                        refine anM (apB hc) ?_
                        refine eqM ((v17 ++ ([y24] : List impl_Bind)).map impl_Bind.e) (mApp rfl rfl) ?_
                        exact ⟨(v17 ++ ([y24] : List impl_Bind)), h, ⟨rfl, ⟨rfl, rfl, rfl, rfl, trivial⟩, ⟨rfl, trivial⟩⟩⟩
                      · exact ⟨v17, h, ⟨rfl, ⟨rfl, rfl, rfl, rfl, trivial⟩, ⟨rfl, trivial⟩⟩⟩
            · rintro v21 h e hp
              exact ⟨((w64 (v16 + 1)), v21), h, ⟨rfl, ⟨rfl, rfl, rfl, rfl, trivial⟩, ⟨rfl, trivial⟩⟩⟩
          · refine exQ h ?_
            exact ⟨rfl, ⟨rfl, trivial⟩, ⟨rfl, trivial⟩⟩
        · rintro v18 S' h ⟨qn, ⟨qa0, _⟩, ⟨qb0, _⟩⟩
          exact ⟨v18, h, ⟨qn, ⟨qa0, trivial⟩, ⟨qb0, trivial⟩⟩⟩
      · rintro v12 h e hp
        exact retE (enc := spec_OuterOf.enc) h rfl
def impl_LambdasOf_1.enc (r : Bool) : Res := ([(.d (.p (.bool r)))], [])
def impl_LambdasOf_1.f  (K : Nat) (a0 : impl_Node) : Option (Bool) := if a0.Kind = 3 then (some true) else (some (decide (a0.Kind = 6)))
theorem impl_LambdasOf_1.ev   {K : Nat} {a0 : impl_Node} {r : Bool} (h : impl_LambdasOf_1.f  K a0 = some r) : E 53 [(.agg (a0.e.map .d))] = some ([(.d (.p (.bool r)))], []) := by
  refine Ev_intro (fn := Tryd.f53) rfl (by kernel_rfl) (c := _) rfl ⟨rfl, by simp⟩ rfl (evP_spec _ ?_)
  unfold impl_LambdasOf_1.f at h
  refine goS ?_
  try ((with_reducible apply cdX); exact rfl)
  refine iteF h (fun c1 h => ?_) (fun c1 h => ?_)
  · refine Ask.T rfl ?_
    refine Ask.T rfl ?_
    refine Ask.T rfl ?_
    exact retE (enc := impl_LambdasOf_1.enc) h rfl
  · refine Ask.F rfl ?_
    refine Ask.F rfl ?_
    refine Ask.F rfl ?_
    exact retE (enc := impl_LambdasOf_1.enc) h rfl
def impl_nodesOf.enc (r : List Int) : Res := ([(.own true 1 (r.map eI))], [])
def impl_nodesOf.l0 (a0 : List impl_Node) (K : Nat) : Nat → Int → (List Int) → Option (List Int)
  | 0, _, _ => none
  | k + 1, v5, v6 => if v5 < (a0.length : Int) then (jn (fun (v9 : List Int) => impl_nodesOf.l0 a0 K k (w64 (v5 + 1)) v9) (fun j => (at_ a0 v5).bind fun x10 => ((impl_LambdasOf_1.f K x10).bind fun y11 => (if y11 = true then (gd ((v6.length + 1) * 8 ≤ 140737488355328) (j (v6 ++ ([v5] : List Int)))) else (j v6))))) else (some v6)
def impl_nodesOf.f  (K : Nat) (a0 : List impl_Node) : Option (List Int) := (impl_NodesOk.f K a0).bind fun y1 => (if (!y1) = true then (some ([] : List Int)) else (jn (fun (v4 : List Int) => some v4) (fun j => (impl_nodesOf.l0 a0 K K 0 ([] : List Int)).bind fun (v7 : List Int) => j v7)))
theorem impl_nodesOf.ev   {K : Nat} {a0 : List impl_Node} {r : List Int} (h : impl_nodesOf.f  K a0 = some r) : E 52 [(.d (.l true 7 (a0.map impl_Node.e))), (.d (.p (.func (.func 53) #[] #[])))] = some ([(.own true 1 (r.map eI))], []) := by
  refine Ev_intro (fn := Tryd.f52) rfl (by kernel_rfl) (c := _) rfl ⟨rfl, by simp⟩ rfl (evP_spec _ ?_)
  unfold impl_nodesOf.f at h
  refine goS ?_
  refine bindG h fun y1 hy2 h => ?_
  refine exM ([(.d (.p (.bool y1)))], []) ?_ ?_
  · exact impl_NodesOk.ev hy2
  refine ifB h (fun c3 h => ?_) (fun c3 h => ?_)
  · exact retE (enc := impl_nodesOf.enc) h rfl
  · refine seqJ h 27 (fun x => [(5, (.own 5 1 2))]) (fun x => [(5, 1, 2, (some (.row true true 1 (x.map eI))))]) (fun J h => ?_) ?_
    · refine eqM ((a0.length : Int) : Int) (mLen rfl) ?_
      refine loopX (α := Int × List Int) (a := (0, ([] : List Int))) 27 (fun x => [(1, (.d (.p (.func (.func 53) #[] #[])))), (5, (.own 5 1 2)), (11, (.d (.l true 7 (a0.map impl_Node.e)))), (12, (.d (.p (.int .i64 (a0.length : Int))))), (13, (.d (.p (.int .i64 x.1))))]) (fun x => [(5, 1, 2, (some (.row true true 1 (x.2.map eI))))]) (fun k x => impl_nodesOf.l0 a0 K k x.1 x.2) 0 (fun x => [(5, (.own 5 1 2))]) (fun x => [(5, 1, 2, (some (.row true true 1 (x.map eI))))]) h (fun _ => rfl) ?_ ⟨rfl, ⟨rfl, rfl, rfl, rfl, rfl, trivial⟩, ⟨rfl, trivial⟩⟩ ?_
      · rintro k ⟨v5, v6⟩ r h e hp
        replace h : impl_nodesOf.l0 a0 K (k + 1) v5 v6 = some r := h
        unfold impl_nodesOf.l0 at h
        refine goS ?_
        try ((with_reducible apply cdX); exact rfl)
        refine iteF h (fun c8 h => ?_) (fun c8 h => ?_)
        · refine seqJ h 27 (fun x => [(1, (.d (.p (.func (.func 53) #[] #[])))), (5, (.own 5 1 2)), (11, (.d (.l true 7 (a0.map impl_Node.e)))), (12, (.d (.p (.int .i64 (a0.length : Int))))), (13, (.d (.p (.int .i64 v5))))]) (fun x => [(5, 1, 2, (some (.row true true 1 (x.map eI))))]) (fun J h => ?_) ?_
          · refine goS ?_
            refine bindG h fun x10 hx10 h => ?_
            refine anM (at_ix rfl hx10) ?_
            refine exM (impl_Node.e x10) (at_get rfl hx10) ?_
            refine bindG h fun y11 hy12 h => ?_
            refine exM ([(.d (.p (.bool y11)))], []) ?_ ?_
            · exact impl_LambdasOf_1.ev hy12
            refine ifB h (fun c13 h => ?_) (fun c13 h => ?_)
            · refine eqM (([v5] : List Int).map eI) rfl ?_
              refine gdG h fun hc h => ?_
              refine anM (apB hc) ?_
              refine eqM ((v6 ++ ([v5] : List Int)).map eI) (mApp rfl rfl) ?_
              exact ⟨(v6 ++ ([v5] : List Int)), h, ⟨rfl, ⟨rfl, rfl, rfl, rfl, rfl, trivial⟩, ⟨rfl, trivial⟩⟩⟩
            · exact ⟨v6, h, ⟨rfl, ⟨rfl, rfl, rfl, rfl, rfl, trivial⟩, ⟨rfl, trivial⟩⟩⟩
          · rintro v9 h e hp
            exact ⟨((w64 (v5 + 1)), v9), h, ⟨rfl, ⟨rfl, rfl, rfl, rfl, rfl, trivial⟩, ⟨rfl, trivial⟩⟩⟩
        · refine exQ h ?_
          exact ⟨rfl, ⟨rfl, trivial⟩, ⟨rfl, trivial⟩⟩
      · rintro v7 S' h ⟨qn, ⟨qa0, _⟩, ⟨qb0, _⟩⟩
        exact ⟨v7, h, ⟨qn, ⟨qa0, trivial⟩, ⟨qb0, trivial⟩⟩⟩
    · rintro v4 h e hp
      exact retE (enc := impl_nodesOf.enc) h rfl
def impl_LambdasOf.enc (r : List Int) : Res := ([(.own true 1 (r.map eI))], [])
def impl_LambdasOf.f  (K : Nat) (a0 : List impl_Node) : Option (List Int) := (impl_nodesOf.f K a0).bind fun y1 => (some y1)
theorem impl_LambdasOf.ev   {K : Nat} {a0 : List impl_Node} {r : List Int} (h : impl_LambdasOf.f  K a0 = some r) : E 22 [(.d (.l true 7 (a0.map impl_Node.e)))] = some ([(.own true 1 (r.map eI))], []) := by
  refine Ev_intro (fn := Tryd.f22) rfl (by kernel_rfl) (c := _) rfl ⟨rfl, by simp⟩ rfl (evP_spec _ ?_)
  unfold impl_LambdasOf.f at h
  refine bindG h fun y1 hy2 h => ?_
  refine exM ([(.own true 1 (y1.map eI))], []) ?_ ?_
  · exact impl_nodesOf.ev hy2
  exact retE (enc := impl_LambdasOf.enc) h rfl
def spec_LambdasOf.enc (r : List Int) : Res := ([(.own true 1 (r.map eI))], [])
def spec_LambdasOf.l0 (a0 : List impl_Node) (K : Nat) : Nat → Int → (List Int) → Option (List Int)
  | 0, _, _ => none
  | k + 1, v2, v3 => jn (fun (v5 : Bool) => if v5 = true then (jn (fun (v10 : List Int) => spec_LambdasOf.l0 a0 K k (w64 (v2 + 1)) v10) (fun j => (at_ a0 v2).bind fun x11 => ((spec_l16Lambda.f K x11).bind fun y12 => (if y12 = true then (gd ((v3.length + 1) * 8 ≤ 140737488355328) (j (v3 ++ ([v2] : List Int)))) else (j v3))))) else (some v3)) (fun j => if v2 < (a0.length : Int) then ((spec_NodesOk.f K a0).bind fun y7 => (j y7)) else (j false))
def spec_LambdasOf.f  (K : Nat) (a0 : List impl_Node) : Option (List Int) := jn (fun (v1 : List Int) => some v1) (fun j => (spec_LambdasOf.l0 a0 K K 0 ([] : List Int)).bind fun (v4 : List Int) => j v4)
theorem spec_LambdasOf.ev   {K : Nat} {a0 : List impl_Node} {r : List Int} (h : spec_LambdasOf.f  K a0 = some r) : E 23 [(.d (.l true 7 (a0.map impl_Node.e)))] = some ([(.own true 1 (r.map eI))], []) := by
  refine Ev_intro (fn := Tryd.f23) rfl (by kernel_rfl) (c := _) rfl ⟨rfl, by simp⟩ rfl (evP_spec _ ?_)
  unfold spec_LambdasOf.f at h
  refine eqM (([] : List Int).map eI) rfl ?_
  refine seqJ h 26 (fun x => [(3, (.own 3 1 2))]) (fun x => [(3, 1, 2, (some (.row true true 1 (x.map eI))))]) (fun J h => ?_) ?_
  · refine loopX (α := Int × List Int) (a := (0, ([] : List Int))) 26 (fun x => [(0, (.d (.l true 7 (a0.map impl_Node.e)))), (3, (.own 3 1 2)), (4, (.d (.p (.int .i64 x.1))))]) (fun x => [(3, 1, 2, (some (.row true true 1 (x.2.map eI))))]) (fun k x => spec_LambdasOf.l0 a0 K k x.1 x.2) 0 (fun x => [(3, (.own 3 1 2))]) (fun x => [(3, 1, 2, (some (.row true true 1 (x.map eI))))]) h (fun _ => rfl) ?_ ⟨rfl, ⟨rfl, rfl, rfl, trivial⟩, ⟨rfl, trivial⟩⟩ ?_
    · rintro k ⟨v2, v3⟩ r h e hp
      replace h : spec_LambdasOf.l0 a0 K (k + 1) v2 v3 = some r := h
      unfold spec_LambdasOf.l0 at h
      refine goS ?_
      refine seqJ h 26 (fun x => [(0, (.d (.l true 7 (a0.map impl_Node.e)))), (3, (.own 3 1 2)), (4, (.d (.p (.int .i64 v2)))), (13, (.d (.p (.bool x))))]) (fun x => [(3, 1, 2, (some (.row true true 1 (v3.map eI))))]) (fun J h => ?_) ?_
      · refine eqM ((a0.length : Int) : Int) (mLen rfl) ?_
        refine iteF h (fun c6 h => ?_) (fun c6 h => ?_)
        · refine Ask.T rfl ?_
          refine bindG h fun y7 hy8 h => ?_
          refine exM ([(.d (.p (.bool y7)))], []) ?_ ?_
          · exact spec_NodesOk.ev hy8
          refine Ask.T rfl ?_
          exact ⟨y7, h, ⟨rfl, ⟨rfl, rfl, rfl, rfl, trivial⟩, ⟨rfl, trivial⟩⟩⟩
        · refine Ask.F rfl ?_
          refine Ask.F rfl ?_
          exact ⟨false, h, ⟨rfl, ⟨rfl, rfl, rfl, rfl, trivial⟩, ⟨rfl, trivial⟩⟩⟩
      · rintro v5 h e hp
        try ((with_reducible apply cdX); exact rfl)
        refine ifB h (fun c9 h => ?_) (fun c9 h => ?_)
        · refine seqJ h 26 (fun x => [(0, (.d (.l true 7 (a0.map impl_Node.e)))), (3, (.own 3 1 2)), (4, (.d (.p (.int .i64 v2))))]) (fun x => [(3, 1, 2, (some (.row true true 1 (x.map eI))))]) (fun J h => ?_) ?_
          · refine bindG h fun x11 hx11 h => ?_
            refine anM (at_ix rfl hx11) ?_
            refine exM (impl_Node.e x11) (at_get rfl hx11) ?_
            refine bindG h fun y12 hy13 h => ?_
            refine exM ([(.d (.p (.bool y12)))], []) ?_ ?_
            · exact spec_l16Lambda.ev hy13
            refine ifB h (fun c14 h => ?_) (fun c14 h => ?_)
            · refine eqM (([v2] : List Int).map eI) rfl ?_
              refine gdG h fun hc h => ?_
              refine anM (apB hc) ?_
              refine eqM ((v3 ++ ([v2] : List Int)).map eI) (mApp rfl rfl) ?_
              exact ⟨(v3 ++ ([v2] : List Int)), h, ⟨rfl, ⟨rfl, rfl, rfl, trivial⟩, ⟨rfl, trivial⟩⟩⟩
            · exact ⟨v3, h, ⟨rfl, ⟨rfl, rfl, rfl, trivial⟩, ⟨rfl, trivial⟩⟩⟩
          · rintro v10 h e hp
            exact ⟨((w64 (v2 + 1)), v10), h, ⟨rfl, ⟨rfl, rfl, rfl, trivial⟩, ⟨rfl, trivial⟩⟩⟩
        · refine exQ h ?_
          exact ⟨rfl, ⟨rfl, trivial⟩, ⟨rfl, trivial⟩⟩
    · rintro v4 S' h ⟨qn, ⟨qa0, _⟩, ⟨qb0, _⟩⟩
      exact ⟨v4, h, ⟨qn, ⟨qa0, trivial⟩, ⟨qb0, trivial⟩⟩⟩
  · rintro v1 h e hp
    exact retE (enc := spec_LambdasOf.enc) h rfl
def spec_UsesOf.enc (r : List Int) : Res := ([(.own true 1 (r.map eI))], [])
def spec_UsesOf.l0 (a0 : List impl_Node) (a1 : impl_Bind) (K : Nat) : Nat → Int → (List Int) → Option (List Int)
  | 0, _, _ => none
  | k + 1, v2, v3 => jn (fun (v5 : Bool) => if v5 = true then (jn (fun (v11 : List Int) => spec_UsesOf.l0 a0 a1 K k (w64 (v2 + 1)) v11) (fun j => jn (fun (v12 : Bool) => if v12 = true then (gd ((v3.length + 1) * 8 ≤ 140737488355328) (j (v3 ++ ([v2] : List Int)))) else (j v3)) (fun j => (at_ a0 v2).bind fun x13 => (if x13.Kind = 1 then ((spec_BinderOf.f K a0 v2).bind fun y15 => (j ((decide (y15.Node = a1.Node)) && ((decide (y15.Role = a1.Role)) && true)))) else (j false))))) else (some v3)) (fun j => if v2 < (a0.length : Int) then ((spec_NodesOk.f K a0).bind fun y7 => (if y7 = true then (j (decide (a1.Node ≥ 0))) else (j false))) else (j false))
def spec_UsesOf.f  (K : Nat) (a0 : List impl_Node) (a1 : impl_Bind) : Option (List Int) := jn (fun (v1 : List Int) => some v1) (fun j => (spec_UsesOf.l0 a0 a1 K K 0 ([] : List Int)).bind fun (v4 : List Int) => j v4)
theorem spec_UsesOf.ev   {K : Nat} {a0 : List impl_Node} {a1 : impl_Bind} {r : List Int} (h : spec_UsesOf.f  K a0 a1 = some r) : E 24 [(.d (.l true 7 (a0.map impl_Node.e))), (.agg (a1.e.map .d))] = some ([(.own true 1 (r.map eI))], []) := by
  refine Ev_intro (fn := Tryd.f24) rfl (by kernel_rfl) (c := _) rfl ⟨rfl, by simp⟩ rfl (evP_spec _ ?_)
  unfold spec_UsesOf.f at h
  refine eqM (([] : List Int).map eI) rfl ?_
  refine seqJ h 41 (fun x => [(5, (.own 5 1 2))]) (fun x => [(5, 1, 2, (some (.row true true 1 (x.map eI))))]) (fun J h => ?_) ?_
  · refine loopX (α := Int × List Int) (a := (0, ([] : List Int))) 41 (fun x => [(0, (.d (.l true 7 (a0.map impl_Node.e)))), (3, (.ptr 3 0 2 0)), (5, (.own 5 1 2)), (6, (.d (.p (.int .i64 x.1))))]) (fun x => [(3, 0, 2, (some (.box [(.d (.p (.int .i64 a1.Node))), (.d (.p (.int .i64 a1.Role)))]))), (5, 1, 2, (some (.row true true 1 (x.2.map eI))))]) (fun k x => spec_UsesOf.l0 a0 a1 K k x.1 x.2) 0 (fun x => [(5, (.own 5 1 2))]) (fun x => [(5, 1, 2, (some (.row true true 1 (x.map eI))))]) h (fun _ => rfl) ?_ ⟨rfl, ⟨rfl, rfl, rfl, rfl, trivial⟩, ⟨rfl, rfl, trivial⟩⟩ ?_
    · rintro k ⟨v2, v3⟩ r h e hp
      replace h : spec_UsesOf.l0 a0 a1 K (k + 1) v2 v3 = some r := h
      unfold spec_UsesOf.l0 at h
      refine goS ?_
      refine seqJ h 41 (fun x => [(0, (.d (.l true 7 (a0.map impl_Node.e)))), (3, (.ptr 3 0 2 0)), (5, (.own 5 1 2)), (6, (.d (.p (.int .i64 v2)))), (20, (.d (.p (.bool x))))]) (fun x => [(3, 0, 2, (some (.box [(.d (.p (.int .i64 a1.Node))), (.d (.p (.int .i64 a1.Role)))]))), (5, 1, 2, (some (.row true true 1 (v3.map eI))))]) (fun J h => ?_) ?_
      · refine eqM ((a0.length : Int) : Int) (mLen rfl) ?_
        refine iteF h (fun c6 h => ?_) (fun c6 h => ?_)
        · refine Ask.T rfl ?_
          refine bindG h fun y7 hy8 h => ?_
          refine exM ([(.d (.p (.bool y7)))], []) ?_ ?_
          · exact spec_NodesOk.ev hy8
          refine Ask.T rfl ?_
          refine ifB h (fun c9 h => ?_) (fun c9 h => ?_)
          · refine Ask.T rfl ?_
            refine Ask.T rfl ?_
            refine Ask.T rfl ?_
            exact ⟨(decide (a1.Node ≥ 0)), h, ⟨rfl, ⟨rfl, rfl, rfl, rfl, rfl, trivial⟩, ⟨rfl, rfl, trivial⟩⟩⟩
          · refine Ask.F rfl ?_
            refine Ask.F rfl ?_
            refine Ask.F rfl ?_
            exact ⟨false, h, ⟨rfl, ⟨rfl, rfl, rfl, rfl, rfl, trivial⟩, ⟨rfl, rfl, trivial⟩⟩⟩
        · refine Ask.F rfl ?_
          refine Ask.F rfl ?_
          refine Ask.F rfl ?_
          refine Ask.F rfl ?_
          refine Ask.F rfl ?_
          refine Ask.F rfl ?_
          exact ⟨false, h, ⟨rfl, ⟨rfl, rfl, rfl, rfl, rfl, trivial⟩, ⟨rfl, rfl, trivial⟩⟩⟩
      · rintro v5 h e hp
        try ((with_reducible apply cdX); exact rfl)
        refine ifB h (fun c10 h => ?_) (fun c10 h => ?_)
        · refine seqJ h 41 (fun x => [(0, (.d (.l true 7 (a0.map impl_Node.e)))), (3, (.ptr 3 0 2 0)), (5, (.own 5 1 2)), (6, (.d (.p (.int .i64 v2))))]) (fun x => [(3, 0, 2, (some (.box [(.d (.p (.int .i64 a1.Node))), (.d (.p (.int .i64 a1.Role)))]))), (5, 1, 2, (some (.row true true 1 (x.map eI))))]) (fun J h => ?_) ?_
          · refine seqJ h 41 (fun x => [(0, (.d (.l true 7 (a0.map impl_Node.e)))), (3, (.ptr 3 0 2 0)), (5, (.own 5 1 2)), (6, (.d (.p (.int .i64 v2)))), (35, (.d (.p (.bool x))))]) (fun x => [(3, 0, 2, (some (.box [(.d (.p (.int .i64 a1.Node))), (.d (.p (.int .i64 a1.Role)))]))), (5, 1, 2, (some (.row true true 1 (v3.map eI))))]) (fun J h => ?_) ?_
            · refine ⟨[[], [], [], [], [], [], [], [], [], [33], [32], [], []], [], by kernel_rfl, ?_⟩
              refine bindG h fun x13 hx13 h => ?_
              refine anM (at_ix rfl hx13) ?_
              refine exM (impl_Node.e x13) (at_get rfl hx13) ?_
              refine iteF h (fun c14 h => ?_) (fun c14 h => ?_)
              · refine Ask.T rfl ?_
                refine Ask.T rfl ?_
                refine bindG h fun y15 hy16 h => ?_
                refine exM ([(.agg (y15.e.map .d))], []) ?_ ?_
                · exact spec_BinderOf.ev hy16
                refine Ask.T rfl ?_
                refine Ask.T rfl ?_
                refine anM eqT43 ?_
                refine Ask.T rfl ?_
                exact ⟨((decide (y15.Node = a1.Node)) && ((decide (y15.Role = a1.Role)) && true)), h, ⟨rfl, ⟨rfl, rfl, rfl, rfl, rfl, trivial⟩, ⟨rfl, rfl, trivial⟩⟩⟩
              · refine Ask.F rfl ?_
                refine Ask.F rfl ?_
                refine Ask.F rfl ?_
                refine Ask.F rfl ?_
                refine Ask.F rfl ?_
                exact ⟨false, h, ⟨rfl, ⟨rfl, rfl, rfl, rfl, rfl, trivial⟩, ⟨rfl, rfl, trivial⟩⟩⟩
            · rintro v12 h e hp
              try ((with_reducible apply cdX); exact rfl)
              refine ifB h (fun c17 h => ?_) (fun c17 h => ?_)
              · refine eqM (([v2] : List Int).map eI) rfl ?_
                refine gdG h fun hc h => ?_
                refine anM (apB hc) ?_
                refine eqM ((v3 ++ ([v2] : List Int)).map eI) (mApp rfl rfl) ?_
                exact ⟨(v3 ++ ([v2] : List Int)), h, ⟨rfl, ⟨rfl, rfl, rfl, rfl, trivial⟩, ⟨rfl, rfl, trivial⟩⟩⟩
              · exact ⟨v3, h, ⟨rfl, ⟨rfl, rfl, rfl, rfl, trivial⟩, ⟨rfl, rfl, trivial⟩⟩⟩
          · rintro v11 h e hp
            exact ⟨((w64 (v2 + 1)), v11), h, ⟨rfl, ⟨rfl, rfl, rfl, rfl, trivial⟩, ⟨rfl, rfl, trivial⟩⟩⟩
        · refine exQ h ?_
          exact ⟨rfl, ⟨rfl, trivial⟩, ⟨rfl, trivial⟩⟩
    · rintro v4 S' h ⟨qn, ⟨qa0, _⟩, ⟨qb0, _⟩⟩
      exact ⟨v4, h, ⟨qn, ⟨qa0, trivial⟩, ⟨qb0, trivial⟩⟩⟩
  · rintro v1 h e hp
    exact retE (enc := spec_UsesOf.enc) h rfl
def impl_homeOf.enc (r : Int) : Res := ([(.d (.p (.int .i64 r)))], [])
def impl_homeOf.en (a0 : List impl_Node) (a1 : List Int) (a2 : Int) (r : Int) (S : St) : Prop := endV tb md 54 Tryd.f54 [(.d (.l true 7 (a0.map impl_Node.e))), (.d (.l true 1 (a1.map eI))), (.d (.p (.int .i64 a2)))] .ret S = some (impl_homeOf.enc r)
def impl_homeOf.l0 (a0 : List impl_Node) (a1 : List Int) (K : Nat) : Nat → Int → Option (Int ⊕ Unit)
  | 0, _ => none
  | k + 1, v1 => (at_ a1 v1).bind fun x2 => (if x2 ≥ 0 then (jn (fun (v4 : Bool) => if v4 = true then (some (.inl x2)) else (impl_homeOf.l0 a0 a1 K k x2)) (fun j => (impl_isFun.f K a0 x2).bind fun y5 => (if y5 = true then ((at_ a0 x2).bind fun x8 => (j (decide (x8.A = v1)))) else (j false)))) else (some (.inr ())))
def impl_homeOf.f  (K : Nat) (a0 : List impl_Node) (a1 : List Int) (a2 : Int) : Option (Int) := jn (fun (_ : Unit) => some (-1)) (fun j => lb (impl_homeOf.l0 a0 a1 K K a2) (fun r => some r) (fun (_ : Unit) => j ()))
theorem impl_homeOf.ev   {K : Nat} {a0 : List impl_Node} {a1 : List Int} {a2 : Int} {r : Int} (h : impl_homeOf.f  K a0 a1 a2 = some r) : E 54 [(.d (.l true 7 (a0.map impl_Node.e))), (.d (.l true 1 (a1.map eI))), (.d (.p (.int .i64 a2)))] = some ([(.d (.p (.int .i64 r)))], []) := by
  refine Ev_intro (fn := Tryd.f54) rfl (by kernel_rfl) (c := _) rfl ⟨rfl, by simp⟩ rfl (evP_spec _ ?_)
  unfold impl_homeOf.f at h
  refine seqJ h 34 (fun x => []) (fun x => []) (fun J h => ?_) ?_
  · refine loopB (α := Int) (a := a2) 34 (fun x => [(0, (.d (.l true 7 (a0.map impl_Node.e)))), (1, (.d (.l true 1 (a1.map eI)))), (2, (.d (.p (.int .i64 x))))]) (fun x => []) (fun k x => impl_homeOf.l0 a0 a1 K k x) (impl_homeOf.en a0 a1 a2) 0 (fun x => []) (fun x => []) h (fun _ => rfl) ?_ ⟨rfl, ⟨rfl, rfl, rfl, trivial⟩, trivial⟩ ?_ ?_
    · rintro k v1 r h e hp
      replace h : impl_homeOf.l0 a0 a1 K (k + 1) v1 = some r := h
      unfold impl_homeOf.l0 at h
      refine goS ?_
      refine bindG h fun x2 hx2 h => ?_
      refine anM (at_ix rfl hx2) ?_
      refine exM (eI x2) (at_get rfl hx2) ?_
      refine iteF h (fun c3 h => ?_) (fun c3 h => ?_)
      · refine goS ?_
        refine anM (at_ix rfl hx2) ?_
        refine exM (eI x2) (at_get rfl hx2) ?_
        refine seqJ h 34 (fun x => [(0, (.d (.l true 7 (a0.map impl_Node.e)))), (1, (.d (.l true 1 (a1.map eI)))), (2, (.d (.p (.int .i64 v1)))), (7, (.d (.p (.int .i64 x2)))), (28, (.d (.p (.bool x))))]) (fun x => []) (fun J h => ?_) ?_
        · refine bindG h fun y5 hy6 h => ?_
          refine exM ([(.d (.p (.bool y5)))], []) ?_ ?_
          · exact impl_isFun.ev hy6
          refine ifB h (fun c7 h => ?_) (fun c7 h => ?_)
          · refine Ask.T rfl ?_
            refine Ask.T rfl ?_
            refine bindG h fun x8 hx8 h => ?_
            refine anM (at_ix rfl hx8) ?_
            refine Ask.T rfl ?_
            refine Ask.T rfl ?_
            refine exM (impl_Node.e x8) (at_get rfl hx8) ?_
            refine Ask.T rfl ?_
            refine Ask.T rfl ?_
            refine Ask.T rfl ?_
            exact ⟨(decide (x8.A = v1)), h, ⟨rfl, ⟨rfl, rfl, rfl, rfl, rfl, trivial⟩, trivial⟩⟩
          · refine Ask.F rfl ?_
            refine Ask.F rfl ?_
            refine Ask.F rfl ?_
            refine Ask.F rfl ?_
            refine Ask.F rfl ?_
            refine Ask.F rfl ?_
            refine Ask.F rfl ?_
            exact ⟨false, h, ⟨rfl, ⟨rfl, rfl, rfl, rfl, rfl, trivial⟩, trivial⟩⟩
        · rintro v4 h e hp
          try ((with_reducible apply cdX); exact rfl)
          refine ifB h (fun c9 h => ?_) (fun c9 h => ?_)
          · exact lqL h rfl
          · refine anM (at_ix rfl hx2) ?_
            refine exM (eI x2) (at_get rfl hx2) ?_
            exact ⟨x2, h, ⟨rfl, ⟨rfl, rfl, rfl, trivial⟩, trivial⟩⟩
      · refine lqR h ?_
        exact ⟨rfl, trivial, trivial⟩
    · intro r' S' h q
      exact retE (enc := impl_homeOf.enc) h q
    · rintro _ S' h ⟨qn, ⟨_⟩, ⟨_⟩⟩
      exact ⟨(), h, ⟨qn, trivial, trivial⟩⟩
  · rintro _ h e hp
    exact retE (enc := impl_homeOf.enc) h rfl
def impl_HomeOf.enc (r : Int) : Res := ([(.d (.p (.int .i64 r)))], [])
def impl_HomeOf.f  (K : Nat) (a0 : List impl_Node) (a1 : Int) : Option (Int) := jn (fun (v1 : Bool) => if v1 = true then (some (-1)) else ((impl_parents.f K a0).bind fun y8 => ((impl_homeOf.f K a0 y8 a1).bind fun y10 => (some y10)))) (fun j => (impl_NodesOk.f K a0).bind fun y2 => (if (!y2) = true then (j true) else ((impl_in.f K a1 0 (w64 ((a0.length : Int) - 1))).bind fun y5 => (j (!y5)))))
theorem impl_HomeOf.ev   {K : Nat} {a0 : List impl_Node} {a1 : Int} {r : Int} (h : impl_HomeOf.f  K a0 a1 = some r) : E 26 [(.d (.l true 7 (a0.map impl_Node.e))), (.d (.p (.int .i64 a1)))] = some ([(.d (.p (.int .i64 r)))], []) := by
  refine Ev_intro (fn := Tryd.f26) rfl (by kernel_rfl) (c := _) rfl ⟨rfl, by simp⟩ rfl (evP_spec _ ?_)
  unfold impl_HomeOf.f at h
  refine goS ?_
  refine seqJ h 21 (fun x => [(0, (.d (.l true 7 (a0.map impl_Node.e)))), (1, (.d (.p (.int .i64 a1)))), (15, (.d (.p (.bool x))))]) (fun x => []) (fun J h => ?_) ?_
  · refine bindG h fun y2 hy3 h => ?_
    refine exM ([(.d (.p (.bool y2)))], []) ?_ ?_
    · exact impl_NodesOk.ev hy3
    refine ifB h (fun c4 h => ?_) (fun c4 h => ?_)
    · refine Ask.T rfl ?_
      refine Ask.T rfl ?_
      refine Ask.T rfl ?_
      refine Ask.T rfl ?_
      refine Ask.T rfl ?_
      refine Ask.T rfl ?_
      exact ⟨true, h, ⟨rfl, ⟨rfl, rfl, rfl, trivial⟩, trivial⟩⟩
    · refine Ask.F rfl ?_
      refine Ask.F rfl ?_
      refine eqM ((a0.length : Int) : Int) (mLen rfl) ?_
      refine Ask.F rfl ?_
      refine Ask.F rfl ?_
      refine bindG h fun y5 hy6 h => ?_
      refine exM ([(.d (.p (.bool y5)))], []) ?_ ?_
      · exact impl_in.ev hy6
      refine Ask.F rfl ?_
      refine Ask.F rfl ?_
      exact ⟨(!y5), h, ⟨rfl, ⟨rfl, rfl, rfl, trivial⟩, trivial⟩⟩
  · rintro v1 h e hp
    try ((with_reducible apply cdX); exact rfl)
    refine ifB h (fun c7 h => ?_) (fun c7 h => ?_)
    · exact retE (enc := impl_HomeOf.enc) h rfl
    · refine bindG h fun y8 hy9 h => ?_
      refine exM ([(.own true 1 (y8.map eI))], []) ?_ ?_
      · exact impl_parents.ev hy9
      refine bindG h fun y10 hy11 h => ?_
      refine exM ([(.d (.p (.int .i64 y10)))], []) ?_ ?_
      · exact impl_homeOf.ev hy11
      exact retE (enc := impl_HomeOf.enc) h rfl
def laws_FnOuter.enc (r : Bool) : Res := ([(.d (.p (.bool r)))], [])
def laws_FnOuter.en (a0 : List Int) (r : Bool) (S : St) : Prop := endV tb md 4 Tryd.f4 [(.d (.l true 1 (a0.map eY)))] .ret S = some (laws_FnOuter.enc r)
def laws_FnOuter.l1 (y4 : List impl_Node) (y5 : Int) (y35 : List Int) (K : Nat) : Nat → Bool → Int → Option (Bool)
  | 0, _, _ => none
  | k + 1, v38, v39 => if v39 < (y35.length : Int) then (jn (fun (v42 : Bool) => laws_FnOuter.l1 y4 y5 y35 K k v42 (w64 (v39 + 1))) (fun j => if v38 = true then (j true) else ((at_ y35 v39).bind fun x44 => ((at_ y4 y5).bind fun x45 => (if x44 ≤ x45.A then ((spec_StartOf.f K y4 x45.A).bind fun y47 => (j (decide (x44 ≥ y47)))) else (j false)))))) else (some v38)
def laws_FnOuter.l0 (y4 : List impl_Node) (y5 : Int) (y7 : List impl_Bind) (K : Nat) : Nat → Int → Option (Bool ⊕ Unit)
  | 0, _ => none
  | k + 1, v25 => if v25 < (y7.length : Int) then (jn (fun (v27 : Bool) => if v27 = true then (some (.inl false)) else ((at_ y7 v25).bind fun x34 => ((spec_UsesOf.f K y4 x34).bind fun y35 => (jn (fun (v37 : Bool) => if (!v37) = true then (some (.inl false)) else (laws_FnOuter.l0 y4 y5 y7 K k (w64 (v25 + 1)))) (fun j => (laws_FnOuter.l1 y4 y5 y35 K K false 0).bind fun (v40 : Bool) => j v40))))) (fun j => (at_ y7 v25).bind fun x28 => (if x28.Node < y5 then (j true) else (if x28.Node = y5 then ((at_ y4 y5).bind fun x31 => (if (!(decide (x31.Kind = 6))) = true then (j true) else (j (!(decide (x28.Role = 0)))))) else (j false))))) else (some (.inr ()))
def laws_FnOuter.l2 (y4 : List impl_Node) (y5 : Int) (K : Nat) : Nat → Int → Option (Bool ⊕ Unit)
  | 0, _ => none
  | k + 1, v53 => (at_ y4 y5).bind fun x54 => (if v53 ≤ x54.A then (jn (fun (v56 : Bool) => if v56 = true then (some (.inl false)) else (laws_FnOuter.l2 y4 y5 K k (w64 (v53 + 1)))) (fun j => (at_ y4 v53).bind fun x57 => (if x57.Kind = 1 then ((impl_HomeOf.f K y4 v53).bind fun y59 => (j (decide (y59 > y5)))) else (j false)))) else (some (.inr ())))
def laws_FnOuter.f  (K : Nat) (a0 : List Int) : Option (Bool) := (laws_big.f K a0).bind fun y1 => (if y1 = true then (some true) else ((spec_DrawOuterOf.f K a0).bind fun (y4, y5) => ((impl_OuterOf.f K y4 y5).bind fun y7 => (jn (fun (v9 : Bool) => if v9 = true then (some false) else (if (y7.length : Int) = 0 then (some true) else (jn (fun (v19 : Bool) => if v19 = true then (some false) else (jn (fun (_ : Unit) => jn (fun (_ : Unit) => (at_ y4 y5).bind fun x62 => ((impl_HomeOf.f K y4 x62.A).bind fun y63 => (some (decide (y63 = y5))))) (fun j => (at_ y4 y5).bind fun x50 => ((spec_StartOf.f K y4 x50.A).bind fun y51 => (lb (laws_FnOuter.l2 y4 y5 K K y51) (fun r => some r) (fun (_ : Unit) => j ()))))) (fun j => lb (laws_FnOuter.l0 y4 y5 y7 K K 0) (fun r => some r) (fun (_ : Unit) => j ())))) (fun j => (spec_NodesOk.f K y4).bind fun y20 => (if (!y20) = true then (j true) else (if y5 < 0 then (j true) else (j (decide (y5 ≥ (y4.length : Int)))))))))) (fun j => (spec_OuterOf.f K y4 y5).bind fun y10 => (if (!(decide ((y7.length : Int) = (y10.length : Int)))) = true then (j true) else ((impl_LambdasOf.f K y4).bind fun y13 => ((spec_LambdasOf.f K y4).bind fun y15 => (j (!(decide ((y13.length : Int) = (y15.length : Int)))))))))))))
theorem laws_FnOuter.ev   {K : Nat} {a0 : List Int} {r : Bool} (h : laws_FnOuter.f  K a0 = some r) : E 4 [(.d (.l true 1 (a0.map eY)))] = some ([(.d (.p (.bool r)))], []) := by
  refine Ev_intro (fn := Tryd.f4) rfl (by kernel_rfl) (c := _) rfl ⟨rfl, by simp⟩ rfl (evP_spec _ ?_)
  unfold laws_FnOuter.f at h
  refine goS ?_
  refine bindG h fun y1 hy2 h => ?_
  refine exM ([(.d (.p (.bool y1)))], []) ?_ ?_
  · exact laws_big.ev hy2
  refine ifB h (fun c3 h => ?_) (fun c3 h => ?_)
  · exact retE (enc := laws_FnOuter.enc) h rfl
  · refine bindG h ?_
    rintro ⟨y4, y5⟩ hy6 h
    refine exM ([(.own true 7 (y4.map impl_Node.e)), (.d (.p (.int .i64 y5)))], []) ?_ ?_
    · exact spec_DrawOuterOf.ev hy6
    refine bindG h fun y7 hy8 h => ?_
    refine exM ([(.own true 2 (y7.map impl_Bind.e))], []) ?_ ?_
    · exact impl_OuterOf.ev hy8
    refine goS ?_
    refine seqJ h 170 (fun x => [(3, (.own 3 1 2)), (4, (.d (.p (.int .i64 y5)))), (5, (.own 5 1 2)), (36, (.d (.p (.bool x))))]) (fun x => [(3, 1, 2, (some (.row true true 7 (y4.map impl_Node.e)))), (5, 1, 2, (some (.row true true 2 (y7.map impl_Bind.e))))]) (fun J h => ?_) ?_
    · refine eqM ((y7.length : Int) : Int) (mLen rfl) ?_
      refine bindG h fun y10 hy11 h => ?_
      refine exM ([(.own true 2 (y10.map impl_Bind.e))], []) ?_ ?_
      · exact spec_OuterOf.ev hy11
      refine eqM ((y10.length : Int) : Int) (mLen rfl) ?_
      refine ifB h (fun c12 h => ?_) (fun c12 h => ?_)
      · refine Ask.T rfl ?_
        refine Ask.T rfl ?_
        refine Ask.T rfl ?_
        refine Ask.T rfl ?_
        refine Ask.T rfl ?_
        refine Ask.T rfl ?_
        refine Ask.T rfl ?_
        exact ⟨true, h, ⟨rfl, ⟨rfl, rfl, rfl, rfl, trivial⟩, ⟨rfl, rfl, trivial⟩⟩⟩
      · refine Ask.F rfl ?_
        refine bindG h fun y13 hy14 h => ?_
        refine exM ([(.own true 1 (y13.map eI))], []) ?_ ?_
        · exact impl_LambdasOf.ev hy14
        refine Ask.F rfl ?_
        refine eqM ((y13.length : Int) : Int) (mLen rfl) ?_
        refine Ask.F rfl ?_
        refine Ask.F rfl ?_
        refine bindG h fun y15 hy16 h => ?_
        refine exM ([(.own true 1 (y15.map eI))], []) ?_ ?_
        · exact spec_LambdasOf.ev hy16
        refine Ask.F rfl ?_
        refine eqM ((y15.length : Int) : Int) (mLen rfl) ?_
        refine Ask.F rfl ?_
        refine Ask.F rfl ?_
        exact ⟨(!(decide ((y13.length : Int) = (y15.length : Int)))), h, ⟨rfl, ⟨rfl, rfl, rfl, rfl, trivial⟩, ⟨rfl, rfl, trivial⟩⟩⟩
    · rintro v9 h e hp
      try ((with_reducible apply cdX); exact rfl)
      refine ifB h (fun c17 h => ?_) (fun c17 h => ?_)
      · exact retE (enc := laws_FnOuter.enc) h rfl
      · refine goS ?_
        refine eqM ((y7.length : Int) : Int) (mLen rfl) ?_
        refine iteF h (fun c18 h => ?_) (fun c18 h => ?_)
        · exact retE (enc := laws_FnOuter.enc) h rfl
        · refine goS ?_
          refine seqJ h 170 (fun x => [(3, (.own 3 1 2)), (4, (.d (.p (.int .i64 y5)))), (5, (.own 5 1 2)), (52, (.d (.p (.bool x))))]) (fun x => [(3, 1, 2, (some (.row true true 7 (y4.map impl_Node.e)))), (5, 1, 2, (some (.row true true 2 (y7.map impl_Bind.e))))]) (fun J h => ?_) ?_
          · refine bindG h fun y20 hy21 h => ?_
            refine exM ([(.d (.p (.bool y20)))], []) ?_ ?_
            · exact spec_NodesOk.ev hy21
            refine ifB h (fun c22 h => ?_) (fun c22 h => ?_)
            · refine Ask.T rfl ?_
              refine Ask.T rfl ?_
              refine Ask.T rfl ?_
              refine Ask.T rfl ?_
              refine Ask.T rfl ?_
              refine Ask.T rfl ?_
              refine Ask.T rfl ?_
              exact ⟨true, h, ⟨rfl, ⟨rfl, rfl, rfl, rfl, trivial⟩, ⟨rfl, rfl, trivial⟩⟩⟩
            · refine Ask.F rfl ?_
              refine Ask.F rfl ?_
              refine iteF h (fun c23 h => ?_) (fun c23 h => ?_)
              · refine Ask.T rfl ?_
                refine Ask.T rfl ?_
                refine Ask.T rfl ?_
                refine Ask.T rfl ?_
                exact ⟨true, h, ⟨rfl, ⟨rfl, rfl, rfl, rfl, trivial⟩, ⟨rfl, rfl, trivial⟩⟩⟩
              · refine Ask.F rfl ?_
                refine Ask.F rfl ?_
                refine eqM ((y4.length : Int) : Int) (mLen rfl) ?_
                refine Ask.F rfl ?_
                refine Ask.F rfl ?_
                exact ⟨(decide (y5 ≥ (y4.length : Int))), h, ⟨rfl, ⟨rfl, rfl, rfl, rfl, trivial⟩, ⟨rfl, rfl, trivial⟩⟩⟩
          · rintro v19 h e hp
            try ((with_reducible apply cdX); exact rfl)
            refine ifB h (fun c24 h => ?_) (fun c24 h => ?_)
            · exact retE (enc := laws_FnOuter.enc) h rfl
            · refine seqJ h 170 (fun x => [(3, (.own 3 1 2)), (4, (.d (.p (.int .i64 y5))))]) (fun x => [(3, 1, 2, (some (.row true true 7 (y4.map impl_Node.e))))]) (fun J h => ?_) ?_
              · refine loopB (α := Int) (a := 0) 170 (fun x => [(3, (.own 3 1 2)), (4, (.d (.p (.int .i64 y5)))), (5, (.own 5 1 2)), (6, (.d (.p (.int .i64 x))))]) (fun x => [(3, 1, 2, (some (.row true true 7 (y4.map impl_Node.e)))), (5, 1, 2, (some (.row true true 2 (y7.map impl_Bind.e))))]) (fun k x => laws_FnOuter.l0 y4 y5 y7 K k x) (laws_FnOuter.en a0) 0 (fun x => [(3, (.own 3 1 2)), (4, (.d (.p (.int .i64 y5))))]) (fun x => [(3, 1, 2, (some (.row true true 7 (y4.map impl_Node.e))))]) h (fun _ => rfl) ?_ ⟨rfl, ⟨rfl, rfl, rfl, rfl, trivial⟩, ⟨rfl, rfl, trivial⟩⟩ ?_ ?_
                · rintro k v25 r h e hp
                  replace h : laws_FnOuter.l0 y4 y5 y7 K (k + 1) v25 = some r := h
                  unfold laws_FnOuter.l0 at h
                  refine goS ?_
                  refine eqM ((y7.length : Int) : Int) (mLen rfl) ?_
                  refine iteF h (fun c26 h => ?_) (fun c26 h => ?_)
                  · refine goS ?_
                    refine goS ?_
                    refine seqJ h 170 (fun x => [(3, (.own 3 1 2)), (4, (.d (.p (.int .i64 y5)))), (5, (.own 5 1 2)), (6, (.d (.p (.int .i64 v25)))), (90, (.d (.p (.bool x))))]) (fun x => [(3, 1, 2, (some (.row true true 7 (y4.map impl_Node.e)))), (5, 1, 2, (some (.row true true 2 (y7.map impl_Bind.e))))]) (fun J h => ?_) ?_
                    · refine bindG h fun x28 hx28 h => ?_
                      refine anM (at_ix rfl hx28) ?_
                      refine anM (at_lt rfl hx28) ?_
                      refine exM (impl_Bind.e x28) (at_get rfl hx28) ?_
                      refine iteF h (fun c29 h => ?_) (fun c29 h => ?_)
                      · refine Ask.T rfl ?_
                        refine Ask.T rfl ?_
                        refine Ask.T rfl ?_
                        refine Ask.T rfl ?_
                        refine Ask.T rfl ?_
                        refine Ask.T rfl ?_
                        refine Ask.T rfl ?_
                        refine Ask.T rfl ?_
                        refine Ask.T rfl ?_
                        exact ⟨true, h, ⟨rfl, ⟨rfl, rfl, rfl, rfl, rfl, trivial⟩, ⟨rfl, rfl, trivial⟩⟩⟩
                      · refine Ask.F rfl ?_
                        refine Ask.F rfl ?_
                        refine anM (at_ix rfl hx28) ?_
                        refine Ask.F rfl ?_
                        refine anM (at_lt rfl hx28) ?_
                        refine Ask.F rfl ?_
                        refine exM (impl_Bind.e x28) (at_get rfl hx28) ?_
                        refine Ask.F rfl ?_
                        refine Ask.F rfl ?_
                        refine Ask.F rfl ?_
                        refine iteF h (fun c30 h => ?_) (fun c30 h => ?_)
                        · refine Ask.T rfl ?_
                          refine Ask.T rfl ?_
                          refine bindG h fun x31 hx31 h => ?_
                          refine anM (at_ix rfl hx31) ?_
                          refine Ask.T rfl ?_
                          refine anM (at_lt rfl hx31) ?_
                          refine Ask.T rfl ?_
                          refine exM (impl_Node.e x31) (at_get rfl hx31) ?_
                          refine Ask.T rfl ?_
                          refine Ask.T rfl ?_
                          refine ifB h (fun c32 h => ?_) (fun c32 h => ?_)
                          · refine Ask.T rfl ?_
                            refine Ask.T rfl ?_
                            refine Ask.T rfl ?_
                            refine Ask.T rfl ?_
                            refine Ask.T rfl ?_
                            refine Ask.T rfl ?_
                            refine Ask.T rfl ?_
                            refine Ask.F rfl ?_
                            refine Ask.T rfl ?_
                            refine Ask.F rfl ?_
                            exact ⟨true, h, ⟨rfl, ⟨rfl, rfl, rfl, rfl, rfl, trivial⟩, ⟨rfl, rfl, trivial⟩⟩⟩
                          · refine Ask.F rfl ?_
                            refine Ask.F rfl ?_
                            refine anM (at_ix rfl hx28) ?_
                            refine Ask.F rfl ?_
                            refine anM (at_lt rfl hx28) ?_
                            refine Ask.F rfl ?_
                            refine exM (impl_Bind.e x28) (at_get rfl hx28) ?_
                            refine Ask.F rfl ?_
                            refine Ask.T rfl ?_
                            refine Ask.F rfl ?_
                            refine Ask.F rfl ?_
                            refine Ask.T rfl ?_
                            refine Ask.F rfl ?_
                            exact ⟨(!(decide (x28.Role = 0))), h, ⟨rfl, ⟨rfl, rfl, rfl, rfl, rfl, trivial⟩, ⟨rfl, rfl, trivial⟩⟩⟩
                        · refine Ask.F rfl ?_
                          refine Ask.F rfl ?_
                          refine Ask.F rfl ?_
                          refine Ask.F rfl ?_
                          refine Ask.F rfl ?_
                          refine Ask.F rfl ?_
                          refine Ask.F rfl ?_
                          refine Ask.F rfl ?_
                          refine Ask.F rfl ?_
                          refine Ask.F rfl ?_
                          exact ⟨false, h, ⟨rfl, ⟨rfl, rfl, rfl, rfl, rfl, trivial⟩, ⟨rfl, rfl, trivial⟩⟩⟩
                    · rintro v27 h e hp
                      try ((with_reducible apply cdX); exact rfl)
                      refine ifB h (fun c33 h => ?_) (fun c33 h => ?_)
                      · exact lqL h rfl
                      · refine bindG h fun x34 hx34 h => ?_
                        refine anM (at_ix rfl hx34) ?_
                        refine exM (impl_Bind.e x34) (at_get rfl hx34) ?_
                        refine bindG h fun y35 hy36 h => ?_
                        refine exM ([(.own true 1 (y35.map eI))], []) ?_ ?_
                        · exact spec_UsesOf.ev hy36
                        refine seqJ h 170 (fun x => [(3, (.own 3 1 2)), (4, (.d (.p (.int .i64 y5)))), (5, (.own 5 1 2)), (6, (.d (.p (.int .i64 v25)))), (7, (.d (.p (.bool x))))]) (fun x => [(3, 1, 2, (some (.row true true 7 (y4.map impl_Node.e)))), (5, 1, 2, (some (.row true true 2 (y7.map impl_Bind.e))))]) (fun J h => ?_) ?_
                        · refine loopX (α := Bool × Int) (a := (false, 0)) 170 (fun x => [(3, (.own 3 1 2)), (4, (.d (.p (.int .i64 y5)))), (5, (.own 5 1 2)), (6, (.d (.p (.int .i64 v25)))), (7, (.d (.p (.bool x.1)))), (8, (.own 8 1 2)), (9, (.d (.p (.int .i64 x.2))))]) (fun x => [(3, 1, 2, (some (.row true true 7 (y4.map impl_Node.e)))), (5, 1, 2, (some (.row true true 2 (y7.map impl_Bind.e)))), (8, 1, 2, (some (.row true true 1 (y35.map eI))))]) (fun k x => laws_FnOuter.l1 y4 y5 y35 K k x.1 x.2) 2 (fun x => [(3, (.own 3 1 2)), (4, (.d (.p (.int .i64 y5)))), (5, (.own 5 1 2)), (6, (.d (.p (.int .i64 v25)))), (7, (.d (.p (.bool x))))]) (fun x => [(3, 1, 2, (some (.row true true 7 (y4.map impl_Node.e)))), (5, 1, 2, (some (.row true true 2 (y7.map impl_Bind.e))))]) h (fun _ => rfl) ?_ ⟨rfl, ⟨rfl, rfl, rfl, rfl, rfl, rfl, rfl, trivial⟩, ⟨rfl, rfl, rfl, trivial⟩⟩ ?_
                          · rintro k ⟨v38, v39⟩ r h e hp
                            replace h : laws_FnOuter.l1 y4 y5 y35 K (k + 1) v38 v39 = some r := h
                            unfold laws_FnOuter.l1 at h
                            refine goS ?_
                            refine eqM ((y35.length : Int) : Int) (mLen rfl) ?_
                            refine iteF h (fun c41 h => ?_) (fun c41 h => ?_)
                            · refine seqJ h 170 (fun x => [(3, (.own 3 1 2)), (4, (.d (.p (.int .i64 y5)))), (5, (.own 5 1 2)), (6, (.d (.p (.int .i64 v25)))), (7, (.d (.p (.bool x)))), (8, (.own 8 1 2)), (9, (.d (.p (.int .i64 v39))))]) (fun x => [(3, 1, 2, (some (.row true true 7 (y4.map impl_Node.e)))), (5, 1, 2, (some (.row true true 2 (y7.map impl_Bind.e)))), (8, 1, 2, (some (.row true true 1 (y35.map eI))))]) (fun J h => ?_) ?_
                              · refine ⟨[[], [], [], [], [111, 112, 113], [111, 112, 113], [], [], [107, 108], [107, 108], [107, 108], [], [], [], [], [123, 124, 125, 126], [123, 124, 125, 126], [], [], [], [118, 119], [118, 119], [118, 119], [118, 119], [], [], [], []], [], by kernel_rfl, ?_⟩
                                refine ifB h (fun c43 h => ?_) (fun c43 h => ?_)
                                · refine Ask.T rfl ?_
                                  refine Ask.T rfl ?_
                                  refine Ask.T rfl ?_
                                  refine Ask.T rfl ?_
                                  refine Ask.T rfl ?_
                                  refine Ask.T rfl ?_
                                  refine Ask.T rfl ?_
                                  refine Ask.T rfl ?_
                                  refine Ask.T rfl ?_
                                  refine Ask.T rfl ?_
                                  refine Ask.T rfl ?_
                                  refine Ask.T rfl ?_
                                  exact ⟨true, h, ⟨rfl, ⟨rfl, rfl, rfl, rfl, rfl, rfl, rfl, trivial⟩, ⟨rfl, rfl, rfl, trivial⟩⟩⟩
                                · refine Ask.F rfl ?_
                                  refine Ask.F rfl ?_
                                  refine bindG h fun x44 hx44 h => ?_
                                  refine anM (at_ix rfl hx44) ?_
                                  refine Ask.F rfl ?_
                                  refine exM (eI x44) (at_get rfl hx44) ?_
                                  refine Ask.F rfl ?_
                                  refine Ask.F rfl ?_
                                  refine Ask.F rfl ?_
                                  refine bindG h fun x45 hx45 h => ?_
                                  refine anM (at_ix rfl hx45) ?_
                                  refine Ask.F rfl ?_
                                  refine anM (at_lt rfl hx45) ?_
                                  refine Ask.F rfl ?_
                                  refine exM (impl_Node.e x45) (at_get rfl hx45) ?_
                                  refine Ask.F rfl ?_
                                  refine Ask.F rfl ?_
                                  refine iteF h (fun c46 h => ?_) (fun c46 h => ?_)
                                  · refine Ask.T rfl ?_
                                    refine Ask.T rfl ?_
                                    refine anM (at_ix rfl hx44) ?_
                                    refine Ask.T rfl ?_
                                    refine exM (eI x44) (at_get rfl hx44) ?_
                                    refine Ask.T rfl ?_
                                    refine Ask.T rfl ?_
                                    refine Ask.T rfl ?_
                                    refine Ask.T rfl ?_
                                    refine anM (at_ix rfl hx45) ?_
                                    refine Ask.T rfl ?_
                                    refine anM (at_lt rfl hx45) ?_
                                    refine Ask.T rfl ?_
                                    refine exM (impl_Node.e x45) (at_get rfl hx45) ?_
                                    refine Ask.T rfl ?_
                                    refine bindG h fun y47 hy48 h => ?_
                                    refine exM ([(.d (.p (.int .i64 y47)))], []) ?_ ?_
                                    · exact spec_StartOf.ev hy48
                                    refine Ask.T rfl ?_
                                    refine Ask.F rfl ?_
                                    refine Ask.T rfl ?_
                                    refine Ask.F rfl ?_
                                    exact ⟨(decide (x44 ≥ y47)), h, ⟨rfl, ⟨rfl, rfl, rfl, rfl, rfl, rfl, rfl, trivial⟩, ⟨rfl, rfl, rfl, trivial⟩⟩⟩
                                  · refine Ask.F rfl ?_
                                    refine Ask.F rfl ?_
                                    refine Ask.F rfl ?_
                                    refine Ask.F rfl ?_
                                    refine Ask.F rfl ?_
                                    refine Ask.F rfl ?_
                                    refine Ask.F rfl ?_
                                    refine Ask.F rfl ?_
                                    refine Ask.F rfl ?_
                                    refine Ask.F rfl ?_
                                    refine Ask.F rfl ?_
                                    refine Ask.F rfl ?_
                                    refine Ask.F rfl ?_
                                    refine Ask.F rfl ?_
                                    exact ⟨false, h, ⟨rfl, ⟨rfl, rfl, rfl, rfl, rfl, rfl, rfl, trivial⟩, ⟨rfl, rfl, rfl, trivial⟩⟩⟩
                              · rintro v42 h e hp
                                exact ⟨(v42, (w64 (v39 + 1))), h, ⟨rfl, ⟨rfl, rfl, rfl, rfl, rfl, rfl, rfl, trivial⟩, ⟨rfl, rfl, rfl, trivial⟩⟩⟩
                            · refine exQ h ?_
                              exact ⟨rfl, ⟨rfl, rfl, rfl, rfl, rfl, trivial⟩, ⟨rfl, rfl, trivial⟩⟩
                          · rintro v40 S' h ⟨qn, ⟨qa0, qa1, qa2, qa3, qa4, _⟩, ⟨qb0, qb1, _⟩⟩
                            exact ⟨v40, h, ⟨qn, ⟨qa0, qa1, qa2, qa3, qa4, trivial⟩, ⟨qb0, qb1, trivial⟩⟩⟩
                        · rintro v37 h e hp
                          try ((with_reducible apply cdX); exact rfl)
                          refine ifB h (fun c49 h => ?_) (fun c49 h => ?_)
                          · exact lqL h rfl
                          · exact ⟨(w64 (v25 + 1)), h, ⟨rfl, ⟨rfl, rfl, rfl, rfl, trivial⟩, ⟨rfl, rfl, trivial⟩⟩⟩
                  · refine lqR h ?_
                    exact ⟨rfl, ⟨rfl, rfl, trivial⟩, ⟨rfl, trivial⟩⟩
                · intro r' S' h q
                  exact retE (enc := laws_FnOuter.enc) h q
                · rintro _ S' h ⟨qn, ⟨qa0, qa1, _⟩, ⟨qb0, _⟩⟩
                  exact ⟨(), h, ⟨qn, ⟨qa0, qa1, trivial⟩, ⟨qb0, trivial⟩⟩⟩
              · rintro _ h e hp
                refine seqJ h 170 (fun x => [(3, (.own 3 1 2)), (4, (.d (.p (.int .i64 y5))))]) (fun x => [(3, 1, 2, (some (.row true true 7 (y4.map impl_Node.e))))]) (fun J h => ?_) ?_
                · refine bindG h fun x50 hx50 h => ?_
                  refine anM (at_ix rfl hx50) ?_
                  refine anM (at_lt rfl hx50) ?_
                  refine exM (impl_Node.e x50) (at_get rfl hx50) ?_
                  refine bindG h fun y51 hy52 h => ?_
                  refine exM ([(.d (.p (.int .i64 y51)))], []) ?_ ?_
                  · exact spec_StartOf.ev hy52
                  refine loopB (α := Int) (a := y51) 170 (fun x => [(3, (.own 3 1 2)), (4, (.d (.p (.int .i64 y5)))), (10, (.d (.p (.int .i64 x))))]) (fun x => [(3, 1, 2, (some (.row true true 7 (y4.map impl_Node.e))))]) (fun k x => laws_FnOuter.l2 y4 y5 K k x) (laws_FnOuter.en a0) 4 (fun x => [(3, (.own 3 1 2)), (4, (.d (.p (.int .i64 y5))))]) (fun x => [(3, 1, 2, (some (.row true true 7 (y4.map impl_Node.e))))]) h (fun _ => rfl) ?_ ⟨rfl, ⟨rfl, rfl, rfl, trivial⟩, ⟨rfl, trivial⟩⟩ ?_ ?_
                  · rintro k v53 r h e hp
                    replace h : laws_FnOuter.l2 y4 y5 K (k + 1) v53 = some r := h
                    unfold laws_FnOuter.l2 at h
                    refine goS ?_
                    refine bindG h fun x54 hx54 h => ?_
                    refine anM (at_ix rfl hx54) ?_
                    refine anM (at_lt rfl hx54) ?_
                    refine exM (impl_Node.e x54) (at_get rfl hx54) ?_
                    refine iteF h (fun c55 h => ?_) (fun c55 h => ?_)
                    · refine goS ?_
                      refine seqJ h 170 (fun x => [(3, (.own 3 1 2)), (4, (.d (.p (.int .i64 y5)))), (10, (.d (.p (.int .i64 v53)))), (160, (.d (.p (.bool x))))]) (fun x => [(3, 1, 2, (some (.row true true 7 (y4.map impl_Node.e))))]) (fun J h => ?_) ?_
                      · refine bindG h fun x57 hx57 h => ?_
                        refine anM (at_ix rfl hx57) ?_
                        refine anM (at_lt rfl hx57) ?_
                        refine exM (impl_Node.e x57) (at_get rfl hx57) ?_
                        refine iteF h (fun c58 h => ?_) (fun c58 h => ?_)
                        · refine Ask.T rfl ?_
                          refine Ask.T rfl ?_
                          refine bindG h fun y59 hy60 h => ?_
                          refine exM ([(.d (.p (.int .i64 y59)))], []) ?_ ?_
                          · exact impl_HomeOf.ev hy60
                          refine Ask.T rfl ?_
                          refine Ask.T rfl ?_
                          refine Ask.T rfl ?_
                          exact ⟨(decide (y59 > y5)), h, ⟨rfl, ⟨rfl, rfl, rfl, rfl, trivial⟩, ⟨rfl, trivial⟩⟩⟩
                        · refine Ask.F rfl ?_
                          refine Ask.F rfl ?_
                          refine Ask.F rfl ?_
                          refine Ask.F rfl ?_
                          refine Ask.F rfl ?_
                          exact ⟨false, h, ⟨rfl, ⟨rfl, rfl, rfl, rfl, trivial⟩, ⟨rfl, trivial⟩⟩⟩
                      · rintro v56 h e hp
                        try ((with_reducible apply cdX); exact rfl)
                        refine ifB h (fun c61 h => ?_) (fun c61 h => ?_)
                        · exact lqL h rfl
                        · exact ⟨(w64 (v53 + 1)), h, ⟨rfl, ⟨rfl, rfl, rfl, trivial⟩, ⟨rfl, trivial⟩⟩⟩
                    · refine lqR h ?_
                      exact ⟨rfl, ⟨rfl, rfl, trivial⟩, ⟨rfl, trivial⟩⟩
                  · intro r' S' h q
                    exact retE (enc := laws_FnOuter.enc) h q
                  · rintro _ S' h ⟨qn, ⟨qa0, qa1, _⟩, ⟨qb0, _⟩⟩
                    exact ⟨(), h, ⟨qn, ⟨qa0, qa1, trivial⟩, ⟨qb0, trivial⟩⟩⟩
                · rintro _ h e hp
                  refine bindG h fun x62 hx62 h => ?_
                  refine anM (at_ix rfl hx62) ?_
                  refine anM (at_lt rfl hx62) ?_
                  refine exM (impl_Node.e x62) (at_get rfl hx62) ?_
                  refine bindG h fun y63 hy64 h => ?_
                  refine exM ([(.d (.p (.int .i64 y63)))], []) ?_ ?_
                  · exact impl_HomeOf.ev hy64
                  exact retE (enc := laws_FnOuter.enc) h rfl
end Go.Proofs.YtfkanjgfjejgiaaDoorE
