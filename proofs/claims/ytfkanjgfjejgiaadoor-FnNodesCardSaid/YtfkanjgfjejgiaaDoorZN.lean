/- For Go functions of the program: their Lean functions, and that Go answers as these do. Written by a program of the session (evprint.py). -/
import Derived.Test.YtfkanjgfjejgiaaDoorZN0
set_option linter.unusedSimpArgs false
set_option linter.unusedVariables false
namespace Go.Proofs.YtfkanjgfjejgiaaDoorE
open Go.Ev
set_option linter.unusedVariables false
set_option maxRecDepth 100000
set_option maxHeartbeats 4000000
def spec_Kids.enc (r : List Int) : Res := ([(.own true 1 (r.map eI))], [])
def spec_Kids.f  (K : Nat) (a0 : impl_Node) : Option (List Int) := (spec_Arity.f K a0.Kind).bind fun y1 => (gd (0 ≤ (0 : Int) ∧ (0 : Int) ≤ y1 ∧ y1 ≤ (([a0.A, a0.B, a0.C] : List Int).length : Int)) (some (([a0.A, a0.B, a0.C] : List Int).take (y1).toNat)))
theorem spec_Kids.ev   {K : Nat} {a0 : impl_Node} {r : List Int} (h : spec_Kids.f  K a0 = some r) : E 69 [(.agg (a0.e.map .d))] = some ([(.own true 1 (r.map eI))], []) := by
  refine Ev_intro (fn := Tryd.f69) rfl (by kernel_rfl) (c := _) rfl ⟨rfl, by simp⟩ rfl (evP_spec _ ?_)
  unfold spec_Kids.f at h
  refine ⟨[[5, 6, 7, 8, 10, 11, 12], [5, 6, 7, 8, 10, 11, 12], [3, 4, 7, 8, 10, 11, 12], [3, 4, 7, 8, 10, 11, 12], [3, 4, 5, 6, 10, 11, 12], [3, 4, 5, 6, 10, 11, 12], [10, 11, 12], [3, 4, 5, 6, 7, 8, 9], [3, 4, 5, 6, 7, 8, 9], [3, 4, 5, 6, 7, 8, 9], [], []], [], by kernel_rfl, ?_⟩
  refine eqM (([a0.A, a0.B, a0.C] : List Int).map eI) rfl ?_
  refine bindG h fun y1 hy2 h => ?_
  refine exM ([(.d (.p (.int .i64 y1)))], []) ?_ ?_
  · exact spec_Arity.ev hy2
  refine gdG h fun hc h => ?_
  refine anM (slB hc) ?_
  refine eqM ((([a0.A, a0.B, a0.C] : List Int).take (y1).toNat).map eI) (mTake rfl) ?_
  exact retE (enc := spec_Kids.enc) h rfl
def spec_l3Starts.enc (r : List Int × Bool) : Res := ([(.own true 1 (r.1.map eI)), (.d (.p (.bool r.2)))], [])
def spec_l3Starts.en (a0 : List impl_Node) (r : List Int × Bool) (S : St) : Prop := endV tb md 39 Tryd.f39 [(.d (.l true 7 (a0.map impl_Node.e)))] .ret S = some (spec_l3Starts.enc r)
def spec_l3Starts.l1 (v3 : List Int) (y10 : List Int) (K : Nat) : Nat → Int → Int → Option ((List Int × Bool) ⊕ Int)
  | 0, _, _ => none
  | k + 1, v13, v14 => if v14 ≥ 0 then (jn (fun (v17 : Bool) => if v17 = true then (some (.inl (([] : List Int), false))) else ((at_ y10 v14).bind fun x21 => ((at_ v3 x21).bind fun x22 => (spec_l3Starts.l1 v3 y10 K k x22 (w64 (v14 - 1)))))) (fun j => (at_ y10 v14).bind fun x18 => (if (!(decide (x18 = (w64 (v13 - 1))))) = true then (j true) else (j (decide (x18 < 0)))))) else (some (.inr v13))
def spec_l3Starts.l0 (a0 : List impl_Node) (K : Nat) : Nat → Int → (List Int) → Option ((List Int × Bool) ⊕ (List Int))
  | 0, _, _ => none
  | k + 1, v2, v3 => if v2 < (a0.length : Int) then ((at_ a0 v2).bind fun x6 => ((spec_l3Fields.f K x6).bind fun y7 => (if (!y7) = true then (some (.inl (([] : List Int), false))) else ((spec_Kids.f K x6).bind fun y10 => (jn (fun (v12 : Int) => gd ((v3.length + 1) * 8 ≤ 140737488355328) (spec_l3Starts.l0 a0 K k (w64 (v2 + 1)) (v3 ++ ([v12] : List Int)))) (fun j => lb (spec_l3Starts.l1 v3 y10 K K v2 (w64 ((y10.length : Int) - 1))) (fun r => some (.inl r)) (fun (v15 : Int) => j v15))))))) else (some (.inr v3))
def spec_l3Starts.f  (K : Nat) (a0 : List impl_Node) : Option (List Int × Bool) := jn (fun (v1 : List Int) => some (v1, true)) (fun j => lb (spec_l3Starts.l0 a0 K K 0 ([] : List Int)) (fun r => some r) (fun (v4 : List Int) => j v4))
theorem spec_l3Starts.ev   {K : Nat} {a0 : List impl_Node} {r : List Int × Bool} (h : spec_l3Starts.f  K a0 = some r) : E 39 [(.d (.l true 7 (a0.map impl_Node.e)))] = some ([(.own true 1 (r.1.map eI)), (.d (.p (.bool r.2)))], []) := by
  refine Ev_intro (fn := Tryd.f39) rfl (by kernel_rfl) (c := _) rfl ⟨rfl, by simp⟩ rfl (evP_spec _ ?_)
  unfold spec_l3Starts.f at h
  refine eqM (([] : List Int).map eI) rfl ?_
  refine seqJ h 63 (fun x => [(4, (.own 4 1 2))]) (fun x => [(4, 1, 2, (some (.row true true 1 (x.map eI))))]) (fun J h => ?_) ?_
  · refine loopB (α := Int × List Int) (a := (0, ([] : List Int))) 63 (fun x => [(0, (.d (.l true 7 (a0.map impl_Node.e)))), (4, (.own 4 1 2)), (5, (.d (.p (.int .i64 x.1))))]) (fun x => [(4, 1, 2, (some (.row true true 1 (x.2.map eI))))]) (fun k x => spec_l3Starts.l0 a0 K k x.1 x.2) (spec_l3Starts.en a0) 0 (fun x => [(4, (.own 4 1 2))]) (fun x => [(4, 1, 2, (some (.row true true 1 (x.map eI))))]) h (fun _ => rfl) ?_ ⟨rfl, ⟨rfl, rfl, rfl, trivial⟩, ⟨rfl, trivial⟩⟩ ?_ ?_
    · rintro k ⟨v2, v3⟩ r h e hp
      replace h : spec_l3Starts.l0 a0 K (k + 1) v2 v3 = some r := h
      unfold spec_l3Starts.l0 at h
      refine goS ?_
      refine eqM ((a0.length : Int) : Int) (mLen rfl) ?_
      refine iteF h (fun c5 h => ?_) (fun c5 h => ?_)
      · refine goS ?_
        refine goS ?_
        refine bindG h fun x6 hx6 h => ?_
        refine anM (at_ix rfl hx6) ?_
        refine exM (impl_Node.e x6) (at_get rfl hx6) ?_
        refine bindG h fun y7 hy8 h => ?_
        refine exM ([(.d (.p (.bool y7)))], []) ?_ ?_
        · exact spec_l3Fields.ev hy8
        refine ifB h (fun c9 h => ?_) (fun c9 h => ?_)
        · refine eqM (([] : List Int).map eI) rfl ?_
          exact lqL h rfl
        · refine anM (at_ix rfl hx6) ?_
          refine exM (impl_Node.e x6) (at_get rfl hx6) ?_
          refine bindG h fun y10 hy11 h => ?_
          refine exM ([(.own true 1 (y10.map eI))], []) ?_ ?_
          · exact spec_Kids.ev hy11
          refine seqJ h 63 (fun x => [(0, (.d (.l true 7 (a0.map impl_Node.e)))), (4, (.own 4 1 2)), (5, (.d (.p (.int .i64 v2)))), (6, (.d (.p (.int .i64 x))))]) (fun x => [(4, 1, 2, (some (.row true true 1 (v3.map eI))))]) (fun J h => ?_) ?_
          · refine eqM ((y10.length : Int) : Int) (mLen rfl) ?_
            refine loopB (α := Int × Int) (a := (v2, (w64 ((y10.length : Int) - 1)))) 63 (fun x => [(0, (.d (.l true 7 (a0.map impl_Node.e)))), (4, (.own 4 1 2)), (5, (.d (.p (.int .i64 v2)))), (6, (.d (.p (.int .i64 x.1)))), (7, (.own 7 1 2)), (8, (.d (.p (.int .i64 x.2))))]) (fun x => [(4, 1, 2, (some (.row true true 1 (v3.map eI)))), (7, 1, 2, (some (.row true true 1 (y10.map eI))))]) (fun k x => spec_l3Starts.l1 v3 y10 K k x.1 x.2) (spec_l3Starts.en a0) 2 (fun x => [(0, (.d (.l true 7 (a0.map impl_Node.e)))), (4, (.own 4 1 2)), (5, (.d (.p (.int .i64 v2)))), (6, (.d (.p (.int .i64 x))))]) (fun x => [(4, 1, 2, (some (.row true true 1 (v3.map eI))))]) h (fun _ => rfl) ?_ ⟨rfl, ⟨rfl, rfl, rfl, rfl, rfl, rfl, trivial⟩, ⟨rfl, rfl, trivial⟩⟩ ?_ ?_
            · rintro k ⟨v13, v14⟩ r h e hp
              replace h : spec_l3Starts.l1 v3 y10 K (k + 1) v13 v14 = some r := h
              unfold spec_l3Starts.l1 at h
              refine goS ?_
              try ((with_reducible apply cdX); exact rfl)
              refine iteF h (fun c16 h => ?_) (fun c16 h => ?_)
              · refine goS ?_
                refine goS ?_
                refine seqJ h 63 (fun x => [(0, (.d (.l true 7 (a0.map impl_Node.e)))), (4, (.own 4 1 2)), (5, (.d (.p (.int .i64 v2)))), (7, (.own 7 1 2)), (8, (.d (.p (.int .i64 v14)))), (49, (.d (.p (.bool x))))]) (fun x => [(4, 1, 2, (some (.row true true 1 (v3.map eI)))), (7, 1, 2, (some (.row true true 1 (y10.map eI))))]) (fun J h => ?_) ?_
                · refine bindG h fun x18 hx18 h => ?_
                  refine anM (at_ix rfl hx18) ?_
                  refine exM (eI x18) (at_get rfl hx18) ?_
                  refine ifB h (fun c19 h => ?_) (fun c19 h => ?_)
                  · refine Ask.T rfl ?_
                    refine Ask.T rfl ?_
                    refine Ask.T rfl ?_
                    refine Ask.T rfl ?_
                    refine Ask.T rfl ?_
                    exact ⟨true, h, ⟨rfl, ⟨rfl, rfl, rfl, rfl, rfl, rfl, trivial⟩, ⟨rfl, rfl, trivial⟩⟩⟩
                  · refine Ask.F rfl ?_
                    refine Ask.F rfl ?_
                    refine anM (at_ix rfl hx18) ?_
                    refine Ask.F rfl ?_
                    refine exM (eI x18) (at_get rfl hx18) ?_
                    refine Ask.F rfl ?_
                    refine Ask.F rfl ?_
                    exact ⟨(decide (x18 < 0)), h, ⟨rfl, ⟨rfl, rfl, rfl, rfl, rfl, rfl, trivial⟩, ⟨rfl, rfl, trivial⟩⟩⟩
                · rintro v17 h e hp
                  try ((with_reducible apply cdX); exact rfl)
                  refine ifB h (fun c20 h => ?_) (fun c20 h => ?_)
                  · refine eqM (([] : List Int).map eI) rfl ?_
                    exact lqL h rfl
                  · refine bindG h fun x21 hx21 h => ?_
                    refine anM (at_ix rfl hx21) ?_
                    refine exM (eI x21) (at_get rfl hx21) ?_
                    refine bindG h fun x22 hx22 h => ?_
                    refine anM (at_ix rfl hx22) ?_
                    refine exM (eI x22) (at_get rfl hx22) ?_
                    exact ⟨(x22, (w64 (v14 - 1))), h, ⟨rfl, ⟨rfl, rfl, rfl, rfl, rfl, rfl, trivial⟩, ⟨rfl, rfl, trivial⟩⟩⟩
              · refine lqR h ?_
                exact ⟨rfl, ⟨rfl, rfl, rfl, rfl, trivial⟩, ⟨rfl, trivial⟩⟩
            · intro r' S' h q
              exact lqL h q
            · rintro v15 S' h ⟨qn, ⟨qa0, qa1, qa2, qa3, _⟩, ⟨qb0, _⟩⟩
              exact ⟨v15, h, ⟨qn, ⟨qa0, qa1, qa2, qa3, trivial⟩, ⟨qb0, trivial⟩⟩⟩
          · rintro v12 h e hp
            refine eqM (([v12] : List Int).map eI) rfl ?_
            refine gdG h fun hc h => ?_
            refine anM (apB hc) ?_
            refine eqM ((v3 ++ ([v12] : List Int)).map eI) (mApp rfl rfl) ?_
            exact ⟨((w64 (v2 + 1)), (v3 ++ ([v12] : List Int))), h, ⟨rfl, ⟨rfl, rfl, rfl, trivial⟩, ⟨rfl, trivial⟩⟩⟩
      · refine lqR h ?_
        exact ⟨rfl, ⟨rfl, trivial⟩, ⟨rfl, trivial⟩⟩
    · intro r' S' h q
      exact retE (enc := spec_l3Starts.enc) h q
    · rintro v4 S' h ⟨qn, ⟨qa0, _⟩, ⟨qb0, _⟩⟩
      exact ⟨v4, h, ⟨qn, ⟨qa0, trivial⟩, ⟨qb0, trivial⟩⟩⟩
  · rintro v1 h e hp
    exact retE (enc := spec_l3Starts.enc) h rfl
def spec_NodesOk.enc (r : Bool) : Res := ([(.d (.p (.bool r)))], [])
def spec_NodesOk.f  (K : Nat) (a0 : List impl_Node) : Option (Bool) := (spec_l1In.f K (a0.length : Int) 1 150).bind fun y1 => (if (!y1) = true then (some false) else ((spec_l3Starts.f K a0).bind fun (y4, y5) => (if y5 = true then ((at_ y4 (w64 ((a0.length : Int) - 1))).bind fun x8 => (some (decide (x8 = 0)))) else (some false))))
theorem spec_NodesOk.ev   {K : Nat} {a0 : List impl_Node} {r : Bool} (h : spec_NodesOk.f  K a0 = some r) : E 10 [(.d (.l true 7 (a0.map impl_Node.e)))] = some ([(.d (.p (.bool r)))], []) := by
  refine Ev_intro (fn := Tryd.f10) rfl (by kernel_rfl) (c := _) rfl ⟨rfl, by simp⟩ rfl (evP_spec _ ?_)
  unfold spec_NodesOk.f at h
  refine goS ?_
  refine eqM ((a0.length : Int) : Int) (mLen rfl) ?_
  refine bindG h fun y1 hy2 h => ?_
  refine exM ([(.d (.p (.bool y1)))], []) ?_ ?_
  · exact spec_l1In.ev hy2
  refine ifB h (fun c3 h => ?_) (fun c3 h => ?_)
  · exact retE (enc := spec_NodesOk.enc) h rfl
  · refine bindG h ?_
    rintro ⟨y4, y5⟩ hy6 h
    refine exM ([(.own true 1 (y4.map eI)), (.d (.p (.bool y5)))], []) ?_ ?_
    · exact spec_l3Starts.ev hy6
    refine goS ?_
    try ((with_reducible apply cdX); exact rfl)
    refine ifB h (fun c7 h => ?_) (fun c7 h => ?_)
    · refine Ask.T rfl ?_
      refine Ask.T rfl ?_
      refine eqM ((a0.length : Int) : Int) (mLen rfl) ?_
      refine Ask.T rfl ?_
      refine Ask.T rfl ?_
      refine bindG h fun x8 hx8 h => ?_
      refine anM (at_ix rfl hx8) ?_
      refine Ask.T rfl ?_
      refine exM (eI x8) (at_get rfl hx8) ?_
      refine Ask.T rfl ?_
      refine Ask.T rfl ?_
      exact retE (enc := spec_NodesOk.enc) h rfl
    · refine Ask.F rfl ?_
      refine Ask.F rfl ?_
      refine Ask.F rfl ?_
      refine Ask.F rfl ?_
      refine Ask.F rfl ?_
      refine Ask.F rfl ?_
      refine Ask.F rfl ?_
      exact retE (enc := spec_NodesOk.enc) h rfl
def impl_startOf.enc (r : Int) : Res := ([(.d (.p (.int .i64 r)))], [])
def impl_startOf.l0 (a0 : List impl_Node) (K : Nat) : Nat → Int → Option (Int)
  | 0, _ => none
  | k + 1, v2 => (at_ a0 v2).bind fun x4 => ((impl_Arity.f K x4.Kind).bind fun y5 => (if y5 > 0 then (impl_startOf.l0 a0 K k x4.A) else (some v2)))
def impl_startOf.f  (K : Nat) (a0 : List impl_Node) (a1 : Int) : Option (Int) := jn (fun (v1 : Int) => some v1) (fun j => (impl_startOf.l0 a0 K K a1).bind fun (v3 : Int) => j v3)
theorem impl_startOf.ev   {K : Nat} {a0 : List impl_Node} {a1 : Int} {r : Int} (h : impl_startOf.f  K a0 a1 = some r) : E 41 [(.d (.l true 7 (a0.map impl_Node.e))), (.d (.p (.int .i64 a1)))] = some ([(.d (.p (.int .i64 r)))], []) := by
  refine Ev_intro (fn := Tryd.f41) rfl (by kernel_rfl) (c := _) rfl ⟨rfl, by simp⟩ rfl (evP_spec _ ?_)
  unfold impl_startOf.f at h
  refine seqJ h 18 (fun x => [(1, (.d (.p (.int .i64 x))))]) (fun x => []) (fun J h => ?_) ?_
  · refine loopX (α := Int) (a := a1) 18 (fun x => [(0, (.d (.l true 7 (a0.map impl_Node.e)))), (1, (.d (.p (.int .i64 x))))]) (fun x => []) (fun k x => impl_startOf.l0 a0 K k x) 0 (fun x => [(1, (.d (.p (.int .i64 x))))]) (fun x => []) h (fun _ => rfl) ?_ ⟨rfl, ⟨rfl, rfl, trivial⟩, trivial⟩ ?_
    · rintro k v2 r h e hp
      replace h : impl_startOf.l0 a0 K (k + 1) v2 = some r := h
      unfold impl_startOf.l0 at h
      refine goS ?_
      refine bindG h fun x4 hx4 h => ?_
      refine anM (at_ix rfl hx4) ?_
      refine exM (impl_Node.e x4) (at_get rfl hx4) ?_
      refine bindG h fun y5 hy6 h => ?_
      refine exM ([(.d (.p (.int .i64 y5)))], []) ?_ ?_
      · exact impl_Arity.ev hy6
      refine iteF h (fun c7 h => ?_) (fun c7 h => ?_)
      · refine anM (at_ix rfl hx4) ?_
        refine exM (impl_Node.e x4) (at_get rfl hx4) ?_
        exact ⟨x4.A, h, ⟨rfl, ⟨rfl, rfl, trivial⟩, trivial⟩⟩
      · refine exQ h ?_
        exact ⟨rfl, ⟨rfl, trivial⟩, trivial⟩
    · rintro v3 S' h ⟨qn, ⟨qa0, _⟩, ⟨_⟩⟩
      exact ⟨v3, h, ⟨qn, ⟨qa0, trivial⟩, trivial⟩⟩
  · rintro v1 h e hp
    exact retE (enc := impl_startOf.enc) h rfl
def impl_StartOf.enc (r : Int) : Res := ([(.d (.p (.int .i64 r)))], [])
def impl_StartOf.f  (K : Nat) (a0 : List impl_Node) (a1 : Int) : Option (Int) := jn (fun (v1 : Bool) => if v1 = true then (some (-1)) else ((impl_startOf.f K a0 a1).bind fun y8 => (some y8))) (fun j => (impl_NodesOk.f K a0).bind fun y2 => (if (!y2) = true then (j true) else ((impl_in.f K a1 0 (w64 ((a0.length : Int) - 1))).bind fun y5 => (j (!y5)))))
theorem impl_StartOf.ev   {K : Nat} {a0 : List impl_Node} {a1 : Int} {r : Int} (h : impl_StartOf.f  K a0 a1 = some r) : E 12 [(.d (.l true 7 (a0.map impl_Node.e))), (.d (.p (.int .i64 a1)))] = some ([(.d (.p (.int .i64 r)))], []) := by
  refine Ev_intro (fn := Tryd.f12) rfl (by kernel_rfl) (c := _) rfl ⟨rfl, by simp⟩ rfl (evP_spec _ ?_)
  unfold impl_StartOf.f at h
  refine goS ?_
  refine seqJ h 19 (fun x => [(0, (.d (.l true 7 (a0.map impl_Node.e)))), (1, (.d (.p (.int .i64 a1)))), (15, (.d (.p (.bool x))))]) (fun x => []) (fun J h => ?_) ?_
  · refine bindG h fun y2 hy3 h => ?_
    refine exM ([(.d (.p (.bool y2)))], []) ?_ ?_
    · exact impl_NodesOk.ev hy3
    refine ifB h (fun c4 h => ?_) (fun c4 h => ?_)
    · refine Ask.T rfl ?_
      refine Ask.T rfl ?_
      refine Ask.T rfl ?_
      refine Ask.T rfl ?_
      refine Ask.T rfl ?_
      refine Ask.T rfl ?_
      exact ⟨true, h, ⟨rfl, ⟨rfl, rfl, rfl, trivial⟩, trivial⟩⟩
    · refine Ask.F rfl ?_
      refine Ask.F rfl ?_
      refine eqM ((a0.length : Int) : Int) (mLen rfl) ?_
      refine Ask.F rfl ?_
      refine Ask.F rfl ?_
      refine bindG h fun y5 hy6 h => ?_
      refine exM ([(.d (.p (.bool y5)))], []) ?_ ?_
      · exact impl_in.ev hy6
      refine Ask.F rfl ?_
      refine Ask.F rfl ?_
      exact ⟨(!y5), h, ⟨rfl, ⟨rfl, rfl, rfl, trivial⟩, trivial⟩⟩
  · rintro v1 h e hp
    try ((with_reducible apply cdX); exact rfl)
    refine ifB h (fun c7 h => ?_) (fun c7 h => ?_)
    · exact retE (enc := impl_StartOf.enc) h rfl
    · refine bindG h fun y8 hy9 h => ?_
      refine exM ([(.d (.p (.int .i64 y8)))], []) ?_ ?_
      · exact impl_startOf.ev hy9
      exact retE (enc := impl_StartOf.enc) h rfl
def impl_moved.enc (r : impl_Node) : Res := ([(.agg (r.e.map .d))], [])
def impl_moved.f  (K : Nat) (a0 : impl_Node) (a1 : Int) : Option (impl_Node) := jn (fun (v1 : impl_Node) => some v1) (fun j => (impl_Arity.f K a0.Kind).bind fun y2 => (if y2 = 3 then (j (⟨a0.Kind, (w64 (a0.A - a1)), (w64 (a0.B - a1)), (w64 (a0.C - a1)), a0.N, a0.Name, a0.Other⟩ : impl_Node)) else (if y2 = 2 then (j (⟨a0.Kind, (w64 (a0.A - a1)), (w64 (a0.B - a1)), a0.C, a0.N, a0.Name, a0.Other⟩ : impl_Node)) else (if y2 = 1 then (j (⟨a0.Kind, (w64 (a0.A - a1)), a0.B, a0.C, a0.N, a0.Name, a0.Other⟩ : impl_Node)) else (j a0)))))
theorem impl_moved.ev   {K : Nat} {a0 : impl_Node} {a1 : Int} {r : impl_Node} (h : impl_moved.f  K a0 a1 = some r) : E 40 [(.agg (a0.e.map .d)), (.d (.p (.int .i64 a1)))] = some ([(.agg (r.e.map .d))], []) := by
  refine Ev_intro (fn := Tryd.f40) rfl (by kernel_rfl) (c := _) rfl ⟨rfl, by simp⟩ rfl (evP_spec _ ?_)
  unfold impl_moved.f at h
  refine seqJ h 45 (fun x => [(2, (.ptr 2 0 2 0)), (4, (.ptr 4 0 2 0))]) (fun x => [(2, 0, 2, (some (.box [(.d (.p (.int .i64 x.Kind))), (.d (.p (.int .i64 x.A))), (.d (.p (.int .i64 x.B))), (.d (.p (.int .i64 x.C))), (.d (.p (.int .i64 x.N))), (.d (.p (.string x.Name))), (.d (.p (.string x.Other)))]))), (4, 0, 2, (some (.box [(.d (.p (.int .i64 0))), (.d (.p (.int .i64 0))), (.d (.p (.int .i64 0))), (.d (.p (.int .i64 0))), (.d (.p (.int .i64 0))), (.d (.p (.string (⟨#[]⟩ : ByteArray)))), (.d (.p (.string (⟨#[]⟩ : ByteArray))))])))]) (fun J h => ?_) ?_
  · refine bindG h fun y2 hy3 h => ?_
    refine exM ([(.d (.p (.int .i64 y2)))], []) ?_ ?_
    · exact impl_Arity.ev hy3
    refine iteF h (fun c4 h => ?_) (fun c4 h => ?_)
    · exact ⟨(⟨a0.Kind, (w64 (a0.A - a1)), (w64 (a0.B - a1)), (w64 (a0.C - a1)), a0.N, a0.Name, a0.Other⟩ : impl_Node), h, ⟨rfl, ⟨rfl, rfl, trivial⟩, ⟨rfl, rfl, trivial⟩⟩⟩
    · try ((with_reducible apply cdX); exact rfl)
      refine iteF h (fun c5 h => ?_) (fun c5 h => ?_)
      · exact ⟨(⟨a0.Kind, (w64 (a0.A - a1)), (w64 (a0.B - a1)), a0.C, a0.N, a0.Name, a0.Other⟩ : impl_Node), h, ⟨rfl, ⟨rfl, rfl, trivial⟩, ⟨rfl, rfl, trivial⟩⟩⟩
      · try ((with_reducible apply cdX); exact rfl)
        refine iteF h (fun c6 h => ?_) (fun c6 h => ?_)
        · exact ⟨(⟨a0.Kind, (w64 (a0.A - a1)), a0.B, a0.C, a0.N, a0.Name, a0.Other⟩ : impl_Node), h, ⟨rfl, ⟨rfl, rfl, trivial⟩, ⟨rfl, rfl, trivial⟩⟩⟩
        · exact ⟨a0, h, ⟨rfl, ⟨rfl, rfl, trivial⟩, ⟨rfl, rfl, trivial⟩⟩⟩
  · rintro v1 h e hp
    refine goS ?_
    exact retE (enc := impl_moved.enc) h rfl
def impl_Part.enc (r : List impl_Node) : Res := ([(.own true 7 (r.map impl_Node.e))], [])
def impl_Part.l0 (a0 : List impl_Node) (a1 : Int) (y1 : Int) (K : Nat) : Nat → Int → (List impl_Node) → Option (List impl_Node)
  | 0, _, _ => none
  | k + 1, v5, v6 => if v5 < (((a0.take ((w64 (a1 + 1))).toNat).drop (y1).toNat).length : Int) then ((at_ ((a0.take ((w64 (a1 + 1))).toNat).drop (y1).toNat) v5).bind fun x9 => ((impl_moved.f K x9 y1).bind fun y10 => (gd ((v6.length + 1) * 72 ≤ 140737488355328) (impl_Part.l0 a0 a1 y1 K k (w64 (v5 + 1)) (v6 ++ ([y10] : List impl_Node)))))) else (some v6)
def impl_Part.f  (K : Nat) (a0 : List impl_Node) (a1 : Int) : Option (List impl_Node) := (impl_StartOf.f K a0 a1).bind fun y1 => (if y1 < 0 then (some ([] : List impl_Node)) else (jn (fun (v4 : List impl_Node) => some v4) (fun j => gd (0 ≤ y1 ∧ y1 ≤ (w64 (a1 + 1)) ∧ (w64 (a1 + 1)) ≤ (a0.length : Int)) ((impl_Part.l0 a0 a1 y1 K K 0 ([] : List impl_Node)).bind fun (v7 : List impl_Node) => j v7))))
theorem impl_Part.ev   {K : Nat} {a0 : List impl_Node} {a1 : Int} {r : List impl_Node} (h : impl_Part.f  K a0 a1 = some r) : E 11 [(.d (.l true 7 (a0.map impl_Node.e))), (.d (.p (.int .i64 a1)))] = some ([(.own true 7 (r.map impl_Node.e))], []) := by
  refine Ev_intro (fn := Tryd.f11) rfl (by kernel_rfl) (c := _) rfl ⟨rfl, by simp⟩ rfl (evP_spec _ ?_)
  unfold impl_Part.f at h
  refine bindG h fun y1 hy2 h => ?_
  refine exM ([(.d (.p (.int .i64 y1)))], []) ?_ ?_
  · exact impl_StartOf.ev hy2
  refine goS ?_
  try ((with_reducible apply cdX); exact rfl)
  refine iteF h (fun c3 h => ?_) (fun c3 h => ?_)
  · exact retE (enc := impl_Part.enc) h rfl
  · refine seqJ h 32 (fun x => [(6, (.own 6 1 2))]) (fun x => [(6, 1, 2, (some (.row true true 7 (x.map impl_Node.e))))]) (fun J h => ?_) ?_
    · refine gdG h fun hc h => ?_
      refine anM (slB hc) ?_
      refine eqM (((a0.take ((w64 (a1 + 1))).toNat).drop (y1).toNat).map impl_Node.e) mSub ?_
      refine eqM ((((a0.take ((w64 (a1 + 1))).toNat).drop (y1).toNat).length : Int) : Int) (mLen rfl) ?_
      refine loopX (α := Int × List impl_Node) (a := (0, ([] : List impl_Node))) 32 (fun x => [(5, (.d (.p (.int .i64 y1)))), (6, (.own 6 1 2)), (18, (.d (.l true 7 (((a0.take ((w64 (a1 + 1))).toNat).drop (y1).toNat).map impl_Node.e)))), (19, (.d (.p (.int .i64 (((a0.take ((w64 (a1 + 1))).toNat).drop (y1).toNat).length : Int))))), (20, (.d (.p (.int .i64 x.1))))]) (fun x => [(6, 1, 2, (some (.row true true 7 (x.2.map impl_Node.e))))]) (fun k x => impl_Part.l0 a0 a1 y1 K k x.1 x.2) 0 (fun x => [(6, (.own 6 1 2))]) (fun x => [(6, 1, 2, (some (.row true true 7 (x.map impl_Node.e))))]) h (fun _ => rfl) ?_ ⟨rfl, ⟨rfl, rfl, rfl, rfl, rfl, trivial⟩, ⟨rfl, trivial⟩⟩ ?_
      · rintro k ⟨v5, v6⟩ r h e hp
        replace h : impl_Part.l0 a0 a1 y1 K (k + 1) v5 v6 = some r := h
        unfold impl_Part.l0 at h
        refine goS ?_
        try ((with_reducible apply cdX); exact rfl)
        refine iteF h (fun c8 h => ?_) (fun c8 h => ?_)
        · refine goS ?_
          refine goS ?_
          refine bindG h fun x9 hx9 h => ?_
          refine anM (at_ix rfl hx9) ?_
          refine exM (impl_Node.e x9) (at_get rfl hx9) ?_
          refine bindG h fun y10 hy11 h => ?_
          refine exM ([(.agg (y10.e.map .d))], []) ?_ ?_
          · exact impl_moved.ev hy11
          refine eqM (([y10] : List impl_Node).map impl_Node.e) rfl ?_
          refine gdG h fun hc h => ?_
          refine anM (apB hc) ?_
          refine eqM ((v6 ++ ([y10] : List impl_Node)).map impl_Node.e) (mApp rfl rfl) ?_
          exact ⟨((w64 (v5 + 1)), (v6 ++ ([y10] : List impl_Node))), h, ⟨rfl, ⟨rfl, rfl, rfl, rfl, rfl, trivial⟩, ⟨rfl, trivial⟩⟩⟩
        · refine exQ h ?_
          exact ⟨rfl, ⟨rfl, trivial⟩, ⟨rfl, trivial⟩⟩
      · rintro v7 S' h ⟨qn, ⟨qa0, _⟩, ⟨qb0, _⟩⟩
        exact ⟨v7, h, ⟨qn, ⟨qa0, trivial⟩, ⟨qb0, trivial⟩⟩⟩
    · rintro v4 h e hp
      exact retE (enc := impl_Part.enc) h rfl
def impl_keyPlace.enc (r : Int) : Res := ([(.d (.p (.int .i64 r)))], [])
def impl_keyPlace.f  (K : Nat) (a0 : Int) : Option (Int) := if a0 ≤ 2 then (some 0) else (some (w64 ((w64 (a0 - 2)) + 1)))
theorem impl_keyPlace.ev   {K : Nat} {a0 : Int} {r : Int} (h : impl_keyPlace.f  K a0 = some r) : E 104 [(.d (.p (.int .i64 a0)))] = some ([(.d (.p (.int .i64 r)))], []) := by
  refine Ev_intro (fn := Tryd.f104) rfl (by kernel_rfl) (c := _) rfl ⟨rfl, by simp⟩ rfl (evP_spec _ ?_)
  unfold impl_keyPlace.f at h
  refine goS ?_
  try ((with_reducible apply cdX); exact rfl)
  refine iteF h (fun c1 h => ?_) (fun c1 h => ?_)
  · exact retE (enc := impl_keyPlace.enc) h rfl
  · exact retE (enc := impl_keyPlace.enc) h rfl
def impl_KeyOf.enc (r : ByteArray) : Res := ([(.d (.p (.string r)))], [])
def impl_KeyOf.f  (K : Nat) (a0 : impl_Node) : Option (ByteArray) := if a0.Kind = 8 then ((impl_in.f K a0.N 0 3).bind fun y2 => (if (!y2) = true then (some (⟨#[]⟩ : ByteArray)) else ((strings_Split.f (⟨#[97, 100, 100, 32, 115, 117, 98, 32, 108, 101, 115, 115, 32, 115, 97, 109, 101]⟩ : ByteArray) (⟨#[32]⟩ : ByteArray)).bind fun y5 => ((at_ y5 a0.N).bind fun x7 => (some x7))))) else ((impl_in.f K a0.Kind 1 19).bind fun y8 => (if y8 = true then ((strings_Split.f (⟨#[32, 45, 32, 102, 117, 110, 32, 97, 112, 112, 32, 108, 101, 116, 32, 114, 101, 99, 32, 105, 102, 32, 45, 32, 112, 97, 105, 114, 32, 102, 115, 116, 32, 115, 110, 100, 32, 110, 105, 108, 32, 99, 111, 110, 115, 32, 109, 97, 116, 99, 104, 32, 114, 101, 102, 32, 103, 101, 116, 32, 115, 101, 116, 32, 114, 97, 105, 115, 101, 32, 116, 114, 121]⟩ : ByteArray) (⟨#[32]⟩ : ByteArray)).bind fun y11 => ((impl_keyPlace.f K a0.Kind).bind fun y13 => ((at_ y11 y13).bind fun x15 => (some x15)))) else (some (⟨#[]⟩ : ByteArray))))
theorem impl_KeyOf.ev   {K : Nat} {a0 : impl_Node} {r : ByteArray} (h : impl_KeyOf.f  K a0 = some r) : E 71 [(.agg (a0.e.map .d))] = some ([(.d (.p (.string r)))], []) := by
  refine Ev_intro (fn := Tryd.f71) rfl (by kernel_rfl) (c := _) rfl ⟨rfl, by simp⟩ rfl (evP_spec _ ?_)
  unfold impl_KeyOf.f at h
  refine goS ?_
  try ((with_reducible apply cdX); exact rfl)
  refine iteF h (fun c1 h => ?_) (fun c1 h => ?_)
  · refine goS ?_
    refine bindG h fun y2 hy3 h => ?_
    refine exM ([(.d (.p (.bool y2)))], []) ?_ ?_
    · exact impl_in.ev hy3
    refine ifB h (fun c4 h => ?_) (fun c4 h => ?_)
    · exact retE (enc := impl_KeyOf.enc) h rfl
    · refine ⟨[[12, 13], [11], [11], [], [], []], [], by kernel_rfl, ?_⟩
      refine bindG h fun y5 hy6 h => ?_
      refine exM ([(.own true 1 (y5.map eS))], []) ?_ ?_
      · exact strings_Split.ev hy6
      refine bindG h fun x7 hx7 h => ?_
      refine anM (at_ix rfl hx7) ?_
      refine exM (eS x7) (at_get rfl hx7) ?_
      exact retE (enc := impl_KeyOf.enc) h rfl
  · refine bindG h fun y8 hy9 h => ?_
    refine exM ([(.d (.p (.bool y8)))], []) ?_ ?_
    · exact impl_in.ev hy9
    refine ifB h (fun c10 h => ?_) (fun c10 h => ?_)
    · refine ⟨[[21, 22], [20], [20], [], [], [], []], [], by kernel_rfl, ?_⟩
      refine bindG h fun y11 hy12 h => ?_
      refine exM ([(.own true 1 (y11.map eS))], []) ?_ ?_
      · exact strings_Split.ev hy12
      refine bindG h fun y13 hy14 h => ?_
      refine exM ([(.d (.p (.int .i64 y13)))], []) ?_ ?_
      · exact impl_keyPlace.ev hy14
      refine bindG h fun x15 hx15 h => ?_
      refine anM (at_ix rfl hx15) ?_
      refine exM (eS x15) (at_get rfl hx15) ?_
      exact retE (enc := impl_KeyOf.enc) h rfl
    · exact retE (enc := impl_KeyOf.enc) h rfl
def impl_plainForm.enc (r : impl_Node × ByteArray) : Res := ([(.agg (r.1.e.map .d)), (.d (.p (.string r.2)))], [])
def impl_plainForm.f  (K : Nat) (a0 : ByteArray) : Option (impl_Node × ByteArray) := if (a0.toList == (⟨#[112, 97, 105, 114]⟩ : ByteArray).toList) = true then (some ((⟨9, 0, 0, 0, 0, (⟨#[]⟩ : ByteArray), (⟨#[]⟩ : ByteArray)⟩ : impl_Node), (⟨#[101, 101]⟩ : ByteArray))) else (if (a0.toList == (⟨#[102, 115, 116]⟩ : ByteArray).toList) = true then (some ((⟨10, 0, 0, 0, 0, (⟨#[]⟩ : ByteArray), (⟨#[]⟩ : ByteArray)⟩ : impl_Node), (⟨#[101]⟩ : ByteArray))) else (if (a0.toList == (⟨#[115, 110, 100]⟩ : ByteArray).toList) = true then (some ((⟨11, 0, 0, 0, 0, (⟨#[]⟩ : ByteArray), (⟨#[]⟩ : ByteArray)⟩ : impl_Node), (⟨#[101]⟩ : ByteArray))) else (if (a0.toList == (⟨#[99, 111, 110, 115]⟩ : ByteArray).toList) = true then (some ((⟨13, 0, 0, 0, 0, (⟨#[]⟩ : ByteArray), (⟨#[]⟩ : ByteArray)⟩ : impl_Node), (⟨#[101, 101]⟩ : ByteArray))) else (if (a0.toList == (⟨#[114, 101, 102]⟩ : ByteArray).toList) = true then (some ((⟨15, 0, 0, 0, 0, (⟨#[]⟩ : ByteArray), (⟨#[]⟩ : ByteArray)⟩ : impl_Node), (⟨#[101]⟩ : ByteArray))) else (if (a0.toList == (⟨#[103, 101, 116]⟩ : ByteArray).toList) = true then (some ((⟨16, 0, 0, 0, 0, (⟨#[]⟩ : ByteArray), (⟨#[]⟩ : ByteArray)⟩ : impl_Node), (⟨#[101]⟩ : ByteArray))) else (if (a0.toList == (⟨#[115, 101, 116]⟩ : ByteArray).toList) = true then (some ((⟨17, 0, 0, 0, 0, (⟨#[]⟩ : ByteArray), (⟨#[]⟩ : ByteArray)⟩ : impl_Node), (⟨#[101, 101]⟩ : ByteArray))) else (if (a0.toList == (⟨#[114, 97, 105, 115, 101]⟩ : ByteArray).toList) = true then (some ((⟨18, 0, 0, 0, 0, (⟨#[]⟩ : ByteArray), (⟨#[]⟩ : ByteArray)⟩ : impl_Node), (⟨#[101]⟩ : ByteArray))) else (some ((⟨0, 0, 0, 0, 0, (⟨#[]⟩ : ByteArray), (⟨#[]⟩ : ByteArray)⟩ : impl_Node), (⟨#[]⟩ : ByteArray))))))))))
theorem impl_plainForm.ev   {K : Nat} {a0 : ByteArray} {r : impl_Node × ByteArray} (h : impl_plainForm.f  K a0 = some r) : E 105 [(.d (.p (.string a0)))] = some ([(.agg (r.1.e.map .d)), (.d (.p (.string r.2)))], []) := by
  refine Ev_intro (fn := Tryd.f105) rfl (by kernel_rfl) (c := _) rfl ⟨rfl, by simp⟩ rfl (evP_spec _ ?_)
  unfold impl_plainForm.f at h
  refine goS ?_
  try ((with_reducible apply cdX); exact rfl)
  refine ifB h (fun c1 h => ?_) (fun c1 h => ?_)
  · refine goS ?_
    exact retE (enc := impl_plainForm.enc) h rfl
  · try ((with_reducible apply cdX); exact rfl)
    refine ifB h (fun c2 h => ?_) (fun c2 h => ?_)
    · refine goS ?_
      exact retE (enc := impl_plainForm.enc) h rfl
    · try ((with_reducible apply cdX); exact rfl)
      refine ifB h (fun c3 h => ?_) (fun c3 h => ?_)
      · refine goS ?_
        exact retE (enc := impl_plainForm.enc) h rfl
      · try ((with_reducible apply cdX); exact rfl)
        refine ifB h (fun c4 h => ?_) (fun c4 h => ?_)
        · refine goS ?_
          exact retE (enc := impl_plainForm.enc) h rfl
        · try ((with_reducible apply cdX); exact rfl)
          refine ifB h (fun c5 h => ?_) (fun c5 h => ?_)
          · refine goS ?_
            exact retE (enc := impl_plainForm.enc) h rfl
          · try ((with_reducible apply cdX); exact rfl)
            refine ifB h (fun c6 h => ?_) (fun c6 h => ?_)
            · refine goS ?_
              exact retE (enc := impl_plainForm.enc) h rfl
            · try ((with_reducible apply cdX); exact rfl)
              refine ifB h (fun c7 h => ?_) (fun c7 h => ?_)
              · refine goS ?_
                exact retE (enc := impl_plainForm.enc) h rfl
              · try ((with_reducible apply cdX); exact rfl)
                refine ifB h (fun c8 h => ?_) (fun c8 h => ?_)
                · refine goS ?_
                  exact retE (enc := impl_plainForm.enc) h rfl
                · refine goS ?_
                  exact retE (enc := impl_plainForm.enc) h rfl
def impl_formOf.enc (r : impl_Node × ByteArray) : Res := ([(.agg (r.1.e.map .d)), (.d (.p (.string r.2)))], [])
def impl_formOf.f  (K : Nat) (a0 : ByteArray) : Option (impl_Node × ByteArray) := if (a0.toList == (⟨#[102, 117, 110]⟩ : ByteArray).toList) = true then (some ((⟨3, 0, 0, 0, 0, (⟨#[]⟩ : ByteArray), (⟨#[]⟩ : ByteArray)⟩ : impl_Node), (⟨#[110, 101]⟩ : ByteArray))) else (if (a0.toList == (⟨#[97, 112, 112]⟩ : ByteArray).toList) = true then (some ((⟨4, 0, 0, 0, 0, (⟨#[]⟩ : ByteArray), (⟨#[]⟩ : ByteArray)⟩ : impl_Node), (⟨#[101, 101]⟩ : ByteArray))) else (if (a0.toList == (⟨#[108, 101, 116]⟩ : ByteArray).toList) = true then (some ((⟨5, 0, 0, 0, 0, (⟨#[]⟩ : ByteArray), (⟨#[]⟩ : ByteArray)⟩ : impl_Node), (⟨#[110, 101, 101]⟩ : ByteArray))) else (if (a0.toList == (⟨#[114, 101, 99]⟩ : ByteArray).toList) = true then (some ((⟨6, 0, 0, 0, 0, (⟨#[]⟩ : ByteArray), (⟨#[]⟩ : ByteArray)⟩ : impl_Node), (⟨#[110, 110, 101, 101]⟩ : ByteArray))) else (if (a0.toList == (⟨#[105, 102]⟩ : ByteArray).toList) = true then (some ((⟨7, 0, 0, 0, 0, (⟨#[]⟩ : ByteArray), (⟨#[]⟩ : ByteArray)⟩ : impl_Node), (⟨#[101, 101, 101]⟩ : ByteArray))) else (if (a0.toList == (⟨#[97, 100, 100]⟩ : ByteArray).toList) = true then (some ((⟨8, 0, 0, 0, 0, (⟨#[]⟩ : ByteArray), (⟨#[]⟩ : ByteArray)⟩ : impl_Node), (⟨#[101, 101]⟩ : ByteArray))) else (if (a0.toList == (⟨#[115, 117, 98]⟩ : ByteArray).toList) = true then (some ((⟨8, 0, 0, 0, 1, (⟨#[]⟩ : ByteArray), (⟨#[]⟩ : ByteArray)⟩ : impl_Node), (⟨#[101, 101]⟩ : ByteArray))) else (if (a0.toList == (⟨#[108, 101, 115, 115]⟩ : ByteArray).toList) = true then (some ((⟨8, 0, 0, 0, 2, (⟨#[]⟩ : ByteArray), (⟨#[]⟩ : ByteArray)⟩ : impl_Node), (⟨#[101, 101]⟩ : ByteArray))) else (if (a0.toList == (⟨#[115, 97, 109, 101]⟩ : ByteArray).toList) = true then (some ((⟨8, 0, 0, 0, 3, (⟨#[]⟩ : ByteArray), (⟨#[]⟩ : ByteArray)⟩ : impl_Node), (⟨#[101, 101]⟩ : ByteArray))) else (if (a0.toList == (⟨#[109, 97, 116, 99, 104]⟩ : ByteArray).toList) = true then (some ((⟨14, 0, 0, 0, 0, (⟨#[]⟩ : ByteArray), (⟨#[]⟩ : ByteArray)⟩ : impl_Node), (⟨#[101, 101, 110, 110, 101]⟩ : ByteArray))) else (if (a0.toList == (⟨#[116, 114, 121]⟩ : ByteArray).toList) = true then (some ((⟨19, 0, 0, 0, 0, (⟨#[]⟩ : ByteArray), (⟨#[]⟩ : ByteArray)⟩ : impl_Node), (⟨#[101, 110, 101]⟩ : ByteArray))) else ((impl_plainForm.f K a0).bind fun (y12, y13) => (some (y12, y13)))))))))))))
theorem impl_formOf.ev   {K : Nat} {a0 : ByteArray} {r : impl_Node × ByteArray} (h : impl_formOf.f  K a0 = some r) : E 72 [(.d (.p (.string a0)))] = some ([(.agg (r.1.e.map .d)), (.d (.p (.string r.2)))], []) := by
  refine Ev_intro (fn := Tryd.f72) rfl (by kernel_rfl) (c := _) rfl ⟨rfl, by simp⟩ rfl (evP_spec _ ?_)
  unfold impl_formOf.f at h
  refine goS ?_
  try ((with_reducible apply cdX); exact rfl)
  refine ifB h (fun c1 h => ?_) (fun c1 h => ?_)
  · refine goS ?_
    exact retE (enc := impl_formOf.enc) h rfl
  · try ((with_reducible apply cdX); exact rfl)
    refine ifB h (fun c2 h => ?_) (fun c2 h => ?_)
    · refine goS ?_
      exact retE (enc := impl_formOf.enc) h rfl
    · try ((with_reducible apply cdX); exact rfl)
      refine ifB h (fun c3 h => ?_) (fun c3 h => ?_)
      · refine goS ?_
        exact retE (enc := impl_formOf.enc) h rfl
      · try ((with_reducible apply cdX); exact rfl)
        refine ifB h (fun c4 h => ?_) (fun c4 h => ?_)
        · refine goS ?_
          exact retE (enc := impl_formOf.enc) h rfl
        · try ((with_reducible apply cdX); exact rfl)
          refine ifB h (fun c5 h => ?_) (fun c5 h => ?_)
          · refine goS ?_
            exact retE (enc := impl_formOf.enc) h rfl
          · try ((with_reducible apply cdX); exact rfl)
            refine ifB h (fun c6 h => ?_) (fun c6 h => ?_)
            · refine goS ?_
              exact retE (enc := impl_formOf.enc) h rfl
            · try ((with_reducible apply cdX); exact rfl)
              refine ifB h (fun c7 h => ?_) (fun c7 h => ?_)
              · refine goS ?_
                exact retE (enc := impl_formOf.enc) h rfl
              · try ((with_reducible apply cdX); exact rfl)
                refine ifB h (fun c8 h => ?_) (fun c8 h => ?_)
                · refine goS ?_
                  exact retE (enc := impl_formOf.enc) h rfl
                · try ((with_reducible apply cdX); exact rfl)
                  refine ifB h (fun c9 h => ?_) (fun c9 h => ?_)
                  · refine goS ?_
                    exact retE (enc := impl_formOf.enc) h rfl
                  · try ((with_reducible apply cdX); exact rfl)
                    refine ifB h (fun c10 h => ?_) (fun c10 h => ?_)
                    · refine goS ?_
                      exact retE (enc := impl_formOf.enc) h rfl
                    · try ((with_reducible apply cdX); exact rfl)
                      refine ifB h (fun c11 h => ?_) (fun c11 h => ?_)
                      · refine goS ?_
                        exact retE (enc := impl_formOf.enc) h rfl
                      · refine goS ?_
                        refine bindG h ?_
                        rintro ⟨y12, y13⟩ hy14 h
                        refine exM ([(.agg (y12.e.map .d)), (.d (.p (.string y13)))], []) ?_ ?_
                        · exact impl_plainForm.ev hy14
                        exact retE (enc := impl_formOf.enc) h rfl
def impl_printNode.enc (r : ByteArray) : Res := ([(.d (.p (.string r)))], [])
def impl_printNode.l0 (r_impl_printNode : (List impl_Node) → Int → Option (ByteArray)) (a0 : List impl_Node) (y10 : ByteArray) (K : Nat) : Nat → (List ByteArray) → (List Int) → Int → (List ByteArray) → Option (List ByteArray)
  | 0, _, _, _, _ => none
  | k + 1, v15, v16, v17, v18 => if v17 < (y10.size : Int) then (jn (fun (v21, v22, v23) => impl_printNode.l0 r_impl_printNode a0 y10 K k v21 v22 (w64 (v17 + 1)) v23) (fun j => (atS y10 v17).bind fun x24 => (if (x24.toNat : Int) = 110 then ((at_ v15 0).bind fun x26 => (gd ((v18.length + 1) * 16 ≤ 140737488355328) (gd (0 ≤ (1 : Int) ∧ (1 : Int) ≤ (v15.length : Int)) (j ((v15.drop ((1 : Int)).toNat), v16, (v18 ++ ([x26] : List ByteArray))))))) else ((at_ v16 0).bind fun x27 => ((r_impl_printNode a0 x27).bind fun y28 => (gd ((v18.length + 1) * 16 ≤ 140737488355328) (gd (0 ≤ (1 : Int) ∧ (1 : Int) ≤ (v16.length : Int)) (j (v15, (v16.drop ((1 : Int)).toNat), (v18 ++ ([y28] : List ByteArray))))))))))) else (some v18)
def impl_printNode.b (r_impl_printNode : (List impl_Node) → Int → Option (ByteArray)) (K : Nat) (a0 : List impl_Node) (a1 : Int) : Option (ByteArray) := (at_ a0 a1).bind fun x1 => (if x1.Kind = 2 then ((impl_Dec.f x1.N).bind fun y3 => (some y3)) else (if x1.Kind = 1 then (some x1.Name) else (if x1.Kind = 12 then (some (⟨#[110, 105, 108]⟩ : ByteArray)) else ((impl_KeyOf.f K x1).bind fun y7 => ((impl_formOf.f K y7).bind fun (y9, y10) => ((impl_Kids.f K x1).bind fun y12 => (jn (fun (v14 : List ByteArray) => (strings_Join.f v14 (⟨#[32]⟩ : ByteArray)).bind fun y30 => (gd ((⟨#[40]⟩ : ByteArray).size + y30.size ≤ 9223372036854775807) (gd (((⟨#[40]⟩ : ByteArray) ++ y30).size + (⟨#[41]⟩ : ByteArray).size ≤ 9223372036854775807) (some (((⟨#[40]⟩ : ByteArray) ++ y30) ++ (⟨#[41]⟩ : ByteArray)))))) (fun j => (impl_printNode.l0 r_impl_printNode a0 y10 K K ([x1.Name, x1.Other] : List ByteArray) y12 0 ([y7] : List ByteArray)).bind fun (v19 : List ByteArray) => j v19))))))))
theorem impl_printNode.b_ev {r_impl_printNode : (List impl_Node) → Int → Option (ByteArray)} (hr_impl_printNode : ∀ {a0 : List impl_Node} {a1 : Int} {r : ByteArray}, r_impl_printNode a0 a1 = some r → E 42 [(.d (.l true 7 (a0.map impl_Node.e))), (.d (.p (.int .i64 a1)))] = some ([(.d (.p (.string r)))], [])) {K : Nat} {a0 : List impl_Node} {a1 : Int} {r : ByteArray} (h : impl_printNode.b r_impl_printNode K a0 a1 = some r) : E 42 [(.d (.l true 7 (a0.map impl_Node.e))), (.d (.p (.int .i64 a1)))] = some ([(.d (.p (.string r)))], []) := by
  refine Ev_intro (fn := Tryd.f42) rfl (by kernel_rfl) (c := _) rfl ⟨rfl, by simp⟩ rfl (evP_spec _ ?_)
  unfold impl_printNode.b at h
  refine goS ?_
  refine bindG h fun x1 hx1 h => ?_
  refine anM (at_ix rfl hx1) ?_
  refine exM (impl_Node.e x1) (at_get rfl hx1) ?_
  refine goS ?_
  try ((with_reducible apply cdX); exact rfl)
  refine iteF h (fun c2 h => ?_) (fun c2 h => ?_)
  · refine bindG h fun y3 hy4 h => ?_
    refine exM ([(.d (.p (.string y3)))], []) ?_ ?_
    · exact impl_Dec.ev hy4
    exact retE (enc := impl_printNode.enc) h rfl
  · try ((with_reducible apply cdX); exact rfl)
    refine iteF h (fun c5 h => ?_) (fun c5 h => ?_)
    · exact retE (enc := impl_printNode.enc) h rfl
    · try ((with_reducible apply cdX); exact rfl)
      refine iteF h (fun c6 h => ?_) (fun c6 h => ?_)
      · exact retE (enc := impl_printNode.enc) h rfl
      · refine bindG h fun y7 hy8 h => ?_
        refine exM ([(.d (.p (.string y7)))], []) ?_ ?_
        · exact impl_KeyOf.ev hy8
        refine goS ?_
        refine bindG h ?_
        rintro ⟨y9, y10⟩ hy11 h
        refine exM ([(.agg (y9.e.map .d)), (.d (.p (.string y10)))], []) ?_ ?_
        · exact impl_formOf.ev hy11
        refine eqM (([y7] : List ByteArray).map eS) rfl ?_
        refine eqM (([x1.Name, x1.Other] : List ByteArray).map eS) rfl ?_
        refine bindG h fun y12 hy13 h => ?_
        refine exM ([(.d (.l true 1 (y12.map eI)))], []) ?_ ?_
        · exact impl_Kids.ev hy13
        refine seqJ h 78 (fun x => [(9, (.own 9 1 2))]) (fun x => [(9, 1, 2, (some (.row true true 1 (x.map eS))))]) (fun J h => ?_) ?_
        · refine loopX (α := List ByteArray × List Int × Int × List ByteArray) (a := (([x1.Name, x1.Other] : List ByteArray), y12, 0, ([y7] : List ByteArray))) 78 (fun x => [(0, (.d (.l true 7 (a0.map impl_Node.e)))), (8, (.d (.p (.string y10)))), (9, (.own 9 1 2)), (10, (.d (.l true 1 (x.1.map eS)))), (11, (.d (.l true 1 (x.2.1.map eI)))), (12, (.d (.p (.int .i64 x.2.2.1))))]) (fun x => [(9, 1, 2, (some (.row true true 1 (x.2.2.2.map eS))))]) (fun k x => impl_printNode.l0 r_impl_printNode a0 y10 K k x.1 x.2.1 x.2.2.1 x.2.2.2) 1 (fun x => [(9, (.own 9 1 2))]) (fun x => [(9, 1, 2, (some (.row true true 1 (x.map eS))))]) h (fun _ => rfl) ?_ ⟨rfl, ⟨rfl, rfl, rfl, rfl, rfl, rfl, trivial⟩, ⟨rfl, trivial⟩⟩ ?_
          · rintro k ⟨v15, v16, v17, v18⟩ r h e hp
            replace h : impl_printNode.l0 r_impl_printNode a0 y10 K (k + 1) v15 v16 v17 v18 = some r := h
            unfold impl_printNode.l0 at h
            refine goS ?_
            try ((with_reducible apply cdX); exact rfl)
            refine iteF h (fun c20 h => ?_) (fun c20 h => ?_)
            · refine seqJ h 78 (fun x => [(0, (.d (.l true 7 (a0.map impl_Node.e)))), (8, (.d (.p (.string y10)))), (9, (.own 9 1 2)), (10, (.d (.l true 1 (x.1.map eS)))), (11, (.d (.l true 1 (x.2.1.map eI)))), (12, (.d (.p (.int .i64 v17))))]) (fun x => [(9, 1, 2, (some (.row true true 1 (x.2.2.map eS))))]) (fun J h => ?_) ?_
              · refine bindG h fun x24 hx24 h => ?_
                refine exM x24 hx24 ?_
                refine iteF h (fun c25 h => ?_) (fun c25 h => ?_)
                · refine bindG h fun x26 hx26 h => ?_
                  refine anM (at_ix rfl hx26) ?_
                  refine exM (eS x26) (at_get rfl hx26) ?_
                  refine eqM (([x26] : List ByteArray).map eS) rfl ?_
                  refine gdG h fun hc h => ?_
                  refine anM (apB hc) ?_
                  refine eqM ((v18 ++ ([x26] : List ByteArray)).map eS) (mApp rfl rfl) ?_
                  refine gdG h fun hc h => ?_
                  refine anM (slN hc) ?_
                  refine eqM ((v15.drop ((1 : Int)).toNat).map eS) mDropN ?_
                  exact ⟨((v15.drop ((1 : Int)).toNat), v16, (v18 ++ ([x26] : List ByteArray))), h, ⟨rfl, ⟨rfl, rfl, rfl, rfl, rfl, rfl, trivial⟩, ⟨rfl, trivial⟩⟩⟩
                · refine bindG h fun x27 hx27 h => ?_
                  refine anM (at_ix rfl hx27) ?_
                  refine exM (eI x27) (at_get rfl hx27) ?_
                  refine bindG h fun y28 hy29 h => ?_
                  refine exM ([(.d (.p (.string y28)))], []) ?_ ?_
                  · exact hr_impl_printNode hy29
                  refine eqM (([y28] : List ByteArray).map eS) rfl ?_
                  refine gdG h fun hc h => ?_
                  refine anM (apB hc) ?_
                  refine eqM ((v18 ++ ([y28] : List ByteArray)).map eS) (mApp rfl rfl) ?_
                  refine gdG h fun hc h => ?_
                  refine anM (slN hc) ?_
                  refine eqM ((v16.drop ((1 : Int)).toNat).map eI) mDropN ?_
                  exact ⟨(v15, (v16.drop ((1 : Int)).toNat), (v18 ++ ([y28] : List ByteArray))), h, ⟨rfl, ⟨rfl, rfl, rfl, rfl, rfl, rfl, trivial⟩, ⟨rfl, trivial⟩⟩⟩
              · rintro ⟨v21, v22, v23⟩ h e hp
                exact ⟨(v21, v22, (w64 (v17 + 1)), v23), h, ⟨rfl, ⟨rfl, rfl, rfl, rfl, rfl, rfl, trivial⟩, ⟨rfl, trivial⟩⟩⟩
            · refine exQ h ?_
              exact ⟨rfl, ⟨rfl, trivial⟩, ⟨rfl, trivial⟩⟩
          · rintro v19 S' h ⟨qn, ⟨qa0, _⟩, ⟨qb0, _⟩⟩
            exact ⟨v19, h, ⟨qn, ⟨qa0, trivial⟩, ⟨qb0, trivial⟩⟩⟩
        · rintro v14 h e hp
          refine bindG h fun y30 hy31 h => ?_
          refine exM ([(.d (.p (.string y30)))], []) ?_ ?_
          · exact strings_Join.ev hy31
          refine gdG h fun hc h => ?_
          refine anM hc ?_
          refine gdG h fun hc h => ?_
          refine anM hc ?_
          exact retE (enc := impl_printNode.enc) h rfl
def impl_printNode.r (K : Nat) : Nat → (List impl_Node) → Int → Option (ByteArray)
  | 0, _, _ => none
  | d + 1, a0, a1 => impl_printNode.b (impl_printNode.r K d) K a0 a1
theorem impl_printNode.r_ev {K : Nat} : ∀ (d : Nat) {a0 : List impl_Node} {a1 : Int} {r : ByteArray}, impl_printNode.r K d a0 a1 = some r → E 42 [(.d (.l true 7 (a0.map impl_Node.e))), (.d (.p (.int .i64 a1)))] = some ([(.d (.p (.string r)))], []) := by
  intro d
  induction d with
  | zero => intro a0 a1 r h; cases h
  | succ d ih => intro a0 a1 r h; exact impl_printNode.b_ev ih h
def impl_printNode.f (K : Nat) (a0 : List impl_Node) (a1 : Int) : Option (ByteArray) := impl_printNode.r K K a0 a1
theorem impl_printNode.ev {K : Nat} {a0 : List impl_Node} {a1 : Int} {r : ByteArray} (h : impl_printNode.f K a0 a1 = some r) : E 42 [(.d (.l true 7 (a0.map impl_Node.e))), (.d (.p (.int .i64 a1)))] = some ([(.d (.p (.string r)))], []) := impl_printNode.r_ev K h
def impl_PrintPart.enc (r : ByteArray) : Res := ([(.d (.p (.string r)))], [])
def impl_PrintPart.f  (K : Nat) (a0 : List impl_Node) (a1 : Int) : Option (ByteArray) := (impl_StartOf.f K a0 a1).bind fun y1 => (if y1 < 0 then (some (⟨#[]⟩ : ByteArray)) else ((impl_printNode.f K a0 a1).bind fun y4 => (some y4)))
theorem impl_PrintPart.ev   {K : Nat} {a0 : List impl_Node} {a1 : Int} {r : ByteArray} (h : impl_PrintPart.f  K a0 a1 = some r) : E 13 [(.d (.l true 7 (a0.map impl_Node.e))), (.d (.p (.int .i64 a1)))] = some ([(.d (.p (.string r)))], []) := by
  refine Ev_intro (fn := Tryd.f13) rfl (by kernel_rfl) (c := _) rfl ⟨rfl, by simp⟩ rfl (evP_spec _ ?_)
  unfold impl_PrintPart.f at h
  refine goS ?_
  refine bindG h fun y1 hy2 h => ?_
  refine exM ([(.d (.p (.int .i64 y1)))], []) ?_ ?_
  · exact impl_StartOf.ev hy2
  refine iteF h (fun c3 h => ?_) (fun c3 h => ?_)
  · exact retE (enc := impl_PrintPart.enc) h rfl
  · refine bindG h fun y4 hy5 h => ?_
    refine exM ([(.d (.p (.string y4)))], []) ?_ ?_
    · exact impl_printNode.ev hy5
    exact retE (enc := impl_PrintPart.enc) h rfl
def impl_Print.enc (r : ByteArray) : Res := ([(.d (.p (.string r)))], [])
def impl_Print.f  (K : Nat) (a0 : List impl_Node) : Option (ByteArray) := (impl_NodesOk.f K a0).bind fun y1 => (if (!y1) = true then (some (⟨#[]⟩ : ByteArray)) else ((impl_printNode.f K a0 (w64 ((a0.length : Int) - 1))).bind fun y4 => (some y4)))
theorem impl_Print.ev   {K : Nat} {a0 : List impl_Node} {r : ByteArray} (h : impl_Print.f  K a0 = some r) : E 14 [(.d (.l true 7 (a0.map impl_Node.e)))] = some ([(.d (.p (.string r)))], []) := by
  refine Ev_intro (fn := Tryd.f14) rfl (by kernel_rfl) (c := _) rfl ⟨rfl, by simp⟩ rfl (evP_spec _ ?_)
  unfold impl_Print.f at h
  refine goS ?_
  refine bindG h fun y1 hy2 h => ?_
  refine exM ([(.d (.p (.bool y1)))], []) ?_ ?_
  · exact impl_NodesOk.ev hy2
  refine ifB h (fun c3 h => ?_) (fun c3 h => ?_)
  · exact retE (enc := impl_Print.enc) h rfl
  · refine eqM ((a0.length : Int) : Int) (mLen rfl) ?_
    refine bindG h fun y4 hy5 h => ?_
    refine exM ([(.d (.p (.string y4)))], []) ?_ ?_
    · exact impl_printNode.ev hy5
    exact retE (enc := impl_Print.enc) h rfl
def impl_parents.enc (r : List Int) : Res := ([(.own true 1 (r.map eI))], [])
def impl_parents.l0 (a0 : List impl_Node) (K : Nat) : Nat → Int → (List Int) → Option (List Int)
  | 0, _, _ => none
  | k + 1, v2, v3 => if v2 < ((List.replicate ((a0.length : Int)).toNat (0 : Int)).length : Int) then ((at_ v3 v2).bind fun x6 => (impl_parents.l0 a0 K k (w64 (v2 + 1)) (v3.set (v2).toNat (-1)))) else (some v3)
def impl_parents.l2 (v8 : Int) (y14 : List Int) (K : Nat) : Nat → Int → (List Int) → Option (List Int)
  | 0, _, _ => none
  | k + 1, v16, v17 => if v16 < (y14.length : Int) then ((at_ y14 v16).bind fun x20 => ((at_ v17 x20).bind fun x21 => (impl_parents.l2 v8 y14 K k (w64 (v16 + 1)) (v17.set (x20).toNat v8)))) else (some v17)
def impl_parents.l1 (a0 : List impl_Node) (K : Nat) : Nat → Int → (List Int) → Option (List Int)
  | 0, _, _ => none
  | k + 1, v8, v9 => if v8 < (a0.length : Int) then (jn (fun (v12 : List Int) => impl_parents.l1 a0 K k (w64 (v8 + 1)) v12) (fun j => (at_ a0 v8).bind fun x13 => ((impl_Kids.f K x13).bind fun y14 => ((impl_parents.l2 v8 y14 K K 0 v9).bind fun (v18 : List Int) => j v18)))) else (some v9)
def impl_parents.f  (K : Nat) (a0 : List impl_Node) : Option (List Int) := gd (0 ≤ (a0.length : Int) ∧ 8 * (a0.length : Int) ≤ 140737488355328 ∧ (a0.length : Int) ≤ 140737488355328) (jn (fun (v1 : List Int) => jn (fun (v7 : List Int) => some v7) (fun j => (impl_parents.l1 a0 K K 0 v1).bind fun (v10 : List Int) => j v10)) (fun j => (impl_parents.l0 a0 K K 0 (List.replicate ((a0.length : Int)).toNat (0 : Int))).bind fun (v4 : List Int) => j v4))
theorem impl_parents.ev   {K : Nat} {a0 : List impl_Node} {r : List Int} (h : impl_parents.f  K a0 = some r) : E 43 [(.d (.l true 7 (a0.map impl_Node.e)))] = some ([(.own true 1 (r.map eI))], []) := by
  refine Ev_intro (fn := Tryd.f43) rfl (by kernel_rfl) (c := _) rfl ⟨rfl, by simp⟩ rfl (evP_spec _ ?_)
  unfold impl_parents.f at h
  refine eqM ((a0.length : Int) : Int) (mLen rfl) ?_
  refine gdG h fun hc h => ?_
  refine anM ⟨rfl, hc⟩ ?_
  refine eqM ((List.replicate ((a0.length : Int)).toNat (0 : Int)).map eI) (mRep rfl) ?_
  refine seqJ h 42 (fun x => [(0, (.d (.l true 7 (a0.map impl_Node.e)))), (3, (.own 3 1 2))]) (fun x => [(3, 1, 2, (some (.row true true 1 (x.map eI))))]) (fun J h => ?_) ?_
  · refine eqM (((List.replicate ((a0.length : Int)).toNat (0 : Int)).length : Int) : Int) (mLen rfl) ?_
    refine loopX (α := Int × List Int) (a := (0, (List.replicate ((a0.length : Int)).toNat (0 : Int)))) 42 (fun x => [(0, (.d (.l true 7 (a0.map impl_Node.e)))), (3, (.own 3 1 2)), (13, (.d (.p (.int .i64 ((List.replicate ((a0.length : Int)).toNat (0 : Int)).length : Int))))), (14, (.d (.p (.int .i64 x.1))))]) (fun x => [(3, 1, 2, (some (.row true true 1 (x.2.map eI))))]) (fun k x => impl_parents.l0 a0 K k x.1 x.2) 0 (fun x => [(0, (.d (.l true 7 (a0.map impl_Node.e)))), (3, (.own 3 1 2))]) (fun x => [(3, 1, 2, (some (.row true true 1 (x.map eI))))]) h (fun _ => rfl) ?_ ⟨rfl, ⟨rfl, rfl, rfl, rfl, trivial⟩, ⟨rfl, trivial⟩⟩ ?_
    · rintro k ⟨v2, v3⟩ r h e hp
      replace h : impl_parents.l0 a0 K (k + 1) v2 v3 = some r := h
      unfold impl_parents.l0 at h
      refine goS ?_
      try ((with_reducible apply cdX); exact rfl)
      refine iteF h (fun c5 h => ?_) (fun c5 h => ?_)
      · refine goS ?_
        refine bindG h fun x6 hx6 h => ?_
        refine anM (at_ix rfl hx6) ?_
        refine exM (eI x6) (at_get rfl hx6) ?_
        refine eqM ((v3.set (v2).toNat (-1)).map eI) (mSet rfl rfl) ?_
        exact ⟨((w64 (v2 + 1)), (v3.set (v2).toNat (-1))), h, ⟨rfl, ⟨rfl, rfl, rfl, rfl, trivial⟩, ⟨rfl, trivial⟩⟩⟩
      · refine exQ h ?_
        exact ⟨rfl, ⟨rfl, rfl, trivial⟩, ⟨rfl, trivial⟩⟩
    · rintro v4 S' h ⟨qn, ⟨qa0, qa1, _⟩, ⟨qb0, _⟩⟩
      exact ⟨v4, h, ⟨qn, ⟨qa0, qa1, trivial⟩, ⟨qb0, trivial⟩⟩⟩
  · rintro v1 h e hp
    refine seqJ h 42 (fun x => [(3, (.own 3 1 2))]) (fun x => [(3, 1, 2, (some (.row true true 1 (x.map eI))))]) (fun J h => ?_) ?_
    · refine eqM ((a0.length : Int) : Int) (mLen rfl) ?_
      refine loopX (α := Int × List Int) (a := (0, v1)) 42 (fun x => [(3, (.own 3 1 2)), (21, (.d (.l true 7 (a0.map impl_Node.e)))), (22, (.d (.p (.int .i64 (a0.length : Int))))), (23, (.d (.p (.int .i64 x.1))))]) (fun x => [(3, 1, 2, (some (.row true true 1 (x.2.map eI))))]) (fun k x => impl_parents.l1 a0 K k x.1 x.2) 2 (fun x => [(3, (.own 3 1 2))]) (fun x => [(3, 1, 2, (some (.row true true 1 (x.map eI))))]) h (fun _ => rfl) ?_ ⟨rfl, ⟨rfl, rfl, rfl, rfl, trivial⟩, ⟨rfl, trivial⟩⟩ ?_
      · rintro k ⟨v8, v9⟩ r h e hp
        replace h : impl_parents.l1 a0 K (k + 1) v8 v9 = some r := h
        unfold impl_parents.l1 at h
        refine goS ?_
        try ((with_reducible apply cdX); exact rfl)
        refine iteF h (fun c11 h => ?_) (fun c11 h => ?_)
        · refine seqJ h 42 (fun x => [(3, (.own 3 1 2)), (21, (.d (.l true 7 (a0.map impl_Node.e)))), (22, (.d (.p (.int .i64 (a0.length : Int))))), (23, (.d (.p (.int .i64 v8))))]) (fun x => [(3, 1, 2, (some (.row true true 1 (x.map eI))))]) (fun J h => ?_) ?_
          · refine goS ?_
            refine bindG h fun x13 hx13 h => ?_
            refine anM (at_ix rfl hx13) ?_
            refine exM (impl_Node.e x13) (at_get rfl hx13) ?_
            refine bindG h fun y14 hy15 h => ?_
            refine exM ([(.d (.l true 1 (y14.map eI)))], []) ?_ ?_
            · exact impl_Kids.ev hy15
            refine eqM ((y14.length : Int) : Int) (mLen rfl) ?_
            refine loopX (α := Int × List Int) (a := (0, v9)) 42 (fun x => [(3, (.own 3 1 2)), (5, (.d (.p (.int .i64 v8)))), (21, (.d (.l true 7 (a0.map impl_Node.e)))), (22, (.d (.p (.int .i64 (a0.length : Int))))), (23, (.d (.p (.int .i64 v8)))), (29, (.d (.l true 1 (y14.map eI)))), (30, (.d (.p (.int .i64 (y14.length : Int))))), (31, (.d (.p (.int .i64 x.1))))]) (fun x => [(3, 1, 2, (some (.row true true 1 (x.2.map eI))))]) (fun k x => impl_parents.l2 v8 y14 K k x.1 x.2) 4 (fun x => [(3, (.own 3 1 2)), (21, (.d (.l true 7 (a0.map impl_Node.e)))), (22, (.d (.p (.int .i64 (a0.length : Int))))), (23, (.d (.p (.int .i64 v8))))]) (fun x => [(3, 1, 2, (some (.row true true 1 (x.map eI))))]) h (fun _ => rfl) ?_ ⟨rfl, ⟨rfl, rfl, rfl, rfl, rfl, rfl, rfl, rfl, trivial⟩, ⟨rfl, trivial⟩⟩ ?_
            · rintro k ⟨v16, v17⟩ r h e hp
              replace h : impl_parents.l2 v8 y14 K (k + 1) v16 v17 = some r := h
              unfold impl_parents.l2 at h
              refine goS ?_
              try ((with_reducible apply cdX); exact rfl)
              refine iteF h (fun c19 h => ?_) (fun c19 h => ?_)
              · refine goS ?_
                refine bindG h fun x20 hx20 h => ?_
                refine anM (at_ix rfl hx20) ?_
                refine exM (eI x20) (at_get rfl hx20) ?_
                refine bindG h fun x21 hx21 h => ?_
                refine anM (at_ix rfl hx21) ?_
                refine exM (eI x21) (at_get rfl hx21) ?_
                refine eqM ((v17.set (x20).toNat v8).map eI) (mSet rfl rfl) ?_
                exact ⟨((w64 (v16 + 1)), (v17.set (x20).toNat v8)), h, ⟨rfl, ⟨rfl, rfl, rfl, rfl, rfl, rfl, rfl, rfl, trivial⟩, ⟨rfl, trivial⟩⟩⟩
              · refine exQ h ?_
                exact ⟨rfl, ⟨rfl, rfl, rfl, rfl, trivial⟩, ⟨rfl, trivial⟩⟩
            · rintro v18 S' h ⟨qn, ⟨qa0, qa1, qa2, qa3, _⟩, ⟨qb0, _⟩⟩
              exact ⟨v18, h, ⟨qn, ⟨qa0, qa1, qa2, qa3, trivial⟩, ⟨qb0, trivial⟩⟩⟩
          · rintro v12 h e hp
            exact ⟨((w64 (v8 + 1)), v12), h, ⟨rfl, ⟨rfl, rfl, rfl, rfl, trivial⟩, ⟨rfl, trivial⟩⟩⟩
        · refine exQ h ?_
          exact ⟨rfl, ⟨rfl, trivial⟩, ⟨rfl, trivial⟩⟩
      · rintro v10 S' h ⟨qn, ⟨qa0, _⟩, ⟨qb0, _⟩⟩
        exact ⟨v10, h, ⟨qn, ⟨qa0, trivial⟩, ⟨qb0, trivial⟩⟩⟩
    · rintro v7 h e hp
      exact retE (enc := impl_parents.enc) h rfl
def impl_ParentOf.enc (r : Int) : Res := ([(.d (.p (.int .i64 r)))], [])
def impl_ParentOf.f  (K : Nat) (a0 : List impl_Node) (a1 : Int) : Option (Int) := jn (fun (v1 : Bool) => if v1 = true then (some (-1)) else ((impl_parents.f K a0).bind fun y8 => ((at_ y8 a1).bind fun x10 => (some x10)))) (fun j => (impl_NodesOk.f K a0).bind fun y2 => (if (!y2) = true then (j true) else ((impl_in.f K a1 0 (w64 ((a0.length : Int) - 1))).bind fun y5 => (j (!y5)))))
theorem impl_ParentOf.ev   {K : Nat} {a0 : List impl_Node} {a1 : Int} {r : Int} (h : impl_ParentOf.f  K a0 a1 = some r) : E 15 [(.d (.l true 7 (a0.map impl_Node.e))), (.d (.p (.int .i64 a1)))] = some ([(.d (.p (.int .i64 r)))], []) := by
  refine Ev_intro (fn := Tryd.f15) rfl (by kernel_rfl) (c := _) rfl ⟨rfl, by simp⟩ rfl (evP_spec _ ?_)
  unfold impl_ParentOf.f at h
  refine goS ?_
  refine seqJ h 21 (fun x => [(0, (.d (.l true 7 (a0.map impl_Node.e)))), (1, (.d (.p (.int .i64 a1)))), (15, (.d (.p (.bool x))))]) (fun x => []) (fun J h => ?_) ?_
  · refine bindG h fun y2 hy3 h => ?_
    refine exM ([(.d (.p (.bool y2)))], []) ?_ ?_
    · exact impl_NodesOk.ev hy3
    refine ifB h (fun c4 h => ?_) (fun c4 h => ?_)
    · refine Ask.T rfl ?_
      refine Ask.T rfl ?_
      refine Ask.T rfl ?_
      refine Ask.T rfl ?_
      refine Ask.T rfl ?_
      refine Ask.T rfl ?_
      exact ⟨true, h, ⟨rfl, ⟨rfl, rfl, rfl, trivial⟩, trivial⟩⟩
    · refine Ask.F rfl ?_
      refine Ask.F rfl ?_
      refine eqM ((a0.length : Int) : Int) (mLen rfl) ?_
      refine Ask.F rfl ?_
      refine Ask.F rfl ?_
      refine bindG h fun y5 hy6 h => ?_
      refine exM ([(.d (.p (.bool y5)))], []) ?_ ?_
      · exact impl_in.ev hy6
      refine Ask.F rfl ?_
      refine Ask.F rfl ?_
      exact ⟨(!y5), h, ⟨rfl, ⟨rfl, rfl, rfl, trivial⟩, trivial⟩⟩
  · rintro v1 h e hp
    try ((with_reducible apply cdX); exact rfl)
    refine ifB h (fun c7 h => ?_) (fun c7 h => ?_)
    · exact retE (enc := impl_ParentOf.enc) h rfl
    · refine bindG h fun y8 hy9 h => ?_
      refine exM ([(.own true 1 (y8.map eI))], []) ?_ ?_
      · exact impl_parents.ev hy9
      refine bindG h fun x10 hx10 h => ?_
      refine anM (at_ix rfl hx10) ?_
      refine exM (eI x10) (at_get rfl hx10) ?_
      exact retE (enc := impl_ParentOf.enc) h rfl
def laws_has.enc (r : Bool) : Res := ([(.d (.p (.bool r)))], [])
def laws_has.en (a0 : List Int) (a1 : Int) (r : Bool) (S : St) : Prop := endV tb md 16 Tryd.f16 [(.d (.l true 1 (a0.map eI))), (.d (.p (.int .i64 a1)))] .ret S = some (laws_has.enc r)
def laws_has.l0 (a0 : List Int) (a1 : Int) (K : Nat) : Nat → Int → Option (Bool ⊕ Unit)
  | 0, _ => none
  | k + 1, v1 => if v1 < (a0.length : Int) then ((at_ a0 v1).bind fun x3 => (if x3 = a1 then (some (.inl true)) else (laws_has.l0 a0 a1 K k (w64 (v1 + 1))))) else (some (.inr ()))
def laws_has.f  (K : Nat) (a0 : List Int) (a1 : Int) : Option (Bool) := jn (fun (_ : Unit) => some false) (fun j => lb (laws_has.l0 a0 a1 K K 0) (fun r => some r) (fun (_ : Unit) => j ()))
theorem laws_has.ev   {K : Nat} {a0 : List Int} {a1 : Int} {r : Bool} (h : laws_has.f  K a0 a1 = some r) : E 16 [(.d (.l true 1 (a0.map eI))), (.d (.p (.int .i64 a1)))] = some ([(.d (.p (.bool r)))], []) := by
  refine Ev_intro (fn := Tryd.f16) rfl (by kernel_rfl) (c := _) rfl ⟨rfl, by simp⟩ rfl (evP_spec _ ?_)
  unfold laws_has.f at h
  refine seqJ h 18 (fun x => []) (fun x => []) (fun J h => ?_) ?_
  · refine loopB (α := Int) (a := 0) 18 (fun x => [(0, (.d (.l true 1 (a0.map eI)))), (1, (.d (.p (.int .i64 a1)))), (5, (.d (.p (.int .i64 x))))]) (fun x => []) (fun k x => laws_has.l0 a0 a1 K k x) (laws_has.en a0 a1) 0 (fun x => []) (fun x => []) h (fun _ => rfl) ?_ ⟨rfl, ⟨rfl, rfl, rfl, trivial⟩, trivial⟩ ?_ ?_
    · rintro k v1 r h e hp
      replace h : laws_has.l0 a0 a1 K (k + 1) v1 = some r := h
      unfold laws_has.l0 at h
      refine goS ?_
      refine eqM ((a0.length : Int) : Int) (mLen rfl) ?_
      refine iteF h (fun c2 h => ?_) (fun c2 h => ?_)
      · refine goS ?_
        refine bindG h fun x3 hx3 h => ?_
        refine anM (at_ix rfl hx3) ?_
        refine exM (eI x3) (at_get rfl hx3) ?_
        refine iteF h (fun c4 h => ?_) (fun c4 h => ?_)
        · exact lqL h rfl
        · exact ⟨(w64 (v1 + 1)), h, ⟨rfl, ⟨rfl, rfl, rfl, trivial⟩, trivial⟩⟩
      · refine lqR h ?_
        exact ⟨rfl, trivial, trivial⟩
    · intro r' S' h q
      exact retE (enc := laws_has.enc) h q
    · rintro _ S' h ⟨qn, ⟨_⟩, ⟨_⟩⟩
      exact ⟨(), h, ⟨qn, trivial, trivial⟩⟩
  · rintro _ h e hp
    exact retE (enc := laws_has.enc) h rfl
def impl_SameNodes.enc (r : Bool) : Res := ([(.d (.p (.bool r)))], [])
def impl_SameNodes.en (a0 : List impl_Node) (a1 : List impl_Node) (r : Bool) (S : St) : Prop := endV tb md 18 Tryd.f18 [(.d (.l true 7 (a0.map impl_Node.e))), (.d (.l true 7 (a1.map impl_Node.e)))] .ret S = some (impl_SameNodes.enc r)
def impl_SameNodes.l0 (a0 : List impl_Node) (a1 : List impl_Node) (K : Nat) : Nat → Int → Option (Bool ⊕ Unit)
  | 0, _ => none
  | k + 1, v2 => if v2 < (a0.length : Int) then ((at_ a0 v2).bind fun x4 => ((at_ a1 v2).bind fun x5 => (if (!((decide (x4.Kind = x5.Kind)) && ((decide (x4.A = x5.A)) && ((decide (x4.B = x5.B)) && ((decide (x4.C = x5.C)) && ((decide (x4.N = x5.N)) && ((x4.Name.toList == x5.Name.toList) && ((x4.Other.toList == x5.Other.toList) && true)))))))) = true then (some (.inl false)) else (impl_SameNodes.l0 a0 a1 K k (w64 (v2 + 1)))))) else (some (.inr ()))
def impl_SameNodes.f  (K : Nat) (a0 : List impl_Node) (a1 : List impl_Node) : Option (Bool) := if (!(decide ((a0.length : Int) = (a1.length : Int)))) = true then (some false) else (jn (fun (_ : Unit) => some true) (fun j => lb (impl_SameNodes.l0 a0 a1 K K 0) (fun r => some r) (fun (_ : Unit) => j ())))
theorem impl_SameNodes.ev   {K : Nat} {a0 : List impl_Node} {a1 : List impl_Node} {r : Bool} (h : impl_SameNodes.f  K a0 a1 = some r) : E 18 [(.d (.l true 7 (a0.map impl_Node.e))), (.d (.l true 7 (a1.map impl_Node.e)))] = some ([(.d (.p (.bool r)))], []) := by
  refine Ev_intro (fn := Tryd.f18) rfl (by kernel_rfl) (c := _) rfl ⟨rfl, by simp⟩ rfl (evP_spec _ ?_)
  unfold impl_SameNodes.f at h
  refine goS ?_
  refine eqM ((a0.length : Int) : Int) (mLen rfl) ?_
  refine eqM ((a1.length : Int) : Int) (mLen rfl) ?_
  refine ifB h (fun c1 h => ?_) (fun c1 h => ?_)
  · exact retE (enc := impl_SameNodes.enc) h rfl
  · refine seqJ h 26 (fun x => []) (fun x => []) (fun J h => ?_) ?_
    · refine eqM ((a0.length : Int) : Int) (mLen rfl) ?_
      refine loopB (α := Int) (a := 0) 26 (fun x => [(0, (.d (.l true 7 (a0.map impl_Node.e)))), (1, (.d (.l true 7 (a1.map impl_Node.e)))), (12, (.d (.p (.int .i64 (a0.length : Int))))), (13, (.d (.p (.int .i64 x))))]) (fun x => []) (fun k x => impl_SameNodes.l0 a0 a1 K k x) (impl_SameNodes.en a0 a1) 0 (fun x => []) (fun x => []) h (fun _ => rfl) ?_ ⟨rfl, ⟨rfl, rfl, rfl, rfl, trivial⟩, trivial⟩ ?_ ?_
      · rintro k v2 r h e hp
        replace h : impl_SameNodes.l0 a0 a1 K (k + 1) v2 = some r := h
        unfold impl_SameNodes.l0 at h
        refine goS ?_
        try ((with_reducible apply cdX); exact rfl)
        refine iteF h (fun c3 h => ?_) (fun c3 h => ?_)
        · refine goS ?_
          refine ⟨[[], [], [22, 23], [22, 23], [], [], [18, 19], [18, 19], []], [], by kernel_rfl, ?_⟩
          refine bindG h fun x4 hx4 h => ?_
          refine anM (at_ix rfl hx4) ?_
          refine exM (impl_Node.e x4) (at_get rfl hx4) ?_
          refine bindG h fun x5 hx5 h => ?_
          refine anM (at_ix rfl hx5) ?_
          refine exM (impl_Node.e x5) (at_get rfl hx5) ?_
          refine anM eqT35 ?_
          refine ifB h (fun c6 h => ?_) (fun c6 h => ?_)
          · exact lqL h rfl
          · exact ⟨(w64 (v2 + 1)), h, ⟨rfl, ⟨rfl, rfl, rfl, rfl, trivial⟩, trivial⟩⟩
        · refine lqR h ?_
          exact ⟨rfl, trivial, trivial⟩
      · intro r' S' h q
        exact retE (enc := impl_SameNodes.enc) h q
      · rintro _ S' h ⟨qn, ⟨_⟩, ⟨_⟩⟩
        exact ⟨(), h, ⟨qn, trivial, trivial⟩⟩
    · rintro _ h e hp
      exact retE (enc := impl_SameNodes.enc) h rfl
def laws_FnNodes.enc (r : Bool) : Res := ([(.d (.p (.bool r)))], [])
def laws_FnNodes.en (a0 : List Int) (r : Bool) (S : St) : Prop := endV tb md 3 Tryd.f3 [(.d (.l true 1 (a0.map eY)))] .ret S = some (laws_FnNodes.enc r)
def laws_FnNodes.l0 (y4 : List impl_Node) (y6 : Bool) (K : Nat) : Nat → Int → Option (Bool ⊕ Unit)
  | 0, _ => none
  | k + 1, v11 => if v11 < (y4.length : Int) then (jn (fun (_ : Unit) => laws_FnNodes.l0 y4 y6 K k (w64 (v11 + 1))) (fun j => (impl_Part.f K y4 v11).bind fun y13 => (if (!y6) = true then (jn (fun (v16 : Bool) => if v16 = true then (some (.inl false)) else (j ())) (fun j => if (!(decide ((y13.length : Int) = 0))) = true then (j true) else ((impl_StartOf.f K y4 v11).bind fun y18 => (j (!(decide (y18 = (-1)))))))) else (jn (fun (v21 : Bool) => if v21 = true then (some (.inl false)) else ((impl_ParentOf.f K y4 v11).bind fun y33 => (jn (fun (v35 : Bool) => if v35 = true then (some (.inl false)) else (j ())) (fun j => if ((decide (y33 < 0)) != (decide (v11 = (w64 ((y4.length : Int) - 1))))) = true then (j true) else (if y33 ≥ 0 then ((at_ y4 y33).bind fun x38 => ((impl_Kids.f K x38).bind fun y39 => ((laws_has.f K y39 v11).bind fun y41 => (j (!y41))))) else (j false)))))) (fun j => (spec_NodesOk.f K y13).bind fun y22 => (if (!y22) = true then (j true) else ((impl_StartOf.f K y4 v11).bind fun y25 => (if (!(decide ((y13.length : Int) = (w64 ((w64 (v11 + 1)) - y25))))) = true then (j true) else ((impl_PrintPart.f K y4 v11).bind fun y28 => ((impl_Print.f K y13).bind fun y30 => (j (!(y28.toList == y30.toList))))))))))))) else (some (.inr ()))
def laws_FnNodes.f  (K : Nat) (a0 : List Int) : Option (Bool) := (laws_big.f K a0).bind fun y1 => (if y1 = true then (some true) else ((spec_DrawNodesOk.f K a0).bind fun y4 => ((impl_NodesOk.f K y4).bind fun y6 => ((spec_NodesOk.f K y4).bind fun y8 => (if (y6 != y8) = true then (some false) else (jn (fun (_ : Unit) => if (!y6) = true then (some true) else ((impl_Part.f K y4 (w64 ((y4.length : Int) - 1))).bind fun y45 => ((impl_SameNodes.f K y45 y4).bind fun y47 => (some y47)))) (fun j => lb (laws_FnNodes.l0 y4 y6 K K 0) (fun r => some r) (fun (_ : Unit) => j ()))))))))
theorem laws_FnNodes.ev   {K : Nat} {a0 : List Int} {r : Bool} (h : laws_FnNodes.f  K a0 = some r) : E 3 [(.d (.l true 1 (a0.map eY)))] = some ([(.d (.p (.bool r)))], []) := by
  refine Ev_intro (fn := Tryd.f3) rfl (by kernel_rfl) (c := _) rfl ⟨rfl, by simp⟩ rfl (evP_spec _ ?_)
  unfold laws_FnNodes.f at h
  refine goS ?_
  refine bindG h fun y1 hy2 h => ?_
  refine exM ([(.d (.p (.bool y1)))], []) ?_ ?_
  · exact laws_big.ev hy2
  refine ifB h (fun c3 h => ?_) (fun c3 h => ?_)
  · exact retE (enc := laws_FnNodes.enc) h rfl
  · refine bindG h fun y4 hy5 h => ?_
    refine exM ([(.own true 7 (y4.map impl_Node.e))], []) ?_ ?_
    · exact spec_DrawNodesOk.ev hy5
    refine bindG h fun y6 hy7 h => ?_
    refine exM ([(.d (.p (.bool y6)))], []) ?_ ?_
    · exact impl_NodesOk.ev hy7
    refine goS ?_
    refine bindG h fun y8 hy9 h => ?_
    refine exM ([(.d (.p (.bool y8)))], []) ?_ ?_
    · exact spec_NodesOk.ev hy9
    refine ifB h (fun c10 h => ?_) (fun c10 h => ?_)
    · exact retE (enc := laws_FnNodes.enc) h rfl
    · refine seqJ h 96 (fun x => [(3, (.own 3 1 2)), (4, (.d (.p (.bool y6))))]) (fun x => [(3, 1, 2, (some (.row true true 7 (y4.map impl_Node.e))))]) (fun J h => ?_) ?_
      · refine loopB (α := Int) (a := 0) 96 (fun x => [(3, (.own 3 1 2)), (4, (.d (.p (.bool y6)))), (5, (.d (.p (.int .i64 x))))]) (fun x => [(3, 1, 2, (some (.row true true 7 (y4.map impl_Node.e))))]) (fun k x => laws_FnNodes.l0 y4 y6 K k x) (laws_FnNodes.en a0) 0 (fun x => [(3, (.own 3 1 2)), (4, (.d (.p (.bool y6))))]) (fun x => [(3, 1, 2, (some (.row true true 7 (y4.map impl_Node.e))))]) h (fun _ => rfl) ?_ ⟨rfl, ⟨rfl, rfl, rfl, trivial⟩, ⟨rfl, trivial⟩⟩ ?_ ?_
        · rintro k v11 r h e hp
          replace h : laws_FnNodes.l0 y4 y6 K (k + 1) v11 = some r := h
          unfold laws_FnNodes.l0 at h
          refine goS ?_
          refine eqM ((y4.length : Int) : Int) (mLen rfl) ?_
          refine iteF h (fun c12 h => ?_) (fun c12 h => ?_)
          · refine seqJ h 96 (fun x => [(3, (.own 3 1 2)), (4, (.d (.p (.bool y6)))), (5, (.d (.p (.int .i64 v11))))]) (fun x => [(3, 1, 2, (some (.row true true 7 (y4.map impl_Node.e))))]) (fun J h => ?_) ?_
            · refine bindG h fun y13 hy14 h => ?_
              refine exM ([(.own true 7 (y13.map impl_Node.e))], []) ?_ ?_
              · exact impl_Part.ev hy14
              refine goS ?_
              try ((with_reducible apply cdX); exact rfl)
              refine ifB h (fun c15 h => ?_) (fun c15 h => ?_)
              · refine goS ?_
                refine seqJ h 96 (fun x => [(3, (.own 3 1 2)), (4, (.d (.p (.bool y6)))), (5, (.d (.p (.int .i64 v11)))), (37, (.d (.p (.bool x))))]) (fun x => [(3, 1, 2, (some (.row true true 7 (y4.map impl_Node.e))))]) (fun J h => ?_) ?_
                · refine eqM ((y13.length : Int) : Int) (mLen rfl) ?_
                  refine ifB h (fun c17 h => ?_) (fun c17 h => ?_)
                  · refine Ask.T rfl ?_
                    refine Ask.T rfl ?_
                    refine Ask.T rfl ?_
                    refine Ask.T rfl ?_
                    exact ⟨true, h, ⟨rfl, ⟨rfl, rfl, rfl, rfl, trivial⟩, ⟨rfl, trivial⟩⟩⟩
                  · refine Ask.F rfl ?_
                    refine Ask.F rfl ?_
                    refine bindG h fun y18 hy19 h => ?_
                    refine exM ([(.d (.p (.int .i64 y18)))], []) ?_ ?_
                    · exact impl_StartOf.ev hy19
                    refine Ask.F rfl ?_
                    refine Ask.F rfl ?_
                    exact ⟨(!(decide (y18 = (-1)))), h, ⟨rfl, ⟨rfl, rfl, rfl, rfl, trivial⟩, ⟨rfl, trivial⟩⟩⟩
                · rintro v16 h e hp
                  try ((with_reducible apply cdX); exact rfl)
                  refine ifB h (fun c20 h => ?_) (fun c20 h => ?_)
                  · exact lqL h rfl
                  · exact ⟨(), h, ⟨rfl, ⟨rfl, rfl, rfl, trivial⟩, ⟨rfl, trivial⟩⟩⟩
              · refine goS ?_
                refine seqJ h 96 (fun x => [(3, (.own 3 1 2)), (4, (.d (.p (.bool y6)))), (5, (.d (.p (.int .i64 v11)))), (59, (.d (.p (.bool x))))]) (fun x => [(3, 1, 2, (some (.row true true 7 (y4.map impl_Node.e))))]) (fun J h => ?_) ?_
                · refine bindG h fun y22 hy23 h => ?_
                  refine exM ([(.d (.p (.bool y22)))], []) ?_ ?_
                  · exact spec_NodesOk.ev hy23
                  refine ifB h (fun c24 h => ?_) (fun c24 h => ?_)
                  · refine Ask.T rfl ?_
                    refine Ask.T rfl ?_
                    refine Ask.T rfl ?_
                    refine Ask.T rfl ?_
                    refine Ask.T rfl ?_
                    refine Ask.T rfl ?_
                    refine Ask.T rfl ?_
                    refine Ask.T rfl ?_
                    refine Ask.T rfl ?_
                    refine Ask.T rfl ?_
                    refine Ask.T rfl ?_
                    refine Ask.T rfl ?_
                    refine Ask.T rfl ?_
                    refine Ask.T rfl ?_
                    refine Ask.T rfl ?_
                    refine Ask.T rfl ?_
                    exact ⟨true, h, ⟨rfl, ⟨rfl, rfl, rfl, rfl, trivial⟩, ⟨rfl, trivial⟩⟩⟩
                  · refine Ask.F rfl ?_
                    refine eqM ((y13.length : Int) : Int) (mLen rfl) ?_
                    refine Ask.F rfl ?_
                    refine Ask.F rfl ?_
                    refine Ask.F rfl ?_
                    refine Ask.F rfl ?_
                    refine Ask.F rfl ?_
                    refine bindG h fun y25 hy26 h => ?_
                    refine exM ([(.d (.p (.int .i64 y25)))], []) ?_ ?_
                    · exact impl_StartOf.ev hy26
                    refine Ask.F rfl ?_
                    refine Ask.F rfl ?_
                    refine Ask.F rfl ?_
                    refine ifB h (fun c27 h => ?_) (fun c27 h => ?_)
                    · refine Ask.T rfl ?_
                      refine Ask.T rfl ?_
                      refine Ask.T rfl ?_
                      refine Ask.T rfl ?_
                      refine Ask.T rfl ?_
                      refine Ask.T rfl ?_
                      exact ⟨true, h, ⟨rfl, ⟨rfl, rfl, rfl, rfl, trivial⟩, ⟨rfl, trivial⟩⟩⟩
                    · refine Ask.F rfl ?_
                      refine Ask.F rfl ?_
                      refine bindG h fun y28 hy29 h => ?_
                      refine exM ([(.d (.p (.string y28)))], []) ?_ ?_
                      · exact impl_PrintPart.ev hy29
                      refine Ask.F rfl ?_
                      refine Ask.F rfl ?_
                      refine bindG h fun y30 hy31 h => ?_
                      refine exM ([(.d (.p (.string y30)))], []) ?_ ?_
                      · exact impl_Print.ev hy31
                      refine Ask.F rfl ?_
                      refine Ask.F rfl ?_
                      exact ⟨(!(y28.toList == y30.toList)), h, ⟨rfl, ⟨rfl, rfl, rfl, rfl, trivial⟩, ⟨rfl, trivial⟩⟩⟩
                · rintro v21 h e hp
                  try ((with_reducible apply cdX); exact rfl)
                  refine ifB h (fun c32 h => ?_) (fun c32 h => ?_)
                  · exact lqL h rfl
                  · refine bindG h fun y33 hy34 h => ?_
                    refine exM ([(.d (.p (.int .i64 y33)))], []) ?_ ?_
                    · exact impl_ParentOf.ev hy34
                    refine seqJ h 96 (fun x => [(3, (.own 3 1 2)), (4, (.d (.p (.bool y6)))), (5, (.d (.p (.int .i64 v11)))), (84, (.d (.p (.bool x))))]) (fun x => [(3, 1, 2, (some (.row true true 7 (y4.map impl_Node.e))))]) (fun J h => ?_) ?_
                    · refine eqM ((y4.length : Int) : Int) (mLen rfl) ?_
                      refine ifB h (fun c36 h => ?_) (fun c36 h => ?_)
                      · refine Ask.T rfl ?_
                        refine Ask.T rfl ?_
                        refine Ask.T rfl ?_
                        refine Ask.T rfl ?_
                        exact ⟨true, h, ⟨rfl, ⟨rfl, rfl, rfl, rfl, trivial⟩, ⟨rfl, trivial⟩⟩⟩
                      · refine Ask.F rfl ?_
                        refine Ask.F rfl ?_
                        refine iteF h (fun c37 h => ?_) (fun c37 h => ?_)
                        · refine Ask.T rfl ?_
                          refine Ask.T rfl ?_
                          refine bindG h fun x38 hx38 h => ?_
                          refine anM (at_ix rfl hx38) ?_
                          refine Ask.T rfl ?_
                          refine exM (impl_Node.e x38) (at_get rfl hx38) ?_
                          refine Ask.T rfl ?_
                          refine bindG h fun y39 hy40 h => ?_
                          refine exM ([(.d (.l true 1 (y39.map eI)))], []) ?_ ?_
                          · exact impl_Kids.ev hy40
                          refine Ask.T rfl ?_
                          refine Ask.T rfl ?_
                          refine bindG h fun y41 hy42 h => ?_
                          refine exM ([(.d (.p (.bool y41)))], []) ?_ ?_
                          · exact laws_has.ev hy42
                          refine Ask.T rfl ?_
                          refine Ask.F rfl ?_
                          refine Ask.T rfl ?_
                          refine Ask.F rfl ?_
                          exact ⟨(!y41), h, ⟨rfl, ⟨rfl, rfl, rfl, rfl, trivial⟩, ⟨rfl, trivial⟩⟩⟩
                        · refine Ask.F rfl ?_
                          refine Ask.F rfl ?_
                          refine Ask.F rfl ?_
                          refine Ask.F rfl ?_
                          refine Ask.F rfl ?_
                          refine Ask.F rfl ?_
                          refine Ask.F rfl ?_
                          refine Ask.F rfl ?_
                          refine Ask.F rfl ?_
                          refine Ask.F rfl ?_
                          exact ⟨false, h, ⟨rfl, ⟨rfl, rfl, rfl, rfl, trivial⟩, ⟨rfl, trivial⟩⟩⟩
                    · rintro v35 h e hp
                      try ((with_reducible apply cdX); exact rfl)
                      refine ifB h (fun c43 h => ?_) (fun c43 h => ?_)
                      · exact lqL h rfl
                      · exact ⟨(), h, ⟨rfl, ⟨rfl, rfl, rfl, trivial⟩, ⟨rfl, trivial⟩⟩⟩
            · rintro _ h e hp
              exact ⟨(w64 (v11 + 1)), h, ⟨rfl, ⟨rfl, rfl, rfl, trivial⟩, ⟨rfl, trivial⟩⟩⟩
          · refine lqR h ?_
            exact ⟨rfl, ⟨rfl, rfl, trivial⟩, ⟨rfl, trivial⟩⟩
        · intro r' S' h q
          exact retE (enc := laws_FnNodes.enc) h q
        · rintro _ S' h ⟨qn, ⟨qa0, qa1, _⟩, ⟨qb0, _⟩⟩
          exact ⟨(), h, ⟨qn, ⟨qa0, qa1, trivial⟩, ⟨qb0, trivial⟩⟩⟩
      · rintro _ h e hp
        refine goS ?_
        try ((with_reducible apply cdX); exact rfl)
        refine ifB h (fun c44 h => ?_) (fun c44 h => ?_)
        · refine Ask.T rfl ?_
          refine Ask.T rfl ?_
          refine Ask.T rfl ?_
          refine Ask.T rfl ?_
          refine Ask.T rfl ?_
          refine Ask.T rfl ?_
          refine Ask.T rfl ?_
          exact retE (enc := laws_FnNodes.enc) h rfl
        · refine Ask.F rfl ?_
          refine Ask.F rfl ?_
          refine eqM ((y4.length : Int) : Int) (mLen rfl) ?_
          refine Ask.F rfl ?_
          refine Ask.F rfl ?_
          refine bindG h fun y45 hy46 h => ?_
          refine exM ([(.own true 7 (y45.map impl_Node.e))], []) ?_ ?_
          · exact impl_Part.ev hy46
          refine Ask.F rfl ?_
          refine Ask.F rfl ?_
          refine bindG h fun y47 hy48 h => ?_
          refine exM ([(.d (.p (.bool y47)))], []) ?_ ?_
          · exact impl_SameNodes.ev hy48
          refine Ask.F rfl ?_
          exact retE (enc := laws_FnNodes.enc) h rfl
end Go.Proofs.YtfkanjgfjejgiaaDoorE
