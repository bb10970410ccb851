/- For Go functions of the program: their Lean functions, and that Go answers as these do. Written by a program of the session (evprint.py). -/
import Derived.Test.YtfkanjgfjejgiaaGreatDoorZA0
set_option linter.unusedSimpArgs false
set_option linter.unusedVariables false
namespace Go.Proofs.YtfkanjgfjejgiaaGreatDoorE
open Go.Ev
set_option linter.unusedVariables false
set_option maxRecDepth 100000
set_option maxHeartbeats 4000000
def impl_Kids.enc (r : List Int) : Res := ([(.d (.l true 1 (r.map eI)))], [])
def impl_Kids.f  (K : Nat) (a0 : impl_Node) : Option (List Int) := (impl_Arity.f K a0.Kind).bind fun y1 => ((impl_Arity.f K a0.Kind).bind fun y3 => (gd (0 ≤ y1 ∧ y1 ≤ y3 ∧ y3 ≤ (([a0.A, a0.B, a0.C] : List Int).length : Int)) (some (([a0.A, a0.B, a0.C] : List Int).take (y1).toNat))))
theorem impl_Kids.ev   {K : Nat} {a0 : impl_Node} {r : List Int} (h : impl_Kids.f  K a0 = some r) : E 66 [(.agg (a0.e.map .d))] = some ([(.d (.l true 1 (r.map eI)))], []) := by
  refine Ev_intro (fn := Tryz.f66) rfl (by kernel_rfl) (c := _) rfl ⟨rfl, by simp⟩ rfl (evP_spec _ ?_)
  unfold impl_Kids.f at h
  refine ⟨[[5, 6, 7, 8, 10, 11, 12, 13, 14, 15], [5, 6, 7, 8, 10, 11, 12, 13, 14, 15], [3, 4, 7, 8, 10, 11, 12, 13, 14, 15], [3, 4, 7, 8, 10, 11, 12, 13, 14, 15], [3, 4, 5, 6, 10, 11, 12, 13, 14, 15], [3, 4, 5, 6, 10, 11, 12, 13, 14, 15], [10, 11, 12, 13, 14, 15], [3, 4, 5, 6, 7, 8, 9, 13, 14], [3, 4, 5, 6, 7, 8, 9, 13, 14], [3, 4, 5, 6, 7, 8, 9, 13, 14], [3, 4, 5, 6, 7, 8, 9, 10, 11, 12], [3, 4, 5, 6, 7, 8, 9, 10, 11, 12], [3, 4, 5, 6, 7, 8, 9], [], []], [], by kernel_rfl, ?_⟩
  refine eqM (([a0.A, a0.B, a0.C] : List Int).map eI) rfl ?_
  refine bindG h fun y1 hy2 h => ?_
  refine exM ([(.d (.p (.int .i64 y1)))], []) ?_ ?_
  · exact impl_Arity.ev hy2
  refine bindG h fun y3 hy4 h => ?_
  refine exM ([(.d (.p (.int .i64 y3)))], []) ?_ ?_
  · exact impl_Arity.ev hy4
  refine gdG h fun hc h => ?_
  refine anM (slB hc) ?_
  refine eqM ((([a0.A, a0.B, a0.C] : List Int).take (y1).toNat).map eI) (mTake rfl) ?_
  exact retE (enc := impl_Kids.enc) h rfl
def impl_NodesOk.enc (r : Bool) : Res := ([(.d (.p (.bool r)))], [])
def impl_NodesOk.en (a0 : List impl_Node) (r : Bool) (S : St) : Prop := endV tb md 28 Tryz.f28 [(.d (.l true 7 (a0.map impl_Node.e)))] .ret S = some (impl_NodesOk.enc r)
def impl_NodesOk.l1 (v6 : List Int) (y13 : List Int) (K : Nat) : Nat → Int → Int → Option (Bool ⊕ Int)
  | 0, _, _ => none
  | k + 1, v16, v17 => if v17 ≥ 0 then (jn (fun (v20 : Bool) => if v20 = true then (some (.inl false)) else ((at_ v6 (w64 (v16 - 1))).bind fun x24 => (impl_NodesOk.l1 v6 y13 K k x24 (w64 (v17 - 1))))) (fun j => if v16 = 0 then (j true) else ((at_ y13 v17).bind fun x22 => (j (!(decide (x22 = (w64 (v16 - 1))))))))) else (some (.inr v16))
def impl_NodesOk.l0 (a0 : List impl_Node) (K : Nat) : Nat → Int → (List Int) → Option (Bool ⊕ (List Int))
  | 0, _, _ => none
  | k + 1, v5, v6 => if v5 < (a0.length : Int) then ((at_ a0 v5).bind fun x9 => ((impl_fieldsOk.f K x9).bind fun y10 => (if (!y10) = true then (some (.inl false)) else ((impl_Kids.f K x9).bind fun y13 => (jn (fun (v15 : Int) => (at_ v6 v5).bind fun x25 => (impl_NodesOk.l0 a0 K k (w64 (v5 + 1)) (v6.set (v5).toNat v15))) (fun j => lb (impl_NodesOk.l1 v6 y13 K K v5 (w64 ((y13.length : Int) - 1))) (fun r => some (.inl r)) (fun (v18 : Int) => j v18))))))) else (some (.inr v6))
def impl_NodesOk.f  (K : Nat) (a0 : List impl_Node) : Option (Bool) := (impl_in.f K (a0.length : Int) 1 150).bind fun y1 => (if (!y1) = true then (some false) else (gd (0 ≤ (a0.length : Int) ∧ 8 * (a0.length : Int) ≤ 140737488355328 ∧ (a0.length : Int) ≤ 140737488355328) (jn (fun (v4 : List Int) => (at_ v4 (w64 ((a0.length : Int) - 1))).bind fun x26 => (some (decide (x26 = 0)))) (fun j => lb (impl_NodesOk.l0 a0 K K 0 (List.replicate ((a0.length : Int)).toNat (0 : Int))) (fun r => some r) (fun (v7 : List Int) => j v7)))))
theorem impl_NodesOk.ev   {K : Nat} {a0 : List impl_Node} {r : Bool} (h : impl_NodesOk.f  K a0 = some r) : E 28 [(.d (.l true 7 (a0.map impl_Node.e)))] = some ([(.d (.p (.bool r)))], []) := by
  refine Ev_intro (fn := Tryz.f28) rfl (by kernel_rfl) (c := _) rfl ⟨rfl, by simp⟩ rfl (evP_spec _ ?_)
  unfold impl_NodesOk.f at h
  refine goS ?_
  refine eqM ((a0.length : Int) : Int) (mLen rfl) ?_
  refine bindG h fun y1 hy2 h => ?_
  refine exM ([(.d (.p (.bool y1)))], []) ?_ ?_
  · exact impl_in.ev hy2
  refine ifB h (fun c3 h => ?_) (fun c3 h => ?_)
  · exact retE (enc := impl_NodesOk.enc) h rfl
  · refine eqM ((a0.length : Int) : Int) (mLen rfl) ?_
    refine gdG h fun hc h => ?_
    refine anM ⟨rfl, hc⟩ ?_
    refine eqM ((List.replicate ((a0.length : Int)).toNat (0 : Int)).map eI) (mRep rfl) ?_
    refine seqJ h 64 (fun x => [(0, (.d (.l true 7 (a0.map impl_Node.e)))), (3, (.own 3 1 2))]) (fun x => [(3, 1, 2, (some (.row true true 1 (x.map eI))))]) (fun J h => ?_) ?_
    · refine eqM ((a0.length : Int) : Int) (mLen rfl) ?_
      refine loopB (α := Int × List Int) (a := (0, (List.replicate ((a0.length : Int)).toNat (0 : Int)))) 64 (fun x => [(0, (.d (.l true 7 (a0.map impl_Node.e)))), (3, (.own 3 1 2)), (16, (.d (.l true 7 (a0.map impl_Node.e)))), (17, (.d (.p (.int .i64 (a0.length : Int))))), (18, (.d (.p (.int .i64 x.1))))]) (fun x => [(3, 1, 2, (some (.row true true 1 (x.2.map eI))))]) (fun k x => impl_NodesOk.l0 a0 K k x.1 x.2) (impl_NodesOk.en a0) 0 (fun x => [(0, (.d (.l true 7 (a0.map impl_Node.e)))), (3, (.own 3 1 2))]) (fun x => [(3, 1, 2, (some (.row true true 1 (x.map eI))))]) h (fun _ => rfl) ?_ ⟨rfl, ⟨rfl, rfl, rfl, rfl, rfl, trivial⟩, ⟨rfl, trivial⟩⟩ ?_ ?_
      · rintro k ⟨v5, v6⟩ r h e hp
        replace h : impl_NodesOk.l0 a0 K (k + 1) v5 v6 = some r := h
        unfold impl_NodesOk.l0 at h
        refine goS ?_
        try ((with_reducible apply cdX); exact rfl)
        refine iteF h (fun c8 h => ?_) (fun c8 h => ?_)
        · refine goS ?_
          refine goS ?_
          refine bindG h fun x9 hx9 h => ?_
          refine anM (at_ix rfl hx9) ?_
          refine exM (impl_Node.e x9) (at_get rfl hx9) ?_
          refine goS ?_
          refine bindG h fun y10 hy11 h => ?_
          refine exM ([(.d (.p (.bool y10)))], []) ?_ ?_
          · exact impl_fieldsOk.ev hy11
          refine ifB h (fun c12 h => ?_) (fun c12 h => ?_)
          · exact lqL h rfl
          · refine bindG h fun y13 hy14 h => ?_
            refine exM ([(.d (.l true 1 (y13.map eI)))], []) ?_ ?_
            · exact impl_Kids.ev hy14
            refine seqJ h 64 (fun x => [(0, (.d (.l true 7 (a0.map impl_Node.e)))), (3, (.own 3 1 2)), (4, (.d (.p (.int .i64 v5)))), (7, (.d (.p (.int .i64 x)))), (16, (.d (.l true 7 (a0.map impl_Node.e)))), (17, (.d (.p (.int .i64 (a0.length : Int))))), (18, (.d (.p (.int .i64 v5))))]) (fun x => [(3, 1, 2, (some (.row true true 1 (v6.map eI))))]) (fun J h => ?_) ?_
            · refine eqM ((y13.length : Int) : Int) (mLen rfl) ?_
              refine loopB (α := Int × Int) (a := (v5, (w64 ((y13.length : Int) - 1)))) 64 (fun x => [(0, (.d (.l true 7 (a0.map impl_Node.e)))), (3, (.own 3 1 2)), (4, (.d (.p (.int .i64 v5)))), (6, (.d (.l true 1 (y13.map eI)))), (7, (.d (.p (.int .i64 x.1)))), (8, (.d (.p (.int .i64 x.2)))), (16, (.d (.l true 7 (a0.map impl_Node.e)))), (17, (.d (.p (.int .i64 (a0.length : Int))))), (18, (.d (.p (.int .i64 v5))))]) (fun x => [(3, 1, 2, (some (.row true true 1 (v6.map eI))))]) (fun k x => impl_NodesOk.l1 v6 y13 K k x.1 x.2) (impl_NodesOk.en a0) 2 (fun x => [(0, (.d (.l true 7 (a0.map impl_Node.e)))), (3, (.own 3 1 2)), (4, (.d (.p (.int .i64 v5)))), (7, (.d (.p (.int .i64 x)))), (16, (.d (.l true 7 (a0.map impl_Node.e)))), (17, (.d (.p (.int .i64 (a0.length : Int))))), (18, (.d (.p (.int .i64 v5))))]) (fun x => [(3, 1, 2, (some (.row true true 1 (v6.map eI))))]) h (fun _ => rfl) ?_ ⟨rfl, ⟨rfl, rfl, rfl, rfl, rfl, rfl, rfl, rfl, rfl, trivial⟩, ⟨rfl, trivial⟩⟩ ?_ ?_
              · rintro k ⟨v16, v17⟩ r h e hp
                replace h : impl_NodesOk.l1 v6 y13 K (k + 1) v16 v17 = some r := h
                unfold impl_NodesOk.l1 at h
                refine goS ?_
                try ((with_reducible apply cdX); exact rfl)
                refine iteF h (fun c19 h => ?_) (fun c19 h => ?_)
                · refine goS ?_
                  refine goS ?_
                  refine seqJ h 64 (fun x => [(0, (.d (.l true 7 (a0.map impl_Node.e)))), (3, (.own 3 1 2)), (4, (.d (.p (.int .i64 v5)))), (6, (.d (.l true 1 (y13.map eI)))), (7, (.d (.p (.int .i64 v16)))), (8, (.d (.p (.int .i64 v17)))), (16, (.d (.l true 7 (a0.map impl_Node.e)))), (17, (.d (.p (.int .i64 (a0.length : Int))))), (18, (.d (.p (.int .i64 v5)))), (46, (.d (.p (.bool x))))]) (fun x => [(3, 1, 2, (some (.row true true 1 (v6.map eI))))]) (fun J h => ?_) ?_
                  · try ((with_reducible apply cdX); exact rfl)
                    refine iteF h (fun c21 h => ?_) (fun c21 h => ?_)
                    · refine Ask.T rfl ?_
                      refine Ask.T rfl ?_
                      refine Ask.T rfl ?_
                      refine Ask.T rfl ?_
                      refine Ask.T rfl ?_
                      refine Ask.T rfl ?_
                      refine Ask.T rfl ?_
                      exact ⟨true, h, ⟨rfl, ⟨rfl, rfl, rfl, rfl, rfl, rfl, rfl, rfl, rfl, rfl, trivial⟩, ⟨rfl, trivial⟩⟩⟩
                    · refine Ask.F rfl ?_
                      refine Ask.F rfl ?_
                      refine bindG h fun x22 hx22 h => ?_
                      refine anM (at_ix rfl hx22) ?_
                      refine Ask.F rfl ?_
                      refine exM (eI x22) (at_get rfl hx22) ?_
                      refine Ask.F rfl ?_
                      refine Ask.F rfl ?_
                      refine Ask.F rfl ?_
                      refine Ask.F rfl ?_
                      exact ⟨(!(decide (x22 = (w64 (v16 - 1))))), h, ⟨rfl, ⟨rfl, rfl, rfl, rfl, rfl, rfl, rfl, rfl, rfl, rfl, trivial⟩, ⟨rfl, trivial⟩⟩⟩
                  · rintro v20 h e hp
                    try ((with_reducible apply cdX); exact rfl)
                    refine ifB h (fun c23 h => ?_) (fun c23 h => ?_)
                    · exact lqL h rfl
                    · refine bindG h fun x24 hx24 h => ?_
                      refine anM (at_ix rfl hx24) ?_
                      refine exM (eI x24) (at_get rfl hx24) ?_
                      exact ⟨(x24, (w64 (v17 - 1))), h, ⟨rfl, ⟨rfl, rfl, rfl, rfl, rfl, rfl, rfl, rfl, rfl, trivial⟩, ⟨rfl, trivial⟩⟩⟩
                · refine lqR h ?_
                  exact ⟨rfl, ⟨rfl, rfl, rfl, rfl, rfl, rfl, rfl, trivial⟩, ⟨rfl, trivial⟩⟩
              · intro r' S' h q
                exact lqL h q
              · rintro v18 S' h ⟨qn, ⟨qa0, qa1, qa2, qa3, qa4, qa5, qa6, _⟩, ⟨qb0, _⟩⟩
                exact ⟨v18, h, ⟨qn, ⟨qa0, qa1, qa2, qa3, qa4, qa5, qa6, trivial⟩, ⟨qb0, trivial⟩⟩⟩
            · rintro v15 h e hp
              refine bindG h fun x25 hx25 h => ?_
              refine anM (at_ix rfl hx25) ?_
              refine exM (eI x25) (at_get rfl hx25) ?_
              refine eqM ((v6.set (v5).toNat v15).map eI) (mSet rfl rfl) ?_
              exact ⟨((w64 (v5 + 1)), (v6.set (v5).toNat v15)), h, ⟨rfl, ⟨rfl, rfl, rfl, rfl, rfl, trivial⟩, ⟨rfl, trivial⟩⟩⟩
        · refine lqR h ?_
          exact ⟨rfl, ⟨rfl, rfl, trivial⟩, ⟨rfl, trivial⟩⟩
      · intro r' S' h q
        exact retE (enc := impl_NodesOk.enc) h q
      · rintro v7 S' h ⟨qn, ⟨qa0, qa1, _⟩, ⟨qb0, _⟩⟩
        exact ⟨v7, h, ⟨qn, ⟨qa0, qa1, trivial⟩, ⟨qb0, trivial⟩⟩⟩
    · rintro v4 h e hp
      refine eqM ((a0.length : Int) : Int) (mLen rfl) ?_
      refine bindG h fun x26 hx26 h => ?_
      refine anM (at_ix rfl hx26) ?_
      refine exM (eI x26) (at_get rfl hx26) ?_
      exact retE (enc := impl_NodesOk.enc) h rfl
def impl_treeOf.enc (r : impl_tree) : Res := ([(.agg (r.c.map .d))], [])
def impl_treeOf.l0 (r_impl_treeOf : (List impl_Node) → Int → Option (impl_tree)) (a0 : List impl_Node) (y3 : List Int) (K : Nat) : Nat → Int → impl_tree → Option (impl_tree)
  | 0, _, _ => none
  | k + 1, v5, v6 => if v5 < (y3.length : Int) then ((at_ y3 v5).bind fun x9 => ((r_impl_treeOf a0 x9).bind fun y10 => (gd ((v6.kids.length + 1) * 96 ≤ 140737488355328) (impl_treeOf.l0 r_impl_treeOf a0 y3 K k (w64 (v5 + 1)) (⟨v6.n, (v6.kids ++ ([y10] : List impl_tree))⟩ : impl_tree))))) else (some v6)
def impl_treeOf.b (r_impl_treeOf : (List impl_Node) → Int → Option (impl_tree)) (K : Nat) (a0 : List impl_Node) (a1 : Int) : Option (impl_tree) := (at_ a0 a1).bind fun x1 => (jn (fun (v2 : impl_tree) => some (⟨(⟨v2.n.Kind, 0, 0, 0, v2.n.N, v2.n.Name, v2.n.Other⟩ : impl_Node), v2.kids⟩ : impl_tree)) (fun j => (impl_Kids.f K x1).bind fun y3 => ((impl_treeOf.l0 r_impl_treeOf a0 y3 K K 0 (⟨x1, ([] : List impl_tree)⟩ : impl_tree)).bind fun (v7 : impl_tree) => j v7)))
theorem impl_treeOf.b_ev {r_impl_treeOf : (List impl_Node) → Int → Option (impl_tree)} (hr_impl_treeOf : ∀ {a0 : List impl_Node} {a1 : Int} {r : impl_tree}, r_impl_treeOf a0 a1 = some r → E 70 [(.d (.l true 7 (a0.map impl_Node.e))), (.d (.p (.int .i64 a1)))] = some ([(.agg (r.c.map .d))], [])) {K : Nat} {a0 : List impl_Node} {a1 : Int} {r : impl_tree} (h : impl_treeOf.b r_impl_treeOf K a0 a1 = some r) : E 70 [(.d (.l true 7 (a0.map impl_Node.e))), (.d (.p (.int .i64 a1)))] = some ([(.agg (r.c.map .d))], []) := by
  refine Ev_intro (fn := Tryz.f70) rfl (by kernel_rfl) (c := _) rfl ⟨rfl, by simp⟩ rfl (evP_spec _ ?_)
  unfold impl_treeOf.b at h
  refine goS ?_
  refine bindG h fun x1 hx1 h => ?_
  refine anM (at_ix rfl hx1) ?_
  refine exM (impl_Node.e x1) (at_get rfl hx1) ?_
  refine seqJ h 39 (fun x => [(4, (.ptr 4 0 2 0)), (5, (.ptr 5 0 2 0))]) (fun x => [(4, 0, 2, (some (.box [(.d (.p (.int .i64 0))), (.d (.p (.int .i64 0))), (.d (.p (.int .i64 0))), (.d (.p (.int .i64 0))), (.d (.p (.int .i64 0))), (.d (.p (.string (⟨#[]⟩ : ByteArray)))), (.d (.p (.string (⟨#[]⟩ : ByteArray)))), (.own 4 1007 2)]))), (4, 1007, 2, (some (.row true false 8 (([] : List impl_tree).map impl_tree.e)))), (5, 0, 2, (some (.box [(.d (.p (.int .i64 x.n.Kind))), (.d (.p (.int .i64 x.n.A))), (.d (.p (.int .i64 x.n.B))), (.d (.p (.int .i64 x.n.C))), (.d (.p (.int .i64 x.n.N))), (.d (.p (.string x.n.Name))), (.d (.p (.string x.n.Other))), (.own 5 1007 2)]))), (5, 1007, 2, (some (.row true false 8 (x.kids.map impl_tree.e))))]) (fun J h => ?_) ?_
  · refine anM (at_ix rfl hx1) ?_
    refine exM (impl_Node.e x1) (at_get rfl hx1) ?_
    refine bindG h fun y3 hy4 h => ?_
    refine exM ([(.d (.l true 1 (y3.map eI)))], []) ?_ ?_
    · exact impl_Kids.ev hy4
    refine eqM ((y3.length : Int) : Int) (mLen rfl) ?_
    refine loopX (α := Int × impl_tree) (a := (0, (⟨x1, ([] : List impl_tree)⟩ : impl_tree))) 39 (fun x => [(0, (.d (.l true 7 (a0.map impl_Node.e)))), (4, (.ptr 4 0 2 0)), (5, (.ptr 5 0 2 0)), (17, (.d (.l true 1 (y3.map eI)))), (18, (.d (.p (.int .i64 (y3.length : Int))))), (19, (.d (.p (.int .i64 x.1))))]) (fun x => [(4, 0, 2, (some (.box [(.d (.p (.int .i64 0))), (.d (.p (.int .i64 0))), (.d (.p (.int .i64 0))), (.d (.p (.int .i64 0))), (.d (.p (.int .i64 0))), (.d (.p (.string (⟨#[]⟩ : ByteArray)))), (.d (.p (.string (⟨#[]⟩ : ByteArray)))), (.own 4 1007 2)]))), (4, 1007, 2, (some (.row true false 8 (([] : List impl_tree).map impl_tree.e)))), (5, 0, 2, (some (.box [(.d (.p (.int .i64 x.2.n.Kind))), (.d (.p (.int .i64 x.2.n.A))), (.d (.p (.int .i64 x.2.n.B))), (.d (.p (.int .i64 x.2.n.C))), (.d (.p (.int .i64 x.2.n.N))), (.d (.p (.string x.2.n.Name))), (.d (.p (.string x.2.n.Other))), (.own 5 1007 2)]))), (5, 1007, 2, (some (.row true false 8 (x.2.kids.map impl_tree.e))))]) (fun k x => impl_treeOf.l0 r_impl_treeOf a0 y3 K k x.1 x.2) 0 (fun x => [(4, (.ptr 4 0 2 0)), (5, (.ptr 5 0 2 0))]) (fun x => [(4, 0, 2, (some (.box [(.d (.p (.int .i64 0))), (.d (.p (.int .i64 0))), (.d (.p (.int .i64 0))), (.d (.p (.int .i64 0))), (.d (.p (.int .i64 0))), (.d (.p (.string (⟨#[]⟩ : ByteArray)))), (.d (.p (.string (⟨#[]⟩ : ByteArray)))), (.own 4 1007 2)]))), (4, 1007, 2, (some (.row true false 8 (([] : List impl_tree).map impl_tree.e)))), (5, 0, 2, (some (.box [(.d (.p (.int .i64 x.n.Kind))), (.d (.p (.int .i64 x.n.A))), (.d (.p (.int .i64 x.n.B))), (.d (.p (.int .i64 x.n.C))), (.d (.p (.int .i64 x.n.N))), (.d (.p (.string x.n.Name))), (.d (.p (.string x.n.Other))), (.own 5 1007 2)]))), (5, 1007, 2, (some (.row true false 8 (x.kids.map impl_tree.e))))]) h (fun _ => rfl) ?_ ⟨rfl, ⟨rfl, rfl, rfl, rfl, rfl, rfl, trivial⟩, ⟨rfl, rfl, rfl, rfl, trivial⟩⟩ ?_
    · rintro k ⟨v5, v6⟩ r h e hp
      replace h : impl_treeOf.l0 r_impl_treeOf a0 y3 K (k + 1) v5 v6 = some r := h
      unfold impl_treeOf.l0 at h
      refine goS ?_
      try ((with_reducible apply cdX); exact rfl)
      refine iteF h (fun c8 h => ?_) (fun c8 h => ?_)
      · refine goS ?_
        refine bindG h fun x9 hx9 h => ?_
        refine anM (at_ix rfl hx9) ?_
        refine exM (eI x9) (at_get rfl hx9) ?_
        refine ⟨[[27, 28], [27, 28], [], [], [23, 24], [23, 24], [], [], []], [], by kernel_rfl, ?_⟩
        refine bindG h fun y10 hy11 h => ?_
        refine exM ([(.agg (y10.c.map .d))], []) ?_ ?_
        · exact hr_impl_treeOf hy11
        refine eqM (([y10] : List impl_tree).map impl_tree.e) (by simp only [List.map, impl_tree.e_eq]; rfl) ?_
        refine gdG h fun hc h => ?_
        refine anM (apB hc) ?_
        refine eqM ((v6.kids ++ ([y10] : List impl_tree)).map impl_tree.e) (mApp rfl rfl) ?_
        exact ⟨((w64 (v5 + 1)), (⟨v6.n, (v6.kids ++ ([y10] : List impl_tree))⟩ : impl_tree)), h, ⟨rfl, ⟨rfl, rfl, rfl, rfl, rfl, rfl, trivial⟩, ⟨rfl, rfl, rfl, rfl, trivial⟩⟩⟩
      · refine exQ h ?_
        exact ⟨rfl, ⟨rfl, rfl, trivial⟩, ⟨rfl, rfl, rfl, rfl, trivial⟩⟩
    · rintro v7 S' h ⟨qn, ⟨qa0, qa1, _⟩, ⟨qb0, qb1, qb2, qb3, _⟩⟩
      exact ⟨v7, h, ⟨qn, ⟨qa0, qa1, trivial⟩, ⟨qb0, qb1, qb2, qb3, trivial⟩⟩⟩
  · rintro v2 h e hp
    refine goR ?_
    refine Re.mk 39 [(4, (.ptr 4 0 2 0)), (5, (.ptr 5 0 2 0))] [(4, 0, 2, (some (.box [(.d (.p (.int .i64 0))), (.d (.p (.int .i64 0))), (.d (.p (.int .i64 0))), (.d (.p (.int .i64 0))), (.d (.p (.int .i64 0))), (.d (.p (.string (⟨#[]⟩ : ByteArray)))), (.d (.p (.string (⟨#[]⟩ : ByteArray)))), (.own 4 1007 2)]))), (4, 1007, 2, (some (.row true false 8 (([] : List impl_tree).map impl_tree.e)))), (5, 0, 2, (some (.box [(.d (.p (.int .i64 v2.n.Kind))), (.d (.p (.int .i64 0))), (.d (.p (.int .i64 0))), (.d (.p (.int .i64 0))), (.d (.p (.int .i64 v2.n.N))), (.d (.p (.string v2.n.Name))), (.d (.p (.string v2.n.Other))), (.own 5 1007 2)]))), (5, 1007, 2, (some (.row true false 8 (v2.kids.map impl_tree.e))))] (by exact ⟨rfl, ⟨rfl, rfl, trivial⟩, ⟨rfl, rfl, rfl, rfl, trivial⟩⟩) ?_
    intro e hp
    refine goS ?_
    exact retE (enc := impl_treeOf.enc) h rfl
def impl_treeOf.r (K : Nat) : Nat → (List impl_Node) → Int → Option (impl_tree)
  | 0, _, _ => none
  | d + 1, a0, a1 => impl_treeOf.b (impl_treeOf.r K d) K a0 a1
theorem impl_treeOf.r_ev {K : Nat} : ∀ (d : Nat) {a0 : List impl_Node} {a1 : Int} {r : impl_tree}, impl_treeOf.r K d a0 a1 = some r → E 70 [(.d (.l true 7 (a0.map impl_Node.e))), (.d (.p (.int .i64 a1)))] = some ([(.agg (r.c.map .d))], []) := by
  intro d
  induction d with
  | zero => intro a0 a1 r h; cases h
  | succ d ih => intro a0 a1 r h; exact impl_treeOf.b_ev ih h
def impl_treeOf.f (K : Nat) (a0 : List impl_Node) (a1 : Int) : Option (impl_tree) := impl_treeOf.r K K a0 a1
theorem impl_treeOf.ev {K : Nat} {a0 : List impl_Node} {a1 : Int} {r : impl_tree} (h : impl_treeOf.f K a0 a1 = some r) : E 70 [(.d (.l true 7 (a0.map impl_Node.e))), (.d (.p (.int .i64 a1)))] = some ([(.agg (r.c.map .d))], []) := impl_treeOf.r_ev K h
def impl_wholeTree.enc (r : impl_tree) : Res := ([(.agg (r.c.map .d))], [])
def impl_wholeTree.f  (K : Nat) (a0 : List impl_Node) : Option (impl_tree) := (impl_treeOf.f K a0 (w64 ((a0.length : Int) - 1))).bind fun y1 => (some y1)
theorem impl_wholeTree.ev   {K : Nat} {a0 : List impl_Node} {r : impl_tree} (h : impl_wholeTree.f  K a0 = some r) : E 31 [(.d (.l true 7 (a0.map impl_Node.e)))] = some ([(.agg (r.c.map .d))], []) := by
  refine Ev_intro (fn := Tryz.f31) rfl (by kernel_rfl) (c := _) rfl ⟨rfl, by simp⟩ rfl (evP_spec _ ?_)
  unfold impl_wholeTree.f at h
  refine goS ?_
  refine eqM ((a0.length : Int) : Int) (mLen rfl) ?_
  refine bindG h fun y1 hy2 h => ?_
  refine exM ([(.agg (y1.c.map .d))], []) ?_ ?_
  · exact impl_treeOf.ev hy2
  exact retE (enc := impl_wholeTree.enc) h rfl
def impl_aheadOf.enc (r : Int) : Res := ([(.d (.p (.int .i64 r)))], [])
def impl_aheadOf.f  (K : Nat) (a0 : Int) : Option (Int) := jn (fun (v1 : Bool) => if v1 = true then (some 2) else (jn (fun (v7 : Bool) => if v7 = true then (some 1) else (some 0)) (fun j => if a0 = 10 then (j true) else (if a0 = 11 then (j true) else (if a0 = 15 then (j true) else (if a0 = 16 then (j true) else (if a0 = 18 then (j true) else (if a0 = 7 then (j true) else (j (decide (a0 = 14))))))))))) (fun j => if a0 = 4 then (j true) else (if a0 = 8 then (j true) else (if a0 = 9 then (j true) else (if a0 = 13 then (j true) else (j (decide (a0 = 17)))))))
theorem impl_aheadOf.ev   {K : Nat} {a0 : Int} {r : Int} (h : impl_aheadOf.f  K a0 = some r) : E 67 [(.d (.p (.int .i64 a0)))] = some ([(.d (.p (.int .i64 r)))], []) := by
  refine Ev_intro (fn := Tryz.f67) rfl (by kernel_rfl) (c := _) rfl ⟨rfl, by simp⟩ rfl (evP_spec _ ?_)
  unfold impl_aheadOf.f at h
  refine goS ?_
  refine seqJ h 18 (fun x => [(3, (.d (.p (.int .i64 a0)))), (4, (.d (.p (.bool x))))]) (fun x => []) (fun J h => ?_) ?_
  · try ((with_reducible apply cdX); exact rfl)
    refine iteF h (fun c2 h => ?_) (fun c2 h => ?_)
    · exact ⟨true, h, ⟨rfl, ⟨rfl, rfl, trivial⟩, trivial⟩⟩
    · try ((with_reducible apply cdX); exact rfl)
      refine iteF h (fun c3 h => ?_) (fun c3 h => ?_)
      · exact ⟨true, h, ⟨rfl, ⟨rfl, rfl, trivial⟩, trivial⟩⟩
      · try ((with_reducible apply cdX); exact rfl)
        refine iteF h (fun c4 h => ?_) (fun c4 h => ?_)
        · exact ⟨true, h, ⟨rfl, ⟨rfl, rfl, trivial⟩, trivial⟩⟩
        · try ((with_reducible apply cdX); exact rfl)
          refine iteF h (fun c5 h => ?_) (fun c5 h => ?_)
          · exact ⟨true, h, ⟨rfl, ⟨rfl, rfl, trivial⟩, trivial⟩⟩
          · exact ⟨(decide (a0 = 17)), h, ⟨rfl, ⟨rfl, rfl, trivial⟩, trivial⟩⟩
  · rintro v1 h e hp
    try ((with_reducible apply cdX); exact rfl)
    refine ifB h (fun c6 h => ?_) (fun c6 h => ?_)
    · exact retE (enc := impl_aheadOf.enc) h rfl
    · refine seqJ h 18 (fun x => [(10, (.d (.p (.bool x))))]) (fun x => []) (fun J h => ?_) ?_
      · try ((with_reducible apply cdX); exact rfl)
        refine iteF h (fun c8 h => ?_) (fun c8 h => ?_)
        · exact ⟨true, h, ⟨rfl, ⟨rfl, trivial⟩, trivial⟩⟩
        · try ((with_reducible apply cdX); exact rfl)
          refine iteF h (fun c9 h => ?_) (fun c9 h => ?_)
          · exact ⟨true, h, ⟨rfl, ⟨rfl, trivial⟩, trivial⟩⟩
          · try ((with_reducible apply cdX); exact rfl)
            refine iteF h (fun c10 h => ?_) (fun c10 h => ?_)
            · exact ⟨true, h, ⟨rfl, ⟨rfl, trivial⟩, trivial⟩⟩
            · try ((with_reducible apply cdX); exact rfl)
              refine iteF h (fun c11 h => ?_) (fun c11 h => ?_)
              · exact ⟨true, h, ⟨rfl, ⟨rfl, trivial⟩, trivial⟩⟩
              · try ((with_reducible apply cdX); exact rfl)
                refine iteF h (fun c12 h => ?_) (fun c12 h => ?_)
                · exact ⟨true, h, ⟨rfl, ⟨rfl, trivial⟩, trivial⟩⟩
                · try ((with_reducible apply cdX); exact rfl)
                  refine iteF h (fun c13 h => ?_) (fun c13 h => ?_)
                  · exact ⟨true, h, ⟨rfl, ⟨rfl, trivial⟩, trivial⟩⟩
                  · exact ⟨(decide (a0 = 14)), h, ⟨rfl, ⟨rfl, trivial⟩, trivial⟩⟩
      · rintro v7 h e hp
        try ((with_reducible apply cdX); exact rfl)
        refine ifB h (fun c14 h => ?_) (fun c14 h => ?_)
        · exact retE (enc := impl_aheadOf.enc) h rfl
        · exact retE (enc := impl_aheadOf.enc) h rfl
def impl_IsAtom.enc (r : Bool) : Res := ([(.d (.p (.bool r)))], [])
def impl_IsAtom.f  (K : Nat) (a0 : impl_Node) : Option (Bool) := if a0.Kind = 1 then (some true) else (if a0.Kind = 2 then (some true) else (some (decide (a0.Kind = 12))))
theorem impl_IsAtom.ev   {K : Nat} {a0 : impl_Node} {r : Bool} (h : impl_IsAtom.f  K a0 = some r) : E 68 [(.agg (a0.e.map .d))] = some ([(.d (.p (.bool r)))], []) := by
  refine Ev_intro (fn := Tryz.f68) rfl (by kernel_rfl) (c := _) rfl ⟨rfl, by simp⟩ rfl (evP_spec _ ?_)
  unfold impl_IsAtom.f at h
  refine goS ?_
  try ((with_reducible apply cdX); exact rfl)
  refine iteF h (fun c1 h => ?_) (fun c1 h => ?_)
  · refine Ask.T rfl ?_
    refine Ask.T rfl ?_
    refine Ask.T rfl ?_
    refine Ask.T rfl ?_
    refine Ask.T rfl ?_
    refine Ask.T rfl ?_
    refine Ask.T rfl ?_
    exact retE (enc := impl_IsAtom.enc) h rfl
  · refine Ask.F rfl ?_
    refine Ask.F rfl ?_
    refine Ask.F rfl ?_
    refine iteF h (fun c2 h => ?_) (fun c2 h => ?_)
    · refine Ask.T rfl ?_
      refine Ask.T rfl ?_
      refine Ask.T rfl ?_
      exact retE (enc := impl_IsAtom.enc) h rfl
    · refine Ask.F rfl ?_
      refine Ask.F rfl ?_
      refine Ask.F rfl ?_
      exact retE (enc := impl_IsAtom.enc) h rfl
def impl_FreshName.enc (r : ByteArray) : Res := ([(.d (.p (.string r)))], [])
def impl_FreshName.l0 (K : Nat) : Nat → Int → ByteArray → Option (ByteArray)
  | 0, _, _ => none
  | k + 1, v5, v6 => if v5 > 0 then (gd ((strOfNums ([(IntKind.u8.wrap (w64 (97 + (Int.tmod v5 26))))] : List Int)).size + v6.size ≤ 9223372036854775807) (impl_FreshName.l0 K k (w64 (Int.tdiv v5 26)) ((strOfNums ([(IntKind.u8.wrap (w64 (97 + (Int.tmod v5 26))))] : List Int)) ++ v6))) else (some v6)
def impl_FreshName.f  (K : Nat) (a0 : Int) : Option (ByteArray) := (impl_in.f K a0 0 9999).bind fun y1 => (if (!y1) = true then (some (⟨#[]⟩ : ByteArray)) else (jn (fun (v4 : ByteArray) => gd ((⟨#[122, 113]⟩ : ByteArray).size + v4.size ≤ 9223372036854775807) (some ((⟨#[122, 113]⟩ : ByteArray) ++ v4))) (fun j => (impl_FreshName.l0 K K (w64 (Int.tdiv a0 26)) (strOfNums ([(IntKind.u8.wrap (w64 (97 + (Int.tmod a0 26))))] : List Int))).bind fun (v7 : ByteArray) => j v7)))
theorem impl_FreshName.ev   {K : Nat} {a0 : Int} {r : ByteArray} (h : impl_FreshName.f  K a0 = some r) : E 76 [(.d (.p (.int .i64 a0)))] = some ([(.d (.p (.string r)))], []) := by
  refine Ev_intro (fn := Tryz.f76) rfl (by kernel_rfl) (c := _) rfl ⟨rfl, by simp⟩ rfl (evP_spec _ ?_)
  unfold impl_FreshName.f at h
  refine goS ?_
  refine bindG h fun y1 hy2 h => ?_
  refine exM ([(.d (.p (.bool y1)))], []) ?_ ?_
  · exact impl_in.ev hy2
  refine ifB h (fun c3 h => ?_) (fun c3 h => ?_)
  · exact retE (enc := impl_FreshName.enc) h rfl
  · refine anM (by decide) ?_
    refine eqM (([(IntKind.u8.wrap (w64 (97 + (Int.tmod a0 26))))] : List Int).map eY) rfl ?_
    refine exM ([(IntKind.u8.wrap (w64 (97 + (Int.tmod a0 26))))] : List Int) (numsOf_map _) ?_
    refine seqJ h 29 (fun x => [(3, (.d (.p (.string x))))]) (fun x => []) (fun J h => ?_) ?_
    · refine anM (by decide) ?_
      refine loopX (α := Int × ByteArray) (a := ((w64 (Int.tdiv a0 26)), (strOfNums ([(IntKind.u8.wrap (w64 (97 + (Int.tmod a0 26))))] : List Int)))) 29 (fun x => [(0, (.d (.p (.int .i64 x.1)))), (3, (.d (.p (.string x.2))))]) (fun x => []) (fun k x => impl_FreshName.l0 K k x.1 x.2) 0 (fun x => [(3, (.d (.p (.string x))))]) (fun x => []) h (fun _ => rfl) ?_ ⟨rfl, ⟨rfl, rfl, trivial⟩, trivial⟩ ?_
      · rintro k ⟨v5, v6⟩ r h e hp
        replace h : impl_FreshName.l0 K (k + 1) v5 v6 = some r := h
        unfold impl_FreshName.l0 at h
        refine goS ?_
        try ((with_reducible apply cdX); exact rfl)
        refine iteF h (fun c8 h => ?_) (fun c8 h => ?_)
        · refine goS ?_
          refine anM (by decide) ?_
          refine eqM (([(IntKind.u8.wrap (w64 (97 + (Int.tmod v5 26))))] : List Int).map eY) rfl ?_
          refine exM ([(IntKind.u8.wrap (w64 (97 + (Int.tmod v5 26))))] : List Int) (numsOf_map _) ?_
          refine gdG h fun hc h => ?_
          refine anM hc ?_
          refine anM (by decide) ?_
          exact ⟨((w64 (Int.tdiv v5 26)), ((strOfNums ([(IntKind.u8.wrap (w64 (97 + (Int.tmod v5 26))))] : List Int)) ++ v6)), h, ⟨rfl, ⟨rfl, rfl, trivial⟩, trivial⟩⟩
        · refine exQ h ?_
          exact ⟨rfl, ⟨rfl, trivial⟩, trivial⟩
      · rintro v7 S' h ⟨qn, ⟨qa0, _⟩, ⟨_⟩⟩
        exact ⟨v7, h, ⟨qn, ⟨qa0, trivial⟩, trivial⟩⟩
    · rintro v4 h e hp
      refine gdG h fun hc h => ?_
      refine anM hc ?_
      exact retE (enc := impl_FreshName.enc) h rfl
def impl_hasText.enc (r : Bool) : Res := ([(.d (.p (.bool r)))], [])
def impl_hasText.en (a0 : List ByteArray) (a1 : ByteArray) (r : Bool) (S : St) : Prop := endV tb md 75 Tryz.f75 [(.d (.l true 1 (a0.map eS))), (.d (.p (.string a1)))] .ret S = some (impl_hasText.enc r)
def impl_hasText.l0 (a0 : List ByteArray) (a1 : ByteArray) (K : Nat) : Nat → Int → Option (Bool ⊕ Unit)
  | 0, _ => none
  | k + 1, v1 => if v1 < (a0.length : Int) then ((at_ a0 v1).bind fun x3 => (if (x3.toList == a1.toList) = true then (some (.inl true)) else (impl_hasText.l0 a0 a1 K k (w64 (v1 + 1))))) else (some (.inr ()))
def impl_hasText.f  (K : Nat) (a0 : List ByteArray) (a1 : ByteArray) : Option (Bool) := jn (fun (_ : Unit) => some false) (fun j => lb (impl_hasText.l0 a0 a1 K K 0) (fun r => some r) (fun (_ : Unit) => j ()))
theorem impl_hasText.ev   {K : Nat} {a0 : List ByteArray} {a1 : ByteArray} {r : Bool} (h : impl_hasText.f  K a0 a1 = some r) : E 75 [(.d (.l true 1 (a0.map eS))), (.d (.p (.string a1)))] = some ([(.d (.p (.bool r)))], []) := by
  refine Ev_intro (fn := Tryz.f75) rfl (by kernel_rfl) (c := _) rfl ⟨rfl, by simp⟩ rfl (evP_spec _ ?_)
  unfold impl_hasText.f at h
  refine seqJ h 17 (fun x => []) (fun x => []) (fun J h => ?_) ?_
  · refine eqM ((a0.length : Int) : Int) (mLen rfl) ?_
    refine loopB (α := Int) (a := 0) 17 (fun x => [(1, (.d (.p (.string a1)))), (7, (.d (.l true 1 (a0.map eS)))), (8, (.d (.p (.int .i64 (a0.length : Int))))), (9, (.d (.p (.int .i64 x))))]) (fun x => []) (fun k x => impl_hasText.l0 a0 a1 K k x) (impl_hasText.en a0 a1) 0 (fun x => []) (fun x => []) h (fun _ => rfl) ?_ ⟨rfl, ⟨rfl, rfl, rfl, rfl, trivial⟩, trivial⟩ ?_ ?_
    · rintro k v1 r h e hp
      replace h : impl_hasText.l0 a0 a1 K (k + 1) v1 = some r := h
      unfold impl_hasText.l0 at h
      refine goS ?_
      try ((with_reducible apply cdX); exact rfl)
      refine iteF h (fun c2 h => ?_) (fun c2 h => ?_)
      · refine goS ?_
        refine bindG h fun x3 hx3 h => ?_
        refine anM (at_ix rfl hx3) ?_
        refine exM (eS x3) (at_get rfl hx3) ?_
        refine ifB h (fun c4 h => ?_) (fun c4 h => ?_)
        · exact lqL h rfl
        · exact ⟨(w64 (v1 + 1)), h, ⟨rfl, ⟨rfl, rfl, rfl, rfl, trivial⟩, trivial⟩⟩
      · refine lqR h ?_
        exact ⟨rfl, trivial, trivial⟩
    · intro r' S' h q
      exact retE (enc := impl_hasText.enc) h q
    · rintro _ S' h ⟨qn, ⟨_⟩, ⟨_⟩⟩
      exact ⟨(), h, ⟨qn, trivial, trivial⟩⟩
  · rintro _ h e hp
    exact retE (enc := impl_hasText.enc) h rfl
def impl_namer_next.enc (r : ByteArray × impl_namer) : Res := ([(.d (.p (.string r.1)))], [(.ptr [(.own true 1 (r.2.used.map eS)), (.d (.p (.int .i64 r.2.k_)))])])
def impl_namer_next.l0 (K : Nat) : Nat → impl_namer → Option (impl_namer)
  | 0, _ => none
  | k + 1, v2 => (impl_FreshName.f K v2.k_).bind fun y4 => ((impl_hasText.f K v2.used y4).bind fun y6 => (if y6 = true then (impl_namer_next.l0 K k (⟨v2.used, (w64 (v2.k_ + 1))⟩ : impl_namer)) else (some v2)))
def impl_namer_next.f  (K : Nat) (a0 : impl_namer) : Option (ByteArray × impl_namer) := jn (fun (v1 : impl_namer) => (impl_FreshName.f K (w64 ((w64 (v1.k_ + 1)) - 1))).bind fun y9 => (some (y9, (⟨v1.used, (w64 (v1.k_ + 1))⟩ : impl_namer)))) (fun j => (impl_namer_next.l0 K K a0).bind fun (v3 : impl_namer) => j v3)
theorem impl_namer_next.ev   {K : Nat} {a0 : impl_namer} {r : ByteArray × impl_namer} (h : impl_namer_next.f  K a0 = some r) : E 69 [(.ptr [(.own true 1 (a0.used.map eS)), (.d (.p (.int .i64 a0.k_)))])] = some ([(.d (.p (.string r.1)))], [(.ptr [(.own true 1 (r.2.used.map eS)), (.d (.p (.int .i64 r.2.k_)))])]) := by
  refine Ev_intro (fn := Tryz.f69) rfl (by kernel_rfl) (c := _) rfl ⟨rfl, by simp⟩ rfl (evP_spec _ ?_)
  unfold impl_namer_next.f at h
  refine seqJ h 33 (fun x => [(0, (.ptr 33 0 1 0))]) (fun x => [(33, 0, 1, (some (.box [(.own 33 1000 2), (.d (.p (.int .i64 x.k_)))]))), (33, 1000, 2, (some (.row true true 1 (x.used.map eS))))]) (fun J h => ?_) ?_
  · refine loopX (α := impl_namer) (a := a0) 33 (fun x => [(0, (.ptr 33 0 1 0))]) (fun x => [(33, 0, 1, (some (.box [(.own 33 1000 2), (.d (.p (.int .i64 x.k_)))]))), (33, 1000, 2, (some (.row true true 1 (x.used.map eS))))]) (fun k x => impl_namer_next.l0 K k x) 0 (fun x => [(0, (.ptr 33 0 1 0))]) (fun x => [(33, 0, 1, (some (.box [(.own 33 1000 2), (.d (.p (.int .i64 x.k_)))]))), (33, 1000, 2, (some (.row true true 1 (x.used.map eS))))]) h (fun _ => rfl) ?_ ⟨rfl, ⟨rfl, trivial⟩, ⟨rfl, rfl, trivial⟩⟩ ?_
    · rintro k v2 r h e hp
      replace h : impl_namer_next.l0 K (k + 1) v2 = some r := h
      unfold impl_namer_next.l0 at h
      refine goS ?_
      refine ⟨[[], [8, 9, 10, 11], [8, 9, 10, 11], [8, 9, 10, 11], [], [4, 5, 6], [4, 5, 6], [4, 5, 6], [4, 5, 6], []], [], by kernel_rfl, ?_⟩
      refine bindG h fun y4 hy5 h => ?_
      refine exM ([(.d (.p (.string y4)))], []) ?_ ?_
      · exact impl_FreshName.ev hy5
      refine bindG h fun y6 hy7 h => ?_
      refine exM ([(.d (.p (.bool y6)))], []) ?_ ?_
      · exact impl_hasText.ev hy7
      refine ifB h (fun c8 h => ?_) (fun c8 h => ?_)
      · exact ⟨(⟨v2.used, (w64 (v2.k_ + 1))⟩ : impl_namer), h, ⟨rfl, ⟨rfl, trivial⟩, ⟨rfl, rfl, trivial⟩⟩⟩
      · refine exQ h ?_
        exact ⟨rfl, ⟨rfl, trivial⟩, ⟨rfl, rfl, trivial⟩⟩
    · rintro v3 S' h ⟨qn, ⟨qa0, _⟩, ⟨qb0, qb1, _⟩⟩
      exact ⟨v3, h, ⟨qn, ⟨qa0, trivial⟩, ⟨qb0, qb1, trivial⟩⟩⟩
  · rintro v1 h e hp
    refine goS ?_
    refine bindG h fun y9 hy10 h => ?_
    refine exM ([(.d (.p (.string y9)))], []) ?_ ?_
    · exact impl_FreshName.ev hy10
    exact retE (enc := impl_namer_next.enc) h rfl
def impl_namer_anf.enc (r : impl_tree × impl_namer) : Res := ([(.agg (r.1.c.map .d))], [(.ptr [(.own true 1 (r.2.used.map eS)), (.d (.p (.int .i64 r.2.k_)))])])
def impl_namer_anf.l0 (r_impl_namer_anf : impl_namer → impl_tree → Option (impl_tree × impl_namer)) (a1 : impl_tree) (K : Nat) : Nat → Int → impl_namer → impl_tree → (List ByteArray) → (List impl_tree) → Option (impl_tree × List ByteArray × List impl_tree × impl_namer)
  | 0, _, _, _, _, _ => none
  | k + 1, v5, v6, v7, v8, v9 => if v5 < (a1.kids.length : Int) then ((at_ a1.kids v5).bind fun x15 => ((r_impl_namer_anf v6 x15).bind fun (y16, y17) => (jn (fun (v19, v20, v21, v22) => gd ((v7.kids.length + 1) * 96 ≤ 140737488355328) (impl_namer_anf.l0 r_impl_namer_anf a1 K k (w64 (v5 + 1)) v19 (⟨v7.n, (v7.kids ++ ([v22] : List impl_tree))⟩ : impl_tree) v20 v21)) (fun j => jn (fun (v23 : Bool) => if v23 = true then ((impl_namer_next.f K y17).bind fun (y30, y31) => (gd ((v8.length + 1) * 16 ≤ 140737488355328) (gd ((v9.length + 1) * 96 ≤ 140737488355328) (j (y31, (v8 ++ ([y30] : List ByteArray)), (v9 ++ ([y16] : List impl_tree)), (⟨(⟨1, 0, 0, 0, 0, y30, (⟨#[]⟩ : ByteArray)⟩ : impl_Node), ([] : List impl_tree)⟩ : impl_tree)))))) else (j (y17, v8, v9, y16))) (fun j => (impl_aheadOf.f K a1.n.Kind).bind fun y24 => (if v5 < y24 then ((impl_IsAtom.f K x15.n).bind fun y27 => (j (!y27))) else (j false))))))) else (some (v7, v8, v9, v6))
def impl_namer_anf.l1 (v2 : List ByteArray) (v3 : List impl_tree) (K : Nat) : Nat → Int → impl_tree → Option (impl_tree)
  | 0, _, _ => none
  | k + 1, v34, v35 => if v34 ≥ 0 then ((at_ v2 v34).bind fun x38 => ((at_ v3 v34).bind fun x39 => (impl_namer_anf.l1 v2 v3 K k (w64 (v34 - 1)) (⟨(⟨5, 0, 0, 0, 0, x38, (⟨#[]⟩ : ByteArray)⟩ : impl_Node), ([x39, v35] : List impl_tree)⟩ : impl_tree)))) else (some v35)
def impl_namer_anf.b (r_impl_namer_anf : impl_namer → impl_tree → Option (impl_tree × impl_namer)) (K : Nat) (a0 : impl_namer) (a1 : impl_tree) : Option (impl_tree × impl_namer) := jn (fun (v1, v2, v3, v4) => jn (fun (v33 : impl_tree) => some (v33, v4)) (fun j => (impl_namer_anf.l1 v2 v3 K K (w64 ((v2.length : Int) - 1)) v1).bind fun (v36 : impl_tree) => j v36)) (fun j => (impl_namer_anf.l0 r_impl_namer_anf a1 K K 0 a0 (⟨a1.n, ([] : List impl_tree)⟩ : impl_tree) ([] : List ByteArray) ([] : List impl_tree)).bind fun (v10, v11, v12, v13) => j (v10, v11, v12, v13))
theorem impl_namer_anf.b_ev {r_impl_namer_anf : impl_namer → impl_tree → Option (impl_tree × impl_namer)} (hr_impl_namer_anf : ∀ {a0 : impl_namer} {a1 : impl_tree} {r : impl_tree × impl_namer}, r_impl_namer_anf a0 a1 = some r → E 30 [(.ptr [(.own true 1 (a0.used.map eS)), (.d (.p (.int .i64 a0.k_)))]), (.agg (a1.c.map .d))] = some ([(.agg (r.1.c.map .d))], [(.ptr [(.own true 1 (r.2.used.map eS)), (.d (.p (.int .i64 r.2.k_)))])])) {K : Nat} {a0 : impl_namer} {a1 : impl_tree} {r : impl_tree × impl_namer} (h : impl_namer_anf.b r_impl_namer_anf K a0 a1 = some r) : E 30 [(.ptr [(.own true 1 (a0.used.map eS)), (.d (.p (.int .i64 a0.k_)))]), (.agg (a1.c.map .d))] = some ([(.agg (r.1.c.map .d))], [(.ptr [(.own true 1 (r.2.used.map eS)), (.d (.p (.int .i64 r.2.k_)))])]) := by
  refine Ev_intro (fn := Tryz.f30) rfl (by kernel_rfl) (c := _) rfl ⟨rfl, by simp⟩ rfl (evP_spec _ ?_)
  unfold impl_namer_anf.b at h
  refine goS ?_
  refine seqJ h 79 (fun x => [(4, (.ptr 4 0 2 0)), (5, (.ptr 5 0 2 0)), (6, (.own 6 1 2)), (7, (.own 7 1 2))]) (fun x => [(4, 0, 2, (some (.box [(.d (.p (.int .i64 0))), (.d (.p (.int .i64 0))), (.d (.p (.int .i64 0))), (.d (.p (.int .i64 0))), (.d (.p (.int .i64 0))), (.d (.p (.string (⟨#[]⟩ : ByteArray)))), (.d (.p (.string (⟨#[]⟩ : ByteArray)))), (.own 4 1007 2)]))), (4, 1007, 2, (some (.row true false 8 (([] : List impl_tree).map impl_tree.e)))), (5, 0, 2, (some (.box [(.d (.p (.int .i64 x.1.n.Kind))), (.d (.p (.int .i64 x.1.n.A))), (.d (.p (.int .i64 x.1.n.B))), (.d (.p (.int .i64 x.1.n.C))), (.d (.p (.int .i64 x.1.n.N))), (.d (.p (.string x.1.n.Name))), (.d (.p (.string x.1.n.Other))), (.own 5 1007 2)]))), (5, 1007, 2, (some (.row true false 8 (x.1.kids.map impl_tree.e)))), (6, 1, 2, (some (.row true true 1 (x.2.1.map eS)))), (7, 1, 2, (some (.row true false 8 (x.2.2.1.map impl_tree.e)))), (79, 0, 1, (some (.box [(.own 79 1000 2), (.d (.p (.int .i64 x.2.2.2.k_)))]))), (79, 1000, 2, (some (.row true true 1 (x.2.2.2.used.map eS))))]) (fun J h => ?_) ?_
  · refine eqM ((a1.kids.length : Int) : Int) (mLen rfl) ?_
    refine loopX (α := Int × impl_namer × impl_tree × List ByteArray × List impl_tree) (a := (0, a0, (⟨a1.n, ([] : List impl_tree)⟩ : impl_tree), ([] : List ByteArray), ([] : List impl_tree))) 79 (fun x => [(0, (.ptr 79 0 1 0)), (3, (.ptr 3 0 2 0)), (4, (.ptr 4 0 2 0)), (5, (.ptr 5 0 2 0)), (6, (.own 6 1 2)), (7, (.own 7 1 2)), (17, (.d (.l false 8 (a1.kids.map impl_tree.e)))), (18, (.d (.p (.int .i64 (a1.kids.length : Int))))), (19, (.d (.p (.int .i64 x.1))))]) (fun x => [(3, 0, 2, (some (.box [(.d (.p (.int .i64 a1.n.Kind))), (.d (.p (.int .i64 a1.n.A))), (.d (.p (.int .i64 a1.n.B))), (.d (.p (.int .i64 a1.n.C))), (.d (.p (.int .i64 a1.n.N))), (.d (.p (.string a1.n.Name))), (.d (.p (.string a1.n.Other))), (.d (.l false 8 (a1.kids.map impl_tree.e)))]))), (4, 0, 2, (some (.box [(.d (.p (.int .i64 0))), (.d (.p (.int .i64 0))), (.d (.p (.int .i64 0))), (.d (.p (.int .i64 0))), (.d (.p (.int .i64 0))), (.d (.p (.string (⟨#[]⟩ : ByteArray)))), (.d (.p (.string (⟨#[]⟩ : ByteArray)))), (.own 4 1007 2)]))), (4, 1007, 2, (some (.row true false 8 (([] : List impl_tree).map impl_tree.e)))), (5, 0, 2, (some (.box [(.d (.p (.int .i64 x.2.2.1.n.Kind))), (.d (.p (.int .i64 x.2.2.1.n.A))), (.d (.p (.int .i64 x.2.2.1.n.B))), (.d (.p (.int .i64 x.2.2.1.n.C))), (.d (.p (.int .i64 x.2.2.1.n.N))), (.d (.p (.string x.2.2.1.n.Name))), (.d (.p (.string x.2.2.1.n.Other))), (.own 5 1007 2)]))), (5, 1007, 2, (some (.row true false 8 (x.2.2.1.kids.map impl_tree.e)))), (6, 1, 2, (some (.row true true 1 (x.2.2.2.1.map eS)))), (7, 1, 2, (some (.row true false 8 (x.2.2.2.2.map impl_tree.e)))), (79, 0, 1, (some (.box [(.own 79 1000 2), (.d (.p (.int .i64 x.2.1.k_)))]))), (79, 1000, 2, (some (.row true true 1 (x.2.1.used.map eS))))]) (fun k x => impl_namer_anf.l0 r_impl_namer_anf a1 K k x.1 x.2.1 x.2.2.1 x.2.2.2.1 x.2.2.2.2) 0 (fun x => [(4, (.ptr 4 0 2 0)), (5, (.ptr 5 0 2 0)), (6, (.own 6 1 2)), (7, (.own 7 1 2))]) (fun x => [(4, 0, 2, (some (.box [(.d (.p (.int .i64 0))), (.d (.p (.int .i64 0))), (.d (.p (.int .i64 0))), (.d (.p (.int .i64 0))), (.d (.p (.int .i64 0))), (.d (.p (.string (⟨#[]⟩ : ByteArray)))), (.d (.p (.string (⟨#[]⟩ : ByteArray)))), (.own 4 1007 2)]))), (4, 1007, 2, (some (.row true false 8 (([] : List impl_tree).map impl_tree.e)))), (5, 0, 2, (some (.box [(.d (.p (.int .i64 x.1.n.Kind))), (.d (.p (.int .i64 x.1.n.A))), (.d (.p (.int .i64 x.1.n.B))), (.d (.p (.int .i64 x.1.n.C))), (.d (.p (.int .i64 x.1.n.N))), (.d (.p (.string x.1.n.Name))), (.d (.p (.string x.1.n.Other))), (.own 5 1007 2)]))), (5, 1007, 2, (some (.row true false 8 (x.1.kids.map impl_tree.e)))), (6, 1, 2, (some (.row true true 1 (x.2.1.map eS)))), (7, 1, 2, (some (.row true false 8 (x.2.2.1.map impl_tree.e)))), (79, 0, 1, (some (.box [(.own 79 1000 2), (.d (.p (.int .i64 x.2.2.2.k_)))]))), (79, 1000, 2, (some (.row true true 1 (x.2.2.2.used.map eS))))]) h (fun _ => rfl) ?_ ⟨rfl, ⟨rfl, rfl, rfl, rfl, rfl, rfl, rfl, rfl, rfl, trivial⟩, ⟨rfl, rfl, rfl, rfl, rfl, rfl, rfl, rfl, rfl, trivial⟩⟩ ?_
    · rintro k ⟨v5, v6, v7, v8, v9⟩ r h e hp
      replace h : impl_namer_anf.l0 r_impl_namer_anf a1 K (k + 1) v5 v6 v7 v8 v9 = some r := h
      unfold impl_namer_anf.l0 at h
      refine goS ?_
      try ((with_reducible apply cdX); exact rfl)
      refine iteF h (fun c14 h => ?_) (fun c14 h => ?_)
      · refine goS ?_
        refine goS ?_
        refine bindG h fun x15 hx15 h => ?_
        refine anM (at_ix rfl hx15) ?_
        refine exM (impl_tree.c x15) ((at_get rfl hx15).trans (congrArg some (impl_tree.e_eq x15))) ?_
        refine goS ?_
        refine bindG h ?_
        rintro ⟨y16, y17⟩ hy18 h
        refine exM ([(.agg (y16.c.map .d))], [(.ptr [(.own true 1 (y17.used.map eS)), (.d (.p (.int .i64 y17.k_)))])]) ?_ ?_
        · exact hr_impl_namer_anf hy18
        refine seqJ h 79 (fun x => [(0, (.ptr 79 0 1 0)), (3, (.ptr 3 0 2 0)), (4, (.ptr 4 0 2 0)), (5, (.ptr 5 0 2 0)), (6, (.own 6 1 2)), (7, (.own 7 1 2)), (10, (.ptr 10 0 2 0)), (17, (.d (.l false 8 (a1.kids.map impl_tree.e)))), (18, (.d (.p (.int .i64 (a1.kids.length : Int))))), (19, (.d (.p (.int .i64 v5))))]) (fun x => [(3, 0, 2, (some (.box [(.d (.p (.int .i64 a1.n.Kind))), (.d (.p (.int .i64 a1.n.A))), (.d (.p (.int .i64 a1.n.B))), (.d (.p (.int .i64 a1.n.C))), (.d (.p (.int .i64 a1.n.N))), (.d (.p (.string a1.n.Name))), (.d (.p (.string a1.n.Other))), (.d (.l false 8 (a1.kids.map impl_tree.e)))]))), (4, 0, 2, (some (.box [(.d (.p (.int .i64 0))), (.d (.p (.int .i64 0))), (.d (.p (.int .i64 0))), (.d (.p (.int .i64 0))), (.d (.p (.int .i64 0))), (.d (.p (.string (⟨#[]⟩ : ByteArray)))), (.d (.p (.string (⟨#[]⟩ : ByteArray)))), (.own 4 1007 2)]))), (4, 1007, 2, (some (.row true false 8 (([] : List impl_tree).map impl_tree.e)))), (5, 0, 2, (some (.box [(.d (.p (.int .i64 v7.n.Kind))), (.d (.p (.int .i64 v7.n.A))), (.d (.p (.int .i64 v7.n.B))), (.d (.p (.int .i64 v7.n.C))), (.d (.p (.int .i64 v7.n.N))), (.d (.p (.string v7.n.Name))), (.d (.p (.string v7.n.Other))), (.own 5 1007 2)]))), (5, 1007, 2, (some (.row true false 8 (v7.kids.map impl_tree.e)))), (6, 1, 2, (some (.row true true 1 (x.2.1.map eS)))), (7, 1, 2, (some (.row true false 8 (x.2.2.1.map impl_tree.e)))), (10, 0, 2, (some (.box [(.d (.p (.int .i64 x.2.2.2.n.Kind))), (.d (.p (.int .i64 x.2.2.2.n.A))), (.d (.p (.int .i64 x.2.2.2.n.B))), (.d (.p (.int .i64 x.2.2.2.n.C))), (.d (.p (.int .i64 x.2.2.2.n.N))), (.d (.p (.string x.2.2.2.n.Name))), (.d (.p (.string x.2.2.2.n.Other))), (.d (.l false 8 (x.2.2.2.kids.map impl_tree.e)))]))), (79, 0, 1, (some (.box [(.own 79 1000 2), (.d (.p (.int .i64 x.1.k_)))]))), (79, 1000, 2, (some (.row true true 1 (x.1.used.map eS))))]) (fun J h => ?_) ?_
        · refine seqJ h 79 (fun x => [(0, (.ptr 79 0 1 0)), (3, (.ptr 3 0 2 0)), (4, (.ptr 4 0 2 0)), (5, (.ptr 5 0 2 0)), (6, (.own 6 1 2)), (7, (.own 7 1 2)), (10, (.ptr 10 0 2 0)), (17, (.d (.l false 8 (a1.kids.map impl_tree.e)))), (18, (.d (.p (.int .i64 (a1.kids.length : Int))))), (19, (.d (.p (.int .i64 v5)))), (38, (.d (.p (.bool x))))]) (fun x => [(3, 0, 2, (some (.box [(.d (.p (.int .i64 a1.n.Kind))), (.d (.p (.int .i64 a1.n.A))), (.d (.p (.int .i64 a1.n.B))), (.d (.p (.int .i64 a1.n.C))), (.d (.p (.int .i64 a1.n.N))), (.d (.p (.string a1.n.Name))), (.d (.p (.string a1.n.Other))), (.d (.l false 8 (a1.kids.map impl_tree.e)))]))), (4, 0, 2, (some (.box [(.d (.p (.int .i64 0))), (.d (.p (.int .i64 0))), (.d (.p (.int .i64 0))), (.d (.p (.int .i64 0))), (.d (.p (.int .i64 0))), (.d (.p (.string (⟨#[]⟩ : ByteArray)))), (.d (.p (.string (⟨#[]⟩ : ByteArray)))), (.own 4 1007 2)]))), (4, 1007, 2, (some (.row true false 8 (([] : List impl_tree).map impl_tree.e)))), (5, 0, 2, (some (.box [(.d (.p (.int .i64 v7.n.Kind))), (.d (.p (.int .i64 v7.n.A))), (.d (.p (.int .i64 v7.n.B))), (.d (.p (.int .i64 v7.n.C))), (.d (.p (.int .i64 v7.n.N))), (.d (.p (.string v7.n.Name))), (.d (.p (.string v7.n.Other))), (.own 5 1007 2)]))), (5, 1007, 2, (some (.row true false 8 (v7.kids.map impl_tree.e)))), (6, 1, 2, (some (.row true true 1 (v8.map eS)))), (7, 1, 2, (some (.row true false 8 (v9.map impl_tree.e)))), (10, 0, 2, (some (.box [(.d (.p (.int .i64 y16.n.Kind))), (.d (.p (.int .i64 y16.n.A))), (.d (.p (.int .i64 y16.n.B))), (.d (.p (.int .i64 y16.n.C))), (.d (.p (.int .i64 y16.n.N))), (.d (.p (.string y16.n.Name))), (.d (.p (.string y16.n.Other))), (.d (.l false 8 (y16.kids.map impl_tree.e)))]))), (79, 0, 1, (some (.box [(.own 79 1000 2), (.d (.p (.int .i64 y17.k_)))]))), (79, 1000, 2, (some (.row true true 1 (y17.used.map eS))))]) (fun J h => ?_) ?_
          · refine bindG h fun y24 hy25 h => ?_
            refine exM ([(.d (.p (.int .i64 y24)))], []) ?_ ?_
            · exact impl_aheadOf.ev hy25
            refine iteF h (fun c26 h => ?_) (fun c26 h => ?_)
            · refine Ask.T rfl ?_
              refine Ask.T rfl ?_
              refine bindG h fun y27 hy28 h => ?_
              refine exM ([(.d (.p (.bool y27)))], []) ?_ ?_
              · exact impl_IsAtom.ev hy28
              refine Ask.T rfl ?_
              refine Ask.T rfl ?_
              exact ⟨(!y27), h, ⟨rfl, ⟨rfl, rfl, rfl, rfl, rfl, rfl, rfl, rfl, rfl, rfl, rfl, trivial⟩, ⟨rfl, rfl, rfl, rfl, rfl, rfl, rfl, rfl, rfl, rfl, trivial⟩⟩⟩
            · refine Ask.F rfl ?_
              refine Ask.F rfl ?_
              refine Ask.F rfl ?_
              refine Ask.F rfl ?_
              exact ⟨false, h, ⟨rfl, ⟨rfl, rfl, rfl, rfl, rfl, rfl, rfl, rfl, rfl, rfl, rfl, trivial⟩, ⟨rfl, rfl, rfl, rfl, rfl, rfl, rfl, rfl, rfl, rfl, trivial⟩⟩⟩
          · rintro v23 h e hp
            try ((with_reducible apply cdX); exact rfl)
            refine ifB h (fun c29 h => ?_) (fun c29 h => ?_)
            · refine bindG h ?_
              rintro ⟨y30, y31⟩ hy32 h
              refine exM ([(.d (.p (.string y30)))], [(.ptr [(.own true 1 (y31.used.map eS)), (.d (.p (.int .i64 y31.k_)))])]) ?_ ?_
              · exact impl_namer_next.ev hy32
              refine eqM (([y30] : List ByteArray).map eS) rfl ?_
              refine gdG h fun hc h => ?_
              refine anM (apB hc) ?_
              refine eqM ((v8 ++ ([y30] : List ByteArray)).map eS) (mApp rfl rfl) ?_
              refine eqM (([y16] : List impl_tree).map impl_tree.e) (by simp only [List.map, impl_tree.e_eq]; rfl) ?_
              refine gdG h fun hc h => ?_
              refine anM (apB hc) ?_
              refine eqM ((v9 ++ ([y16] : List impl_tree)).map impl_tree.e) (mApp rfl rfl) ?_
              exact ⟨(y31, (v8 ++ ([y30] : List ByteArray)), (v9 ++ ([y16] : List impl_tree)), (⟨(⟨1, 0, 0, 0, 0, y30, (⟨#[]⟩ : ByteArray)⟩ : impl_Node), ([] : List impl_tree)⟩ : impl_tree)), h, ⟨rfl, ⟨rfl, rfl, rfl, rfl, rfl, rfl, rfl, rfl, rfl, rfl, trivial⟩, ⟨rfl, rfl, rfl, rfl, rfl, rfl, rfl, rfl, rfl, rfl, trivial⟩⟩⟩
            · exact ⟨(y17, v8, v9, y16), h, ⟨rfl, ⟨rfl, rfl, rfl, rfl, rfl, rfl, rfl, rfl, rfl, rfl, trivial⟩, ⟨rfl, rfl, rfl, rfl, rfl, rfl, rfl, rfl, rfl, rfl, trivial⟩⟩⟩
        · rintro ⟨v19, v20, v21, v22⟩ h e hp
          refine eqM (([v22] : List impl_tree).map impl_tree.e) (by simp only [List.map, impl_tree.e_eq]; rfl) ?_
          refine gdG h fun hc h => ?_
          refine anM (apB hc) ?_
          refine eqM ((v7.kids ++ ([v22] : List impl_tree)).map impl_tree.e) (mApp rfl rfl) ?_
          exact ⟨((w64 (v5 + 1)), v19, (⟨v7.n, (v7.kids ++ ([v22] : List impl_tree))⟩ : impl_tree), v20, v21), h, ⟨rfl, ⟨rfl, rfl, rfl, rfl, rfl, rfl, rfl, rfl, rfl, trivial⟩, ⟨rfl, rfl, rfl, rfl, rfl, rfl, rfl, rfl, rfl, trivial⟩⟩⟩
      · refine exQ h ?_
        exact ⟨rfl, ⟨rfl, rfl, rfl, rfl, trivial⟩, ⟨rfl, rfl, rfl, rfl, rfl, rfl, rfl, rfl, trivial⟩⟩
    · rintro ⟨v10, v11, v12, v13⟩ S' h ⟨qn, ⟨qa0, qa1, qa2, qa3, _⟩, ⟨qb0, qb1, qb2, qb3, qb4, qb5, qb6, qb7, _⟩⟩
      exact ⟨(v10, v11, v12, v13), h, ⟨qn, ⟨qa0, qa1, qa2, qa3, trivial⟩, ⟨qb0, qb1, qb2, qb3, qb4, qb5, qb6, qb7, trivial⟩⟩⟩
  · rintro ⟨v1, v2, v3, v4⟩ h e hp
    refine seqJ h 79 (fun x => [(4, (.ptr 4 0 2 0)), (5, (.ptr 5 0 2 0))]) (fun x => [(4, 0, 2, (some (.box [(.d (.p (.int .i64 0))), (.d (.p (.int .i64 0))), (.d (.p (.int .i64 0))), (.d (.p (.int .i64 0))), (.d (.p (.int .i64 0))), (.d (.p (.string (⟨#[]⟩ : ByteArray)))), (.d (.p (.string (⟨#[]⟩ : ByteArray)))), (.own 4 1007 2)]))), (4, 1007, 2, (some (.row true false 8 (([] : List impl_tree).map impl_tree.e)))), (5, 0, 2, (some (.box [(.d (.p (.int .i64 x.n.Kind))), (.d (.p (.int .i64 x.n.A))), (.d (.p (.int .i64 x.n.B))), (.d (.p (.int .i64 x.n.C))), (.d (.p (.int .i64 x.n.N))), (.d (.p (.string x.n.Name))), (.d (.p (.string x.n.Other))), (.own 5 1007 2)]))), (5, 1007, 2, (some (.row true false 8 (x.kids.map impl_tree.e)))), (79, 0, 1, (some (.box [(.own 79 1000 2), (.d (.p (.int .i64 v4.k_)))]))), (79, 1000, 2, (some (.row true true 1 (v4.used.map eS))))]) (fun J h => ?_) ?_
    · refine eqM ((v2.length : Int) : Int) (mLen rfl) ?_
      refine loopX (α := Int × impl_tree) (a := ((w64 ((v2.length : Int) - 1)), v1)) 79 (fun x => [(4, (.ptr 4 0 2 0)), (5, (.ptr 5 0 2 0)), (6, (.own 6 1 2)), (7, (.own 7 1 2)), (12, (.d (.p (.int .i64 x.1))))]) (fun x => [(4, 0, 2, (some (.box [(.d (.p (.int .i64 0))), (.d (.p (.int .i64 0))), (.d (.p (.int .i64 0))), (.d (.p (.int .i64 0))), (.d (.p (.int .i64 0))), (.d (.p (.string (⟨#[]⟩ : ByteArray)))), (.d (.p (.string (⟨#[]⟩ : ByteArray)))), (.own 4 1007 2)]))), (4, 1007, 2, (some (.row true false 8 (([] : List impl_tree).map impl_tree.e)))), (5, 0, 2, (some (.box [(.d (.p (.int .i64 x.2.n.Kind))), (.d (.p (.int .i64 x.2.n.A))), (.d (.p (.int .i64 x.2.n.B))), (.d (.p (.int .i64 x.2.n.C))), (.d (.p (.int .i64 x.2.n.N))), (.d (.p (.string x.2.n.Name))), (.d (.p (.string x.2.n.Other))), (.own 5 1007 2)]))), (5, 1007, 2, (some (.row true false 8 (x.2.kids.map impl_tree.e)))), (6, 1, 2, (some (.row true true 1 (v2.map eS)))), (7, 1, 2, (some (.row true false 8 (v3.map impl_tree.e)))), (79, 0, 1, (some (.box [(.own 79 1000 2), (.d (.p (.int .i64 v4.k_)))]))), (79, 1000, 2, (some (.row true true 1 (v4.used.map eS))))]) (fun k x => impl_namer_anf.l1 v2 v3 K k x.1 x.2) 2 (fun x => [(4, (.ptr 4 0 2 0)), (5, (.ptr 5 0 2 0))]) (fun x => [(4, 0, 2, (some (.box [(.d (.p (.int .i64 0))), (.d (.p (.int .i64 0))), (.d (.p (.int .i64 0))), (.d (.p (.int .i64 0))), (.d (.p (.int .i64 0))), (.d (.p (.string (⟨#[]⟩ : ByteArray)))), (.d (.p (.string (⟨#[]⟩ : ByteArray)))), (.own 4 1007 2)]))), (4, 1007, 2, (some (.row true false 8 (([] : List impl_tree).map impl_tree.e)))), (5, 0, 2, (some (.box [(.d (.p (.int .i64 x.n.Kind))), (.d (.p (.int .i64 x.n.A))), (.d (.p (.int .i64 x.n.B))), (.d (.p (.int .i64 x.n.C))), (.d (.p (.int .i64 x.n.N))), (.d (.p (.string x.n.Name))), (.d (.p (.string x.n.Other))), (.own 5 1007 2)]))), (5, 1007, 2, (some (.row true false 8 (x.kids.map impl_tree.e)))), (79, 0, 1, (some (.box [(.own 79 1000 2), (.d (.p (.int .i64 v4.k_)))]))), (79, 1000, 2, (some (.row true true 1 (v4.used.map eS))))]) h (fun _ => rfl) ?_ ⟨rfl, ⟨rfl, rfl, rfl, rfl, rfl, trivial⟩, ⟨rfl, rfl, rfl, rfl, rfl, rfl, rfl, rfl, trivial⟩⟩ ?_
      · rintro k ⟨v34, v35⟩ r h e hp
        replace h : impl_namer_anf.l1 v2 v3 K (k + 1) v34 v35 = some r := h
        unfold impl_namer_anf.l1 at h
        refine goS ?_
        try ((with_reducible apply cdX); exact rfl)
        refine iteF h (fun c37 h => ?_) (fun c37 h => ?_)
        · refine goS ?_
          refine ⟨[[], [], [73, 74, 75, 76], [73, 74, 75, 76], [], [], [], [68, 69, 75], [68, 69, 75], [68, 69, 73, 74], [68, 69], [], []], [], by kernel_rfl, ?_⟩
          refine bindG h fun x38 hx38 h => ?_
          refine anM (at_ix rfl hx38) ?_
          refine exM (eS x38) (at_get rfl hx38) ?_
          refine bindG h fun x39 hx39 h => ?_
          refine anM (at_ix rfl hx39) ?_
          refine exM (impl_tree.c x39) ((at_get rfl hx39).trans (congrArg some (impl_tree.e_eq x39))) ?_
          refine eqM (([x39, v35] : List impl_tree).map impl_tree.e) (by simp only [List.map, impl_tree.e_eq]; rfl) ?_
          exact ⟨((w64 (v34 - 1)), (⟨(⟨5, 0, 0, 0, 0, x38, (⟨#[]⟩ : ByteArray)⟩ : impl_Node), ([x39, v35] : List impl_tree)⟩ : impl_tree)), h, ⟨rfl, ⟨rfl, rfl, rfl, rfl, rfl, trivial⟩, ⟨rfl, rfl, rfl, rfl, rfl, rfl, rfl, rfl, trivial⟩⟩⟩
        · refine exQ h ?_
          exact ⟨rfl, ⟨rfl, rfl, trivial⟩, ⟨rfl, rfl, rfl, rfl, rfl, rfl, trivial⟩⟩
      · rintro v36 S' h ⟨qn, ⟨qa0, qa1, _⟩, ⟨qb0, qb1, qb2, qb3, qb4, qb5, _⟩⟩
        exact ⟨v36, h, ⟨qn, ⟨qa0, qa1, trivial⟩, ⟨qb0, qb1, qb2, qb3, qb4, qb5, trivial⟩⟩⟩
    · rintro v33 h e hp
      refine goS ?_
      exact retE (enc := impl_namer_anf.enc) h rfl
def impl_namer_anf.r (K : Nat) : Nat → impl_namer → impl_tree → Option (impl_tree × impl_namer)
  | 0, _, _ => none
  | d + 1, a0, a1 => impl_namer_anf.b (impl_namer_anf.r K d) K a0 a1
theorem impl_namer_anf.r_ev {K : Nat} : ∀ (d : Nat) {a0 : impl_namer} {a1 : impl_tree} {r : impl_tree × impl_namer}, impl_namer_anf.r K d a0 a1 = some r → E 30 [(.ptr [(.own true 1 (a0.used.map eS)), (.d (.p (.int .i64 a0.k_)))]), (.agg (a1.c.map .d))] = some ([(.agg (r.1.c.map .d))], [(.ptr [(.own true 1 (r.2.used.map eS)), (.d (.p (.int .i64 r.2.k_)))])]) := by
  intro d
  induction d with
  | zero => intro a0 a1 r h; cases h
  | succ d ih => intro a0 a1 r h; exact impl_namer_anf.b_ev ih h
def impl_namer_anf.f (K : Nat) (a0 : impl_namer) (a1 : impl_tree) : Option (impl_tree × impl_namer) := impl_namer_anf.r K K a0 a1
theorem impl_namer_anf.ev {K : Nat} {a0 : impl_namer} {a1 : impl_tree} {r : impl_tree × impl_namer} (h : impl_namer_anf.f K a0 a1 = some r) : E 30 [(.ptr [(.own true 1 (a0.used.map eS)), (.d (.p (.int .i64 a0.k_)))]), (.agg (a1.c.map .d))] = some ([(.agg (r.1.c.map .d))], [(.ptr [(.own true 1 (r.2.used.map eS)), (.d (.p (.int .i64 r.2.k_)))])]) := impl_namer_anf.r_ev K h
def impl_flat.enc (r : List impl_Node) : Res := ([(.own true 7 (r.map impl_Node.e))], [])
def impl_flat.l0 (r_impl_flat : (List impl_Node) → impl_tree → Option (List impl_Node)) (a1 : impl_tree) (K : Nat) : Nat → Int → (List impl_Node) → impl_Node → Option (List impl_Node × impl_Node)
  | 0, _, _, _ => none
  | k + 1, v3, v4, v5 => if v3 < (a1.kids.length : Int) then (jn (fun (v9, v10) => impl_flat.l0 r_impl_flat a1 K k (w64 (v3 + 1)) v9 v10) (fun j => (at_ a1.kids v3).bind fun x11 => ((r_impl_flat v4 x11).bind fun y12 => (if v3 = 0 then (j (y12, (⟨v5.Kind, (w64 ((y12.length : Int) - 1)), v5.B, v5.C, v5.N, v5.Name, v5.Other⟩ : impl_Node))) else (if v3 = 1 then (j (y12, (⟨v5.Kind, v5.A, (w64 ((y12.length : Int) - 1)), v5.C, v5.N, v5.Name, v5.Other⟩ : impl_Node))) else (if v3 = 2 then (j (y12, (⟨v5.Kind, v5.A, v5.B, (w64 ((y12.length : Int) - 1)), v5.N, v5.Name, v5.Other⟩ : impl_Node))) else (j (y12, v5)))))))) else (some (v4, v5))
def impl_flat.b (r_impl_flat : (List impl_Node) → impl_tree → Option (List impl_Node)) (K : Nat) (a0 : List impl_Node) (a1 : impl_tree) : Option (List impl_Node) := jn (fun (v1, v2) => gd ((v1.length + 1) * 72 ≤ 140737488355328) (some (v1 ++ ([v2] : List impl_Node)))) (fun j => (impl_flat.l0 r_impl_flat a1 K K 0 a0 a1.n).bind fun (v6, v7) => j (v6, v7))
theorem impl_flat.b_ev {r_impl_flat : (List impl_Node) → impl_tree → Option (List impl_Node)} (hr_impl_flat : ∀ {a0 : List impl_Node} {a1 : impl_tree} {r : List impl_Node}, r_impl_flat a0 a1 = some r → E 29 [(.own true 7 (a0.map impl_Node.e)), (.agg (a1.c.map .d))] = some ([(.own true 7 (r.map impl_Node.e))], [])) {K : Nat} {a0 : List impl_Node} {a1 : impl_tree} {r : List impl_Node} (h : impl_flat.b r_impl_flat K a0 a1 = some r) : E 29 [(.own true 7 (a0.map impl_Node.e)), (.agg (a1.c.map .d))] = some ([(.own true 7 (r.map impl_Node.e))], []) := by
  refine Ev_intro (fn := Tryz.f29) rfl (by kernel_rfl) (c := _) rfl ⟨rfl, by simp⟩ rfl (evP_spec _ ?_)
  unfold impl_flat.b at h
  refine goS ?_
  refine seqJ h 45 (fun x => [(0, (.own 0 1 2)), (5, (.ptr 5 0 2 0))]) (fun x => [(0, 1, 2, (some (.row true true 7 (x.1.map impl_Node.e)))), (5, 0, 2, (some (.box [(.d (.p (.int .i64 x.2.Kind))), (.d (.p (.int .i64 x.2.A))), (.d (.p (.int .i64 x.2.B))), (.d (.p (.int .i64 x.2.C))), (.d (.p (.int .i64 x.2.N))), (.d (.p (.string x.2.Name))), (.d (.p (.string x.2.Other)))])))]) (fun J h => ?_) ?_
  · refine eqM ((a1.kids.length : Int) : Int) (mLen rfl) ?_
    refine loopX (α := Int × List impl_Node × impl_Node) (a := (0, a0, a1.n)) 45 (fun x => [(0, (.own 0 1 2)), (5, (.ptr 5 0 2 0)), (11, (.d (.l false 8 (a1.kids.map impl_tree.e)))), (12, (.d (.p (.int .i64 (a1.kids.length : Int))))), (13, (.d (.p (.int .i64 x.1))))]) (fun x => [(0, 1, 2, (some (.row true true 7 (x.2.1.map impl_Node.e)))), (5, 0, 2, (some (.box [(.d (.p (.int .i64 x.2.2.Kind))), (.d (.p (.int .i64 x.2.2.A))), (.d (.p (.int .i64 x.2.2.B))), (.d (.p (.int .i64 x.2.2.C))), (.d (.p (.int .i64 x.2.2.N))), (.d (.p (.string x.2.2.Name))), (.d (.p (.string x.2.2.Other)))])))]) (fun k x => impl_flat.l0 r_impl_flat a1 K k x.1 x.2.1 x.2.2) 0 (fun x => [(0, (.own 0 1 2)), (5, (.ptr 5 0 2 0))]) (fun x => [(0, 1, 2, (some (.row true true 7 (x.1.map impl_Node.e)))), (5, 0, 2, (some (.box [(.d (.p (.int .i64 x.2.Kind))), (.d (.p (.int .i64 x.2.A))), (.d (.p (.int .i64 x.2.B))), (.d (.p (.int .i64 x.2.C))), (.d (.p (.int .i64 x.2.N))), (.d (.p (.string x.2.Name))), (.d (.p (.string x.2.Other)))])))]) h (fun _ => rfl) ?_ ⟨rfl, ⟨rfl, rfl, rfl, rfl, rfl, trivial⟩, ⟨rfl, rfl, trivial⟩⟩ ?_
    · rintro k ⟨v3, v4, v5⟩ r h e hp
      replace h : impl_flat.l0 r_impl_flat a1 K (k + 1) v3 v4 v5 = some r := h
      unfold impl_flat.l0 at h
      refine goS ?_
      try ((with_reducible apply cdX); exact rfl)
      refine iteF h (fun c8 h => ?_) (fun c8 h => ?_)
      · refine seqJ h 45 (fun x => [(0, (.own 0 1 2)), (5, (.ptr 5 0 2 0)), (11, (.d (.l false 8 (a1.kids.map impl_tree.e)))), (12, (.d (.p (.int .i64 (a1.kids.length : Int))))), (13, (.d (.p (.int .i64 v3))))]) (fun x => [(0, 1, 2, (some (.row true true 7 (x.1.map impl_Node.e)))), (5, 0, 2, (some (.box [(.d (.p (.int .i64 x.2.Kind))), (.d (.p (.int .i64 x.2.A))), (.d (.p (.int .i64 x.2.B))), (.d (.p (.int .i64 x.2.C))), (.d (.p (.int .i64 x.2.N))), (.d (.p (.string x.2.Name))), (.d (.p (.string x.2.Other)))])))]) (fun J h => ?_) ?_
        · refine goS ?_
          refine bindG h fun x11 hx11 h => ?_
          refine anM (at_ix rfl hx11) ?_
          refine exM (impl_tree.c x11) ((at_get rfl hx11).trans (congrArg some (impl_tree.e_eq x11))) ?_
          refine bindG h fun y12 hy13 h => ?_
          refine exM ([(.own true 7 (y12.map impl_Node.e))], []) ?_ ?_
          · exact hr_impl_flat hy13
          refine iteF h (fun c14 h => ?_) (fun c14 h => ?_)
          · refine eqM ((y12.length : Int) : Int) (mLen rfl) ?_
            exact ⟨(y12, (⟨v5.Kind, (w64 ((y12.length : Int) - 1)), v5.B, v5.C, v5.N, v5.Name, v5.Other⟩ : impl_Node)), h, ⟨rfl, ⟨rfl, rfl, rfl, rfl, rfl, trivial⟩, ⟨rfl, rfl, trivial⟩⟩⟩
          · try ((with_reducible apply cdX); exact rfl)
            refine iteF h (fun c15 h => ?_) (fun c15 h => ?_)
            · refine eqM ((y12.length : Int) : Int) (mLen rfl) ?_
              exact ⟨(y12, (⟨v5.Kind, v5.A, (w64 ((y12.length : Int) - 1)), v5.C, v5.N, v5.Name, v5.Other⟩ : impl_Node)), h, ⟨rfl, ⟨rfl, rfl, rfl, rfl, rfl, trivial⟩, ⟨rfl, rfl, trivial⟩⟩⟩
            · try ((with_reducible apply cdX); exact rfl)
              refine iteF h (fun c16 h => ?_) (fun c16 h => ?_)
              · refine eqM ((y12.length : Int) : Int) (mLen rfl) ?_
                exact ⟨(y12, (⟨v5.Kind, v5.A, v5.B, (w64 ((y12.length : Int) - 1)), v5.N, v5.Name, v5.Other⟩ : impl_Node)), h, ⟨rfl, ⟨rfl, rfl, rfl, rfl, rfl, trivial⟩, ⟨rfl, rfl, trivial⟩⟩⟩
              · exact ⟨(y12, v5), h, ⟨rfl, ⟨rfl, rfl, rfl, rfl, rfl, trivial⟩, ⟨rfl, rfl, trivial⟩⟩⟩
        · rintro ⟨v9, v10⟩ h e hp
          exact ⟨((w64 (v3 + 1)), v9, v10), h, ⟨rfl, ⟨rfl, rfl, rfl, rfl, rfl, trivial⟩, ⟨rfl, rfl, trivial⟩⟩⟩
      · refine exQ h ?_
        exact ⟨rfl, ⟨rfl, rfl, trivial⟩, ⟨rfl, rfl, trivial⟩⟩
    · rintro ⟨v6, v7⟩ S' h ⟨qn, ⟨qa0, qa1, _⟩, ⟨qb0, qb1, _⟩⟩
      exact ⟨(v6, v7), h, ⟨qn, ⟨qa0, qa1, trivial⟩, ⟨qb0, qb1, trivial⟩⟩⟩
  · rintro ⟨v1, v2⟩ h e hp
    refine eqM (([v2] : List impl_Node).map impl_Node.e) rfl ?_
    refine gdG h fun hc h => ?_
    refine anM (apB hc) ?_
    refine eqM ((v1 ++ ([v2] : List impl_Node)).map impl_Node.e) (mApp rfl rfl) ?_
    exact retE (enc := impl_flat.enc) h rfl
def impl_flat.r (K : Nat) : Nat → (List impl_Node) → impl_tree → Option (List impl_Node)
  | 0, _, _ => none
  | d + 1, a0, a1 => impl_flat.b (impl_flat.r K d) K a0 a1
theorem impl_flat.r_ev {K : Nat} : ∀ (d : Nat) {a0 : List impl_Node} {a1 : impl_tree} {r : List impl_Node}, impl_flat.r K d a0 a1 = some r → E 29 [(.own true 7 (a0.map impl_Node.e)), (.agg (a1.c.map .d))] = some ([(.own true 7 (r.map impl_Node.e))], []) := by
  intro d
  induction d with
  | zero => intro a0 a1 r h; cases h
  | succ d ih => intro a0 a1 r h; exact impl_flat.b_ev ih h
def impl_flat.f (K : Nat) (a0 : List impl_Node) (a1 : impl_tree) : Option (List impl_Node) := impl_flat.r K K a0 a1
theorem impl_flat.ev {K : Nat} {a0 : List impl_Node} {a1 : impl_tree} {r : List impl_Node} (h : impl_flat.f K a0 a1 = some r) : E 29 [(.own true 7 (a0.map impl_Node.e)), (.agg (a1.c.map .d))] = some ([(.own true 7 (r.map impl_Node.e))], []) := impl_flat.r_ev K h
def impl_copyNodes.enc (r : List impl_Node) : Res := ([(.own true 7 (r.map impl_Node.e))], [])
def impl_copyNodes.f  (K : Nat) (a0 : List impl_Node) : Option (List impl_Node) := gd (a0.length * 72 ≤ 140737488355328) (some a0)
theorem impl_copyNodes.ev   {K : Nat} {a0 : List impl_Node} {r : List impl_Node} (h : impl_copyNodes.f  K a0 = some r) : E 71 [(.d (.l true 7 (a0.map impl_Node.e)))] = some ([(.own true 7 (r.map impl_Node.e))], []) := by
  refine Ev_intro (fn := Tryz.f71) rfl (by kernel_rfl) (c := _) rfl ⟨rfl, by simp⟩ rfl (evP_spec _ ?_)
  unfold impl_copyNodes.f at h
  refine gdG h fun hc h => ?_
  refine anM (apN hc) ?_
  refine eqM (a0.map impl_Node.e) rfl ?_
  exact retE (enc := impl_copyNodes.enc) h rfl
def impl_parents.enc (r : List Int) : Res := ([(.own true 1 (r.map eI))], [])
def impl_parents.l0 (a0 : List impl_Node) (K : Nat) : Nat → Int → (List Int) → Option (List Int)
  | 0, _, _ => none
  | k + 1, v2, v3 => if v2 < ((List.replicate ((a0.length : Int)).toNat (0 : Int)).length : Int) then ((at_ v3 v2).bind fun x6 => (impl_parents.l0 a0 K k (w64 (v2 + 1)) (v3.set (v2).toNat (-1)))) else (some v3)
def impl_parents.l2 (v8 : Int) (y14 : List Int) (K : Nat) : Nat → Int → (List Int) → Option (List Int)
  | 0, _, _ => none
  | k + 1, v16, v17 => if v16 < (y14.length : Int) then ((at_ y14 v16).bind fun x20 => ((at_ v17 x20).bind fun x21 => (impl_parents.l2 v8 y14 K k (w64 (v16 + 1)) (v17.set (x20).toNat v8)))) else (some v17)
def impl_parents.l1 (a0 : List impl_Node) (K : Nat) : Nat → Int → (List Int) → Option (List Int)
  | 0, _, _ => none
  | k + 1, v8, v9 => if v8 < (a0.length : Int) then (jn (fun (v12 : List Int) => impl_parents.l1 a0 K k (w64 (v8 + 1)) v12) (fun j => (at_ a0 v8).bind fun x13 => ((impl_Kids.f K x13).bind fun y14 => ((impl_parents.l2 v8 y14 K K 0 v9).bind fun (v18 : List Int) => j v18)))) else (some v9)
def impl_parents.f  (K : Nat) (a0 : List impl_Node) : Option (List Int) := gd (0 ≤ (a0.length : Int) ∧ 8 * (a0.length : Int) ≤ 140737488355328 ∧ (a0.length : Int) ≤ 140737488355328) (jn (fun (v1 : List Int) => jn (fun (v7 : List Int) => some v7) (fun j => (impl_parents.l1 a0 K K 0 v1).bind fun (v10 : List Int) => j v10)) (fun j => (impl_parents.l0 a0 K K 0 (List.replicate ((a0.length : Int)).toNat (0 : Int))).bind fun (v4 : List Int) => j v4))
theorem impl_parents.ev   {K : Nat} {a0 : List impl_Node} {r : List Int} (h : impl_parents.f  K a0 = some r) : E 95 [(.d (.l true 7 (a0.map impl_Node.e)))] = some ([(.own true 1 (r.map eI))], []) := by
  refine Ev_intro (fn := Tryz.f95) rfl (by kernel_rfl) (c := _) rfl ⟨rfl, by simp⟩ rfl (evP_spec _ ?_)
  unfold impl_parents.f at h
  refine eqM ((a0.length : Int) : Int) (mLen rfl) ?_
  refine gdG h fun hc h => ?_
  refine anM ⟨rfl, hc⟩ ?_
  refine eqM ((List.replicate ((a0.length : Int)).toNat (0 : Int)).map eI) (mRep rfl) ?_
  refine seqJ h 42 (fun x => [(0, (.d (.l true 7 (a0.map impl_Node.e)))), (3, (.own 3 1 2))]) (fun x => [(3, 1, 2, (some (.row true true 1 (x.map eI))))]) (fun J h => ?_) ?_
  · refine eqM (((List.replicate ((a0.length : Int)).toNat (0 : Int)).length : Int) : Int) (mLen rfl) ?_
    refine loopX (α := Int × List Int) (a := (0, (List.replicate ((a0.length : Int)).toNat (0 : Int)))) 42 (fun x => [(0, (.d (.l true 7 (a0.map impl_Node.e)))), (3, (.own 3 1 2)), (13, (.d (.p (.int .i64 ((List.replicate ((a0.length : Int)).toNat (0 : Int)).length : Int))))), (14, (.d (.p (.int .i64 x.1))))]) (fun x => [(3, 1, 2, (some (.row true true 1 (x.2.map eI))))]) (fun k x => impl_parents.l0 a0 K k x.1 x.2) 0 (fun x => [(0, (.d (.l true 7 (a0.map impl_Node.e)))), (3, (.own 3 1 2))]) (fun x => [(3, 1, 2, (some (.row true true 1 (x.map eI))))]) h (fun _ => rfl) ?_ ⟨rfl, ⟨rfl, rfl, rfl, rfl, trivial⟩, ⟨rfl, trivial⟩⟩ ?_
    · rintro k ⟨v2, v3⟩ r h e hp
      replace h : impl_parents.l0 a0 K (k + 1) v2 v3 = some r := h
      unfold impl_parents.l0 at h
      refine goS ?_
      try ((with_reducible apply cdX); exact rfl)
      refine iteF h (fun c5 h => ?_) (fun c5 h => ?_)
      · refine goS ?_
        refine bindG h fun x6 hx6 h => ?_
        refine anM (at_ix rfl hx6) ?_
        refine exM (eI x6) (at_get rfl hx6) ?_
        refine eqM ((v3.set (v2).toNat (-1)).map eI) (mSet rfl rfl) ?_
        exact ⟨((w64 (v2 + 1)), (v3.set (v2).toNat (-1))), h, ⟨rfl, ⟨rfl, rfl, rfl, rfl, trivial⟩, ⟨rfl, trivial⟩⟩⟩
      · refine exQ h ?_
        exact ⟨rfl, ⟨rfl, rfl, trivial⟩, ⟨rfl, trivial⟩⟩
    · rintro v4 S' h ⟨qn, ⟨qa0, qa1, _⟩, ⟨qb0, _⟩⟩
      exact ⟨v4, h, ⟨qn, ⟨qa0, qa1, trivial⟩, ⟨qb0, trivial⟩⟩⟩
  · rintro v1 h e hp
    refine seqJ h 42 (fun x => [(3, (.own 3 1 2))]) (fun x => [(3, 1, 2, (some (.row true true 1 (x.map eI))))]) (fun J h => ?_) ?_
    · refine eqM ((a0.length : Int) : Int) (mLen rfl) ?_
      refine loopX (α := Int × List Int) (a := (0, v1)) 42 (fun x => [(3, (.own 3 1 2)), (21, (.d (.l true 7 (a0.map impl_Node.e)))), (22, (.d (.p (.int .i64 (a0.length : Int))))), (23, (.d (.p (.int .i64 x.1))))]) (fun x => [(3, 1, 2, (some (.row true true 1 (x.2.map eI))))]) (fun k x => impl_parents.l1 a0 K k x.1 x.2) 2 (fun x => [(3, (.own 3 1 2))]) (fun x => [(3, 1, 2, (some (.row true true 1 (x.map eI))))]) h (fun _ => rfl) ?_ ⟨rfl, ⟨rfl, rfl, rfl, rfl, trivial⟩, ⟨rfl, trivial⟩⟩ ?_
      · rintro k ⟨v8, v9⟩ r h e hp
        replace h : impl_parents.l1 a0 K (k + 1) v8 v9 = some r := h
        unfold impl_parents.l1 at h
        refine goS ?_
        try ((with_reducible apply cdX); exact rfl)
        refine iteF h (fun c11 h => ?_) (fun c11 h => ?_)
        · refine seqJ h 42 (fun x => [(3, (.own 3 1 2)), (21, (.d (.l true 7 (a0.map impl_Node.e)))), (22, (.d (.p (.int .i64 (a0.length : Int))))), (23, (.d (.p (.int .i64 v8))))]) (fun x => [(3, 1, 2, (some (.row true true 1 (x.map eI))))]) (fun J h => ?_) ?_
          · refine goS ?_
            refine bindG h fun x13 hx13 h => ?_
            refine anM (at_ix rfl hx13) ?_
            refine exM (impl_Node.e x13) (at_get rfl hx13) ?_
            refine bindG h fun y14 hy15 h => ?_
            refine exM ([(.d (.l true 1 (y14.map eI)))], []) ?_ ?_
            · exact impl_Kids.ev hy15
            refine eqM ((y14.length : Int) : Int) (mLen rfl) ?_
            refine loopX (α := Int × List Int) (a := (0, v9)) 42 (fun x => [(3, (.own 3 1 2)), (5, (.d (.p (.int .i64 v8)))), (21, (.d (.l true 7 (a0.map impl_Node.e)))), (22, (.d (.p (.int .i64 (a0.length : Int))))), (23, (.d (.p (.int .i64 v8)))), (29, (.d (.l true 1 (y14.map eI)))), (30, (.d (.p (.int .i64 (y14.length : Int))))), (31, (.d (.p (.int .i64 x.1))))]) (fun x => [(3, 1, 2, (some (.row true true 1 (x.2.map eI))))]) (fun k x => impl_parents.l2 v8 y14 K k x.1 x.2) 4 (fun x => [(3, (.own 3 1 2)), (21, (.d (.l true 7 (a0.map impl_Node.e)))), (22, (.d (.p (.int .i64 (a0.length : Int))))), (23, (.d (.p (.int .i64 v8))))]) (fun x => [(3, 1, 2, (some (.row true true 1 (x.map eI))))]) h (fun _ => rfl) ?_ ⟨rfl, ⟨rfl, rfl, rfl, rfl, rfl, rfl, rfl, rfl, trivial⟩, ⟨rfl, trivial⟩⟩ ?_
            · rintro k ⟨v16, v17⟩ r h e hp
              replace h : impl_parents.l2 v8 y14 K (k + 1) v16 v17 = some r := h
              unfold impl_parents.l2 at h
              refine goS ?_
              try ((with_reducible apply cdX); exact rfl)
              refine iteF h (fun c19 h => ?_) (fun c19 h => ?_)
              · refine goS ?_
                refine bindG h fun x20 hx20 h => ?_
                refine anM (at_ix rfl hx20) ?_
                refine exM (eI x20) (at_get rfl hx20) ?_
                refine bindG h fun x21 hx21 h => ?_
                refine anM (at_ix rfl hx21) ?_
                refine exM (eI x21) (at_get rfl hx21) ?_
                refine eqM ((v17.set (x20).toNat v8).map eI) (mSet rfl rfl) ?_
                exact ⟨((w64 (v16 + 1)), (v17.set (x20).toNat v8)), h, ⟨rfl, ⟨rfl, rfl, rfl, rfl, rfl, rfl, rfl, rfl, trivial⟩, ⟨rfl, trivial⟩⟩⟩
              · refine exQ h ?_
                exact ⟨rfl, ⟨rfl, rfl, rfl, rfl, trivial⟩, ⟨rfl, trivial⟩⟩
            · rintro v18 S' h ⟨qn, ⟨qa0, qa1, qa2, qa3, _⟩, ⟨qb0, _⟩⟩
              exact ⟨v18, h, ⟨qn, ⟨qa0, qa1, qa2, qa3, trivial⟩, ⟨qb0, trivial⟩⟩⟩
          · rintro v12 h e hp
            exact ⟨((w64 (v8 + 1)), v12), h, ⟨rfl, ⟨rfl, rfl, rfl, rfl, trivial⟩, ⟨rfl, trivial⟩⟩⟩
        · refine exQ h ?_
          exact ⟨rfl, ⟨rfl, trivial⟩, ⟨rfl, trivial⟩⟩
      · rintro v10 S' h ⟨qn, ⟨qa0, _⟩, ⟨qb0, _⟩⟩
        exact ⟨v10, h, ⟨qn, ⟨qa0, trivial⟩, ⟨qb0, trivial⟩⟩⟩
    · rintro v7 h e hp
      exact retE (enc := impl_parents.enc) h rfl
def impl_bindsIn.enc (r : List ByteArray × List Int) : Res := ([(.own true 1 (r.1.map eS)), (.own true 1 (r.2.map eI))], [])
def impl_bindsIn.f  (K : Nat) (a0 : impl_Node) (a1 : Int) : Option (List ByteArray × List Int) := jn (fun (v1 : Bool) => if v1 = true then (some (([a0.Name] : List ByteArray), ([0] : List Int))) else (jn (fun (v6 : Bool) => if v6 = true then (some (([a0.Other, a0.Name] : List ByteArray), ([1, 0] : List Int))) else (if a0.Kind = 6 then (some (([a0.Name] : List ByteArray), ([0] : List Int))) else (some (([] : List ByteArray), ([] : List Int))))) (fun j => jn (fun (v7 : Bool) => if v7 = true then (j true) else (if a0.Kind = 14 then (j (decide (a1 = a0.C))) else (j false))) (fun j => if a0.Kind = 6 then (j (decide (a1 = a0.A))) else (j false))))) (fun j => if a0.Kind = 3 then (j true) else (if a0.Kind = 5 then (j (decide (a1 = a0.B))) else (if a0.Kind = 19 then (j (decide (a1 = a0.B))) else (j false))))
theorem impl_bindsIn.ev   {K : Nat} {a0 : impl_Node} {a1 : Int} {r : List ByteArray × List Int} (h : impl_bindsIn.f  K a0 a1 = some r) : E 109 [(.agg (a0.e.map .d)), (.d (.p (.int .i64 a1)))] = some ([(.own true 1 (r.1.map eS)), (.own true 1 (r.2.map eI))], []) := by
  refine Ev_intro (fn := Tryz.f109) rfl (by kernel_rfl) (c := _) rfl ⟨rfl, by simp⟩ rfl (evP_spec _ ?_)
  unfold impl_bindsIn.f at h
  refine goS ?_
  refine seqJ h 61 (fun x => [(1, (.d (.p (.int .i64 a1)))), (2, (.ptr 2 0 2 0)), (6, (.d (.p (.bool x))))]) (fun x => [(2, 0, 2, (some (.box [(.d (.p (.int .i64 a0.Kind))), (.d (.p (.int .i64 a0.A))), (.d (.p (.int .i64 a0.B))), (.d (.p (.int .i64 a0.C))), (.d (.p (.int .i64 a0.N))), (.d (.p (.string a0.Name))), (.d (.p (.string a0.Other)))])))]) (fun J h => ?_) ?_
  · try ((with_reducible apply cdX); exact rfl)
    refine iteF h (fun c2 h => ?_) (fun c2 h => ?_)
    · exact ⟨true, h, ⟨rfl, ⟨rfl, rfl, rfl, trivial⟩, ⟨rfl, trivial⟩⟩⟩
    · try ((with_reducible apply cdX); exact rfl)
      refine iteF h (fun c3 h => ?_) (fun c3 h => ?_)
      · refine Ask.T rfl ?_
        refine Ask.T rfl ?_
        refine Ask.T rfl ?_
        refine Ask.T rfl ?_
        refine Ask.T rfl ?_
        refine Ask.T rfl ?_
        refine Ask.T rfl ?_
        refine Ask.T rfl ?_
        exact ⟨(decide (a1 = a0.B)), h, ⟨rfl, ⟨rfl, rfl, rfl, trivial⟩, ⟨rfl, trivial⟩⟩⟩
      · refine Ask.F rfl ?_
        refine Ask.F rfl ?_
        refine Ask.F rfl ?_
        refine iteF h (fun c4 h => ?_) (fun c4 h => ?_)
        · refine Ask.T rfl ?_
          refine Ask.T rfl ?_
          refine Ask.T rfl ?_
          refine Ask.T rfl ?_
          exact ⟨(decide (a1 = a0.B)), h, ⟨rfl, ⟨rfl, rfl, rfl, trivial⟩, ⟨rfl, trivial⟩⟩⟩
        · refine Ask.F rfl ?_
          refine Ask.F rfl ?_
          refine Ask.F rfl ?_
          refine Ask.F rfl ?_
          exact ⟨false, h, ⟨rfl, ⟨rfl, rfl, rfl, trivial⟩, ⟨rfl, trivial⟩⟩⟩
  · rintro v1 h e hp
    try ((with_reducible apply cdX); exact rfl)
    refine ifB h (fun c5 h => ?_) (fun c5 h => ?_)
    · refine eqM (([a0.Name] : List ByteArray).map eS) rfl ?_
      refine eqM (([0] : List Int).map eI) rfl ?_
      exact retE (enc := impl_bindsIn.enc) h rfl
    · refine seqJ h 61 (fun x => [(2, (.ptr 2 0 2 0)), (28, (.d (.p (.bool x))))]) (fun x => [(2, 0, 2, (some (.box [(.d (.p (.int .i64 a0.Kind))), (.d (.p (.int .i64 a0.A))), (.d (.p (.int .i64 a0.B))), (.d (.p (.int .i64 a0.C))), (.d (.p (.int .i64 a0.N))), (.d (.p (.string a0.Name))), (.d (.p (.string a0.Other)))])))]) (fun J h => ?_) ?_
      · refine seqJ h 61 (fun x => [(1, (.d (.p (.int .i64 a1)))), (2, (.ptr 2 0 2 0)), (28, (.d (.p (.bool x))))]) (fun x => [(2, 0, 2, (some (.box [(.d (.p (.int .i64 a0.Kind))), (.d (.p (.int .i64 a0.A))), (.d (.p (.int .i64 a0.B))), (.d (.p (.int .i64 a0.C))), (.d (.p (.int .i64 a0.N))), (.d (.p (.string a0.Name))), (.d (.p (.string a0.Other)))])))]) (fun J h => ?_) ?_
        · try ((with_reducible apply cdX); exact rfl)
          refine iteF h (fun c8 h => ?_) (fun c8 h => ?_)
          · refine Ask.T rfl ?_
            refine Ask.T rfl ?_
            refine Ask.T rfl ?_
            refine Ask.T rfl ?_
            exact ⟨(decide (a1 = a0.A)), h, ⟨rfl, ⟨rfl, rfl, rfl, trivial⟩, ⟨rfl, trivial⟩⟩⟩
          · refine Ask.F rfl ?_
            refine Ask.F rfl ?_
            refine Ask.F rfl ?_
            refine Ask.F rfl ?_
            exact ⟨false, h, ⟨rfl, ⟨rfl, rfl, rfl, trivial⟩, ⟨rfl, trivial⟩⟩⟩
        · rintro v7 h e hp
          try ((with_reducible apply cdX); exact rfl)
          refine ifB h (fun c9 h => ?_) (fun c9 h => ?_)
          · exact ⟨true, h, ⟨rfl, ⟨rfl, rfl, trivial⟩, ⟨rfl, trivial⟩⟩⟩
          · try ((with_reducible apply cdX); exact rfl)
            refine iteF h (fun c10 h => ?_) (fun c10 h => ?_)
            · refine Ask.T rfl ?_
              refine Ask.T rfl ?_
              refine Ask.T rfl ?_
              refine Ask.T rfl ?_
              exact ⟨(decide (a1 = a0.C)), h, ⟨rfl, ⟨rfl, rfl, trivial⟩, ⟨rfl, trivial⟩⟩⟩
            · refine Ask.F rfl ?_
              refine Ask.F rfl ?_
              refine Ask.F rfl ?_
              refine Ask.F rfl ?_
              exact ⟨false, h, ⟨rfl, ⟨rfl, rfl, trivial⟩, ⟨rfl, trivial⟩⟩⟩
      · rintro v6 h e hp
        try ((with_reducible apply cdX); exact rfl)
        refine ifB h (fun c11 h => ?_) (fun c11 h => ?_)
        · refine eqM (([a0.Other, a0.Name] : List ByteArray).map eS) rfl ?_
          refine eqM (([1, 0] : List Int).map eI) rfl ?_
          exact retE (enc := impl_bindsIn.enc) h rfl
        · try ((with_reducible apply cdX); exact rfl)
          refine iteF h (fun c12 h => ?_) (fun c12 h => ?_)
          · refine eqM (([a0.Name] : List ByteArray).map eS) rfl ?_
            refine eqM (([0] : List Int).map eI) rfl ?_
            exact retE (enc := impl_bindsIn.enc) h rfl
          · exact retE (enc := impl_bindsIn.enc) h rfl
def impl_binderOf.enc (r : impl_Bind) : Res := ([(.agg (r.e.map .d))], [])
def impl_binderOf.en (a0 : List impl_Node) (a1 : List Int) (a2 : Int) (a3 : ByteArray) (r : impl_Bind) (S : St) : Prop := endV tb md 96 Tryz.f96 [(.d (.l true 7 (a0.map impl_Node.e))), (.d (.l true 1 (a1.map eI))), (.d (.p (.int .i64 a2))), (.d (.p (.string a3)))] .ret S = some (impl_binderOf.enc r)
def impl_binderOf.l1 (a1 : List Int) (a3 : ByteArray) (v1 : Int) (y5 : List ByteArray) (y6 : List Int) (K : Nat) : Nat → Int → Option (impl_Bind ⊕ Unit)
  | 0, _ => none
  | k + 1, v8 => if v8 < (y5.length : Int) then ((at_ y5 v8).bind fun x10 => (if (x10.toList == a3.toList) = true then ((at_ a1 v1).bind fun x12 => ((at_ y6 v8).bind fun x13 => (some (.inl (⟨x12, x13⟩ : impl_Bind))))) else (impl_binderOf.l1 a1 a3 v1 y5 y6 K k (w64 (v8 + 1))))) else (some (.inr ()))
def impl_binderOf.l0 (a0 : List impl_Node) (a1 : List Int) (a3 : ByteArray) (K : Nat) : Nat → Int → Option (impl_Bind ⊕ Unit)
  | 0, _ => none
  | k + 1, v1 => (at_ a1 v1).bind fun x2 => (if x2 ≥ 0 then ((at_ a0 x2).bind fun x4 => ((impl_bindsIn.f K x4 v1).bind fun (y5, y6) => (jn (fun (_ : Unit) => impl_binderOf.l0 a0 a1 a3 K k x2) (fun j => lb (impl_binderOf.l1 a1 a3 v1 y5 y6 K K 0) (fun r => some (.inl r)) (fun (_ : Unit) => j ()))))) else (some (.inr ())))
def impl_binderOf.f  (K : Nat) (a0 : List impl_Node) (a1 : List Int) (a2 : Int) (a3 : ByteArray) : Option (impl_Bind) := jn (fun (_ : Unit) => some (⟨(-1), (-1)⟩ : impl_Bind)) (fun j => lb (impl_binderOf.l0 a0 a1 a3 K K a2) (fun r => some r) (fun (_ : Unit) => j ()))
theorem impl_binderOf.ev   {K : Nat} {a0 : List impl_Node} {a1 : List Int} {a2 : Int} {a3 : ByteArray} {r : impl_Bind} (h : impl_binderOf.f  K a0 a1 a2 a3 = some r) : E 96 [(.d (.l true 7 (a0.map impl_Node.e))), (.d (.l true 1 (a1.map eI))), (.d (.p (.int .i64 a2))), (.d (.p (.string a3)))] = some ([(.agg (r.e.map .d))], []) := by
  refine Ev_intro (fn := Tryz.f96) rfl (by kernel_rfl) (c := _) rfl ⟨rfl, by simp⟩ rfl (evP_spec _ ?_)
  unfold impl_binderOf.f at h
  refine seqJ h 55 (fun x => [(8, (.ptr 8 0 2 0))]) (fun x => [(8, 0, 2, (some (.box [(.d (.p (.int .i64 0))), (.d (.p (.int .i64 0)))])))]) (fun J h => ?_) ?_
  · refine loopB (α := Int) (a := a2) 55 (fun x => [(0, (.d (.l true 7 (a0.map impl_Node.e)))), (1, (.d (.l true 1 (a1.map eI)))), (2, (.d (.p (.int .i64 x)))), (3, (.d (.p (.string a3)))), (8, (.ptr 8 0 2 0))]) (fun x => [(8, 0, 2, (some (.box [(.d (.p (.int .i64 0))), (.d (.p (.int .i64 0)))])))]) (fun k x => impl_binderOf.l0 a0 a1 a3 K k x) (impl_binderOf.en a0 a1 a2 a3) 0 (fun x => [(8, (.ptr 8 0 2 0))]) (fun x => [(8, 0, 2, (some (.box [(.d (.p (.int .i64 0))), (.d (.p (.int .i64 0)))])))]) h (fun _ => rfl) ?_ ⟨rfl, ⟨rfl, rfl, rfl, rfl, rfl, trivial⟩, ⟨rfl, trivial⟩⟩ ?_ ?_
    · rintro k v1 r h e hp
      replace h : impl_binderOf.l0 a0 a1 a3 K (k + 1) v1 = some r := h
      unfold impl_binderOf.l0 at h
      refine goS ?_
      refine bindG h fun x2 hx2 h => ?_
      refine anM (at_ix rfl hx2) ?_
      refine exM (eI x2) (at_get rfl hx2) ?_
      refine iteF h (fun c3 h => ?_) (fun c3 h => ?_)
      · refine anM (at_ix rfl hx2) ?_
        refine exM (eI x2) (at_get rfl hx2) ?_
        refine bindG h fun x4 hx4 h => ?_
        refine anM (at_ix rfl hx4) ?_
        refine exM (impl_Node.e x4) (at_get rfl hx4) ?_
        refine bindG h ?_
        rintro ⟨y5, y6⟩ hy7 h
        refine exM ([(.own true 1 (y5.map eS)), (.own true 1 (y6.map eI))], []) ?_ ?_
        · exact impl_bindsIn.ev hy7
        refine seqJ h 55 (fun x => [(0, (.d (.l true 7 (a0.map impl_Node.e)))), (1, (.d (.l true 1 (a1.map eI)))), (2, (.d (.p (.int .i64 v1)))), (3, (.d (.p (.string a3)))), (8, (.ptr 8 0 2 0))]) (fun x => [(8, 0, 2, (some (.box [(.d (.p (.int .i64 0))), (.d (.p (.int .i64 0)))])))]) (fun J h => ?_) ?_
        · refine eqM ((y5.length : Int) : Int) (mLen rfl) ?_
          refine loopB (α := Int) (a := 0) 55 (fun x => [(0, (.d (.l true 7 (a0.map impl_Node.e)))), (1, (.d (.l true 1 (a1.map eI)))), (2, (.d (.p (.int .i64 v1)))), (3, (.d (.p (.string a3)))), (8, (.ptr 8 0 2 0)), (10, (.own 10 1 2)), (30, (.own 9 1 2)), (31, (.d (.p (.int .i64 (y5.length : Int))))), (32, (.d (.p (.int .i64 x))))]) (fun x => [(8, 0, 2, (some (.box [(.d (.p (.int .i64 0))), (.d (.p (.int .i64 0)))]))), (9, 1, 2, (some (.row true true 1 (y5.map eS)))), (10, 1, 2, (some (.row true true 1 (y6.map eI))))]) (fun k x => impl_binderOf.l1 a1 a3 v1 y5 y6 K k x) (impl_binderOf.en a0 a1 a2 a3) 2 (fun x => [(0, (.d (.l true 7 (a0.map impl_Node.e)))), (1, (.d (.l true 1 (a1.map eI)))), (2, (.d (.p (.int .i64 v1)))), (3, (.d (.p (.string a3)))), (8, (.ptr 8 0 2 0))]) (fun x => [(8, 0, 2, (some (.box [(.d (.p (.int .i64 0))), (.d (.p (.int .i64 0)))])))]) h (fun _ => rfl) ?_ ⟨rfl, ⟨rfl, rfl, rfl, rfl, rfl, rfl, rfl, rfl, rfl, trivial⟩, ⟨rfl, rfl, rfl, trivial⟩⟩ ?_ ?_
          · rintro k v8 r h e hp
            replace h : impl_binderOf.l1 a1 a3 v1 y5 y6 K (k + 1) v8 = some r := h
            unfold impl_binderOf.l1 at h
            refine goS ?_
            try ((with_reducible apply cdX); exact rfl)
            refine iteF h (fun c9 h => ?_) (fun c9 h => ?_)
            · refine goS ?_
              refine bindG h fun x10 hx10 h => ?_
              refine anM (at_ix rfl hx10) ?_
              refine exM (eS x10) (at_get rfl hx10) ?_
              refine ifB h (fun c11 h => ?_) (fun c11 h => ?_)
              · refine goS ?_
                refine ⟨[[], [], [46, 47], [46, 47], [], [], [42, 43], [42, 43], [], []], [], by kernel_rfl, ?_⟩
                refine bindG h fun x12 hx12 h => ?_
                refine anM (at_ix rfl hx12) ?_
                refine exM (eI x12) (at_get rfl hx12) ?_
                refine bindG h fun x13 hx13 h => ?_
                refine anM (at_ix rfl hx13) ?_
                refine exM (eI x13) (at_get rfl hx13) ?_
                exact lqL h rfl
              · exact ⟨(w64 (v8 + 1)), h, ⟨rfl, ⟨rfl, rfl, rfl, rfl, rfl, rfl, rfl, rfl, rfl, trivial⟩, ⟨rfl, rfl, rfl, trivial⟩⟩⟩
            · refine lqR h ?_
              exact ⟨rfl, ⟨rfl, rfl, rfl, rfl, rfl, trivial⟩, ⟨rfl, trivial⟩⟩
          · intro r' S' h q
            exact lqL h q
          · rintro _ S' h ⟨qn, ⟨qa0, qa1, qa2, qa3, qa4, _⟩, ⟨qb0, _⟩⟩
            exact ⟨(), h, ⟨qn, ⟨qa0, qa1, qa2, qa3, qa4, trivial⟩, ⟨qb0, trivial⟩⟩⟩
        · rintro _ h e hp
          refine anM (at_ix rfl hx2) ?_
          refine exM (eI x2) (at_get rfl hx2) ?_
          exact ⟨x2, h, ⟨rfl, ⟨rfl, rfl, rfl, rfl, rfl, trivial⟩, ⟨rfl, trivial⟩⟩⟩
      · refine lqR h ?_
        exact ⟨rfl, ⟨rfl, trivial⟩, ⟨rfl, trivial⟩⟩
    · intro r' S' h q
      exact retE (enc := impl_binderOf.enc) h q
    · rintro _ S' h ⟨qn, ⟨qa0, _⟩, ⟨qb0, _⟩⟩
      exact ⟨(), h, ⟨qn, ⟨qa0, trivial⟩, ⟨qb0, trivial⟩⟩⟩
  · rintro _ h e hp
    refine goS ?_
    exact retE (enc := impl_binderOf.enc) h rfl
def impl_binders.enc (r : List impl_Bind) : Res := ([(.own true 2 (r.map impl_Bind.e))], [])
def impl_binders.l0 (a0 : List impl_Node) (y1 : List Int) (K : Nat) : Nat → Int → (List impl_Bind) → Option (List impl_Bind)
  | 0, _, _ => none
  | k + 1, v4, v5 => if v4 < (a0.length : Int) then ((at_ a0 v4).bind fun x8 => (jn (fun (v9 : impl_Bind) => gd ((v5.length + 1) * 16 ≤ 140737488355328) (impl_binders.l0 a0 y1 K k (w64 (v4 + 1)) (v5 ++ ([v9] : List impl_Bind)))) (fun j => if x8.Kind = 1 then ((impl_binderOf.f K a0 y1 v4 x8.Name).bind fun y11 => (j y11)) else (j (⟨(-1), (-1)⟩ : impl_Bind))))) else (some v5)
def impl_binders.f  (K : Nat) (a0 : List impl_Node) : Option (List impl_Bind) := (impl_parents.f K a0).bind fun y1 => (jn (fun (v3 : List impl_Bind) => some v3) (fun j => (impl_binders.l0 a0 y1 K K 0 ([] : List impl_Bind)).bind fun (v6 : List impl_Bind) => j v6))
theorem impl_binders.ev   {K : Nat} {a0 : List impl_Node} {r : List impl_Bind} (h : impl_binders.f  K a0 = some r) : E 72 [(.d (.l true 7 (a0.map impl_Node.e)))] = some ([(.own true 2 (r.map impl_Bind.e))], []) := by
  refine Ev_intro (fn := Tryz.f72) rfl (by kernel_rfl) (c := _) rfl ⟨rfl, by simp⟩ rfl (evP_spec _ ?_)
  unfold impl_binders.f at h
  refine bindG h fun y1 hy2 h => ?_
  refine exM ([(.own true 1 (y1.map eI))], []) ?_ ?_
  · exact impl_parents.ev hy2
  refine seqJ h 33 (fun x => [(4, (.own 4 1 2))]) (fun x => [(4, 1, 2, (some (.row true true 2 (x.map impl_Bind.e))))]) (fun J h => ?_) ?_
  · refine eqM ((a0.length : Int) : Int) (mLen rfl) ?_
    refine loopX (α := Int × List impl_Bind) (a := (0, ([] : List impl_Bind))) 33 (fun x => [(0, (.d (.l true 7 (a0.map impl_Node.e)))), (3, (.own 3 1 2)), (4, (.own 4 1 2)), (10, (.d (.l true 7 (a0.map impl_Node.e)))), (11, (.d (.p (.int .i64 (a0.length : Int))))), (12, (.d (.p (.int .i64 x.1))))]) (fun x => [(3, 1, 2, (some (.row true true 1 (y1.map eI)))), (4, 1, 2, (some (.row true true 2 (x.2.map impl_Bind.e))))]) (fun k x => impl_binders.l0 a0 y1 K k x.1 x.2) 0 (fun x => [(4, (.own 4 1 2))]) (fun x => [(4, 1, 2, (some (.row true true 2 (x.map impl_Bind.e))))]) h (fun _ => rfl) ?_ ⟨rfl, ⟨rfl, rfl, rfl, rfl, rfl, rfl, trivial⟩, ⟨rfl, rfl, trivial⟩⟩ ?_
    · rintro k ⟨v4, v5⟩ r h e hp
      replace h : impl_binders.l0 a0 y1 K (k + 1) v4 v5 = some r := h
      unfold impl_binders.l0 at h
      refine goS ?_
      try ((with_reducible apply cdX); exact rfl)
      refine iteF h (fun c7 h => ?_) (fun c7 h => ?_)
      · refine goS ?_
        refine goS ?_
        refine bindG h fun x8 hx8 h => ?_
        refine anM (at_ix rfl hx8) ?_
        refine exM (impl_Node.e x8) (at_get rfl hx8) ?_
        refine goS ?_
        refine seqJ h 33 (fun x => [(0, (.d (.l true 7 (a0.map impl_Node.e)))), (3, (.own 3 1 2)), (4, (.own 4 1 2)), (7, (.ptr 7 0 2 0)), (10, (.d (.l true 7 (a0.map impl_Node.e)))), (11, (.d (.p (.int .i64 (a0.length : Int))))), (12, (.d (.p (.int .i64 v4))))]) (fun x => [(3, 1, 2, (some (.row true true 1 (y1.map eI)))), (4, 1, 2, (some (.row true true 2 (v5.map impl_Bind.e)))), (7, 0, 2, (some (.box [(.d (.p (.int .i64 x.Node))), (.d (.p (.int .i64 x.Role)))])))]) (fun J h => ?_) ?_
        · try ((with_reducible apply cdX); exact rfl)
          refine iteF h (fun c10 h => ?_) (fun c10 h => ?_)
          · refine bindG h fun y11 hy12 h => ?_
            refine exM ([(.agg (y11.e.map .d))], []) ?_ ?_
            · exact impl_binderOf.ev hy12
            exact ⟨y11, h, ⟨rfl, ⟨rfl, rfl, rfl, rfl, rfl, rfl, rfl, trivial⟩, ⟨rfl, rfl, rfl, trivial⟩⟩⟩
          · exact ⟨(⟨(-1), (-1)⟩ : impl_Bind), h, ⟨rfl, ⟨rfl, rfl, rfl, rfl, rfl, rfl, rfl, trivial⟩, ⟨rfl, rfl, rfl, trivial⟩⟩⟩
        · rintro v9 h e hp
          refine eqM (([v9] : List impl_Bind).map impl_Bind.e) rfl ?_
          refine gdG h fun hc h => ?_
          refine anM (apB hc) ?_
          refine eqM ((v5 ++ ([v9] : List impl_Bind)).map impl_Bind.e) (mApp rfl rfl) ?_
          exact ⟨((w64 (v4 + 1)), (v5 ++ ([v9] : List impl_Bind))), h, ⟨rfl, ⟨rfl, rfl, rfl, rfl, rfl, rfl, trivial⟩, ⟨rfl, rfl, trivial⟩⟩⟩
      · refine exQ h ?_
        exact ⟨rfl, ⟨rfl, trivial⟩, ⟨rfl, trivial⟩⟩
    · rintro v6 S' h ⟨qn, ⟨qa0, _⟩, ⟨qb0, _⟩⟩
      exact ⟨v6, h, ⟨qn, ⟨qa0, trivial⟩, ⟨qb0, trivial⟩⟩⟩
  · rintro v3 h e hp
    exact retE (enc := impl_binders.enc) h rfl
def impl_sorted.enc (r : List ByteArray × List ByteArray) : Res := ([(.own true 1 (r.1.map eS))], [(.own true 1 (r.2.map eS))])
def impl_sorted.l0 (y1 : List ByteArray) (K : Nat) : Nat → Int → (List ByteArray) → Option (List ByteArray)
  | 0, _, _ => none
  | k + 1, v4, v5 => if v4 < (y1.length : Int) then (jn (fun (v8 : List ByteArray) => impl_sorted.l0 y1 K k (w64 (v4 + 1)) v8) (fun j => (at_ y1 v4).bind fun x9 => (jn (fun (v10 : Bool) => if v10 = true then (gd ((v5.length + 1) * 16 ≤ 140737488355328) (j (v5 ++ ([x9] : List ByteArray)))) else (j v5)) (fun j => if v4 = 0 then (j true) else ((at_ y1 (w64 (v4 - 1))).bind fun x12 => (j (!(x12.toList == x9.toList)))))))) else (some v5)
def impl_sorted.f  (K : Nat) (a0 : List ByteArray) : Option (List ByteArray × List ByteArray) := (sort_Strings.f a0).bind fun y1 => (gd (y1.length = a0.length) (jn (fun (v3 : List ByteArray) => some (v3, y1)) (fun j => (impl_sorted.l0 y1 K K 0 ([] : List ByteArray)).bind fun (v6 : List ByteArray) => j v6)))
theorem impl_sorted.ev   {K : Nat} {a0 : List ByteArray} {r : List ByteArray × List ByteArray} (h : impl_sorted.f  K a0 = some r) : E 97 [(.lend true 1 (a0.map eS))] = some ([(.own true 1 (r.1.map eS))], [(.own true 1 (r.2.map eS))]) := by
  refine Ev_intro (fn := Tryz.f97) rfl (by kernel_rfl) (c := _) rfl ⟨rfl, by simp⟩ rfl (evP_spec _ ?_)
  unfold impl_sorted.f at h
  refine bindG h fun y1 hy2 h => ?_
  refine exM ([], [(.own true 1 (y1.map eS))]) ?_ ?_
  · exact sort_Strings.ev hy2
  refine gdG h fun g h => ?_
  refine anM (lenM g) ?_
  refine seqJ h 32 (fun x => [(3, (.own 3 1 2))]) (fun x => [(3, 1, 2, (some (.row true true 1 (x.map eS)))), (32, 0, 1, (some (.row true true 1 (y1.map eS))))]) (fun J h => ?_) ?_
  · refine eqM ((y1.length : Int) : Int) (mLen rfl) ?_
    refine loopX (α := Int × List ByteArray) (a := (0, ([] : List ByteArray))) 32 (fun x => [(0, (.own 32 0 1)), (3, (.own 3 1 2)), (8, (.own 32 0 1)), (9, (.d (.p (.int .i64 (y1.length : Int))))), (10, (.d (.p (.int .i64 x.1))))]) (fun x => [(3, 1, 2, (some (.row true true 1 (x.2.map eS)))), (32, 0, 1, (some (.row true true 1 (y1.map eS))))]) (fun k x => impl_sorted.l0 y1 K k x.1 x.2) 0 (fun x => [(3, (.own 3 1 2))]) (fun x => [(3, 1, 2, (some (.row true true 1 (x.map eS)))), (32, 0, 1, (some (.row true true 1 (y1.map eS))))]) h (fun _ => rfl) ?_ ⟨rfl, ⟨rfl, rfl, rfl, rfl, rfl, trivial⟩, ⟨rfl, rfl, trivial⟩⟩ ?_
    · rintro k ⟨v4, v5⟩ r h e hp
      replace h : impl_sorted.l0 y1 K (k + 1) v4 v5 = some r := h
      unfold impl_sorted.l0 at h
      refine goS ?_
      try ((with_reducible apply cdX); exact rfl)
      refine iteF h (fun c7 h => ?_) (fun c7 h => ?_)
      · refine seqJ h 32 (fun x => [(0, (.own 32 0 1)), (3, (.own 3 1 2)), (8, (.own 32 0 1)), (9, (.d (.p (.int .i64 (y1.length : Int))))), (10, (.d (.p (.int .i64 v4))))]) (fun x => [(3, 1, 2, (some (.row true true 1 (x.map eS)))), (32, 0, 1, (some (.row true true 1 (y1.map eS))))]) (fun J h => ?_) ?_
        · refine bindG h fun x9 hx9 h => ?_
          refine anM (at_ix rfl hx9) ?_
          refine exM (eS x9) (at_get rfl hx9) ?_
          refine seqJ h 32 (fun x => [(0, (.own 32 0 1)), (3, (.own 3 1 2)), (5, (.d (.p (.string x9)))), (8, (.own 32 0 1)), (9, (.d (.p (.int .i64 (y1.length : Int))))), (10, (.d (.p (.int .i64 v4)))), (25, (.d (.p (.bool x))))]) (fun x => [(3, 1, 2, (some (.row true true 1 (v5.map eS)))), (32, 0, 1, (some (.row true true 1 (y1.map eS))))]) (fun J h => ?_) ?_
          · try ((with_reducible apply cdX); exact rfl)
            refine iteF h (fun c11 h => ?_) (fun c11 h => ?_)
            · refine Ask.T rfl ?_
              refine Ask.T rfl ?_
              refine Ask.T rfl ?_
              refine Ask.T rfl ?_
              refine Ask.T rfl ?_
              refine Ask.T rfl ?_
              refine Ask.T rfl ?_
              exact ⟨true, h, ⟨rfl, ⟨rfl, rfl, rfl, rfl, rfl, rfl, rfl, trivial⟩, ⟨rfl, rfl, trivial⟩⟩⟩
            · refine Ask.F rfl ?_
              refine Ask.F rfl ?_
              refine Ask.F rfl ?_
              refine bindG h fun x12 hx12 h => ?_
              refine anM (at_ix rfl hx12) ?_
              refine Ask.F rfl ?_
              refine exM (eS x12) (at_get rfl hx12) ?_
              refine Ask.F rfl ?_
              refine Ask.F rfl ?_
              refine Ask.F rfl ?_
              exact ⟨(!(x12.toList == x9.toList)), h, ⟨rfl, ⟨rfl, rfl, rfl, rfl, rfl, rfl, rfl, trivial⟩, ⟨rfl, rfl, trivial⟩⟩⟩
          · rintro v10 h e hp
            try ((with_reducible apply cdX); exact rfl)
            refine ifB h (fun c13 h => ?_) (fun c13 h => ?_)
            · refine eqM (([x9] : List ByteArray).map eS) rfl ?_
              refine gdG h fun hc h => ?_
              refine anM (apB hc) ?_
              refine eqM ((v5 ++ ([x9] : List ByteArray)).map eS) (mApp rfl rfl) ?_
              exact ⟨(v5 ++ ([x9] : List ByteArray)), h, ⟨rfl, ⟨rfl, rfl, rfl, rfl, rfl, trivial⟩, ⟨rfl, rfl, trivial⟩⟩⟩
            · exact ⟨v5, h, ⟨rfl, ⟨rfl, rfl, rfl, rfl, rfl, trivial⟩, ⟨rfl, rfl, trivial⟩⟩⟩
        · rintro v8 h e hp
          exact ⟨((w64 (v4 + 1)), v8), h, ⟨rfl, ⟨rfl, rfl, rfl, rfl, rfl, trivial⟩, ⟨rfl, rfl, trivial⟩⟩⟩
      · refine exQ h ?_
        exact ⟨rfl, ⟨rfl, trivial⟩, ⟨rfl, rfl, trivial⟩⟩
    · rintro v6 S' h ⟨qn, ⟨qa0, _⟩, ⟨qb0, qb1, _⟩⟩
      exact ⟨v6, h, ⟨qn, ⟨qa0, trivial⟩, ⟨qb0, qb1, trivial⟩⟩⟩
  · rintro v3 h e hp
    exact retE (enc := impl_sorted.enc) h rfl
def impl_FreeNames.enc (r : List ByteArray) : Res := ([(.own true 1 (r.map eS))], [])
def impl_FreeNames.l0 (a0 : List impl_Node) (y5 : List impl_Bind) (K : Nat) : Nat → Int → (List ByteArray) → Option (List ByteArray)
  | 0, _, _ => none
  | k + 1, v7, v8 => if v7 < (y5.length : Int) then (jn (fun (v11 : List ByteArray) => impl_FreeNames.l0 a0 y5 K k (w64 (v7 + 1)) v11) (fun j => (at_ y5 v7).bind fun x12 => (jn (fun (v13 : Bool) => if v13 = true then ((at_ a0 v7).bind fun x17 => (gd ((v8.length + 1) * 16 ≤ 140737488355328) (j (v8 ++ ([x17.Name] : List ByteArray))))) else (j v8)) (fun j => (at_ a0 v7).bind fun x14 => (if x14.Kind = 1 then (j (decide (x12.Node < 0))) else (j false)))))) else (some v8)
def impl_FreeNames.f  (K : Nat) (a0 : List impl_Node) : Option (List ByteArray) := (impl_NodesOk.f K a0).bind fun y1 => (if (!y1) = true then (some ([] : List ByteArray)) else (jn (fun (v4 : List ByteArray) => (impl_sorted.f K v4).bind fun (y18, y19) => (gd (y19.length = v4.length) (some y18))) (fun j => (impl_binders.f K a0).bind fun y5 => ((impl_FreeNames.l0 a0 y5 K K 0 ([] : List ByteArray)).bind fun (v9 : List ByteArray) => j v9))))
theorem impl_FreeNames.ev   {K : Nat} {a0 : List impl_Node} {r : List ByteArray} (h : impl_FreeNames.f  K a0 = some r) : E 73 [(.d (.l true 7 (a0.map impl_Node.e)))] = some ([(.own true 1 (r.map eS))], []) := by
  refine Ev_intro (fn := Tryz.f73) rfl (by kernel_rfl) (c := _) rfl ⟨rfl, by simp⟩ rfl (evP_spec _ ?_)
  unfold impl_FreeNames.f at h
  refine goS ?_
  refine bindG h fun y1 hy2 h => ?_
  refine exM ([(.d (.p (.bool y1)))], []) ?_ ?_
  · exact impl_NodesOk.ev hy2
  refine ifB h (fun c3 h => ?_) (fun c3 h => ?_)
  · exact retE (enc := impl_FreeNames.enc) h rfl
  · refine seqJ h 39 (fun x => [(3, (.own 3 1 2))]) (fun x => [(3, 1, 2, (some (.row true true 1 (x.map eS))))]) (fun J h => ?_) ?_
    · refine bindG h fun y5 hy6 h => ?_
      refine exM ([(.own true 2 (y5.map impl_Bind.e))], []) ?_ ?_
      · exact impl_binders.ev hy6
      refine eqM ((y5.length : Int) : Int) (mLen rfl) ?_
      refine loopX (α := Int × List ByteArray) (a := (0, ([] : List ByteArray))) 39 (fun x => [(0, (.d (.l true 7 (a0.map impl_Node.e)))), (3, (.own 3 1 2)), (10, (.own 10 0 2)), (11, (.d (.p (.int .i64 (y5.length : Int))))), (12, (.d (.p (.int .i64 x.1))))]) (fun x => [(3, 1, 2, (some (.row true true 1 (x.2.map eS)))), (10, 0, 2, (some (.row true true 2 (y5.map impl_Bind.e))))]) (fun k x => impl_FreeNames.l0 a0 y5 K k x.1 x.2) 0 (fun x => [(3, (.own 3 1 2))]) (fun x => [(3, 1, 2, (some (.row true true 1 (x.map eS))))]) h (fun _ => rfl) ?_ ⟨rfl, ⟨rfl, rfl, rfl, rfl, rfl, trivial⟩, ⟨rfl, rfl, trivial⟩⟩ ?_
      · rintro k ⟨v7, v8⟩ r h e hp
        replace h : impl_FreeNames.l0 a0 y5 K (k + 1) v7 v8 = some r := h
        unfold impl_FreeNames.l0 at h
        refine goS ?_
        try ((with_reducible apply cdX); exact rfl)
        refine iteF h (fun c10 h => ?_) (fun c10 h => ?_)
        · refine seqJ h 39 (fun x => [(0, (.d (.l true 7 (a0.map impl_Node.e)))), (3, (.own 3 1 2)), (10, (.own 10 0 2)), (11, (.d (.p (.int .i64 (y5.length : Int))))), (12, (.d (.p (.int .i64 v7))))]) (fun x => [(3, 1, 2, (some (.row true true 1 (x.map eS)))), (10, 0, 2, (some (.row true true 2 (y5.map impl_Bind.e))))]) (fun J h => ?_) ?_
          · refine goS ?_
            refine bindG h fun x12 hx12 h => ?_
            refine anM (at_ix rfl hx12) ?_
            refine exM (impl_Bind.e x12) (at_get rfl hx12) ?_
            refine seqJ h 39 (fun x => [(0, (.d (.l true 7 (a0.map impl_Node.e)))), (3, (.own 3 1 2)), (4, (.d (.p (.int .i64 v7)))), (10, (.own 10 0 2)), (11, (.d (.p (.int .i64 (y5.length : Int))))), (12, (.d (.p (.int .i64 v7)))), (27, (.d (.p (.bool x))))]) (fun x => [(3, 1, 2, (some (.row true true 1 (v8.map eS)))), (10, 0, 2, (some (.row true true 2 (y5.map impl_Bind.e))))]) (fun J h => ?_) ?_
            · refine bindG h fun x14 hx14 h => ?_
              refine anM (at_ix rfl hx14) ?_
              refine exM (impl_Node.e x14) (at_get rfl hx14) ?_
              refine iteF h (fun c15 h => ?_) (fun c15 h => ?_)
              · refine Ask.T rfl ?_
                refine Ask.T rfl ?_
                refine Ask.T rfl ?_
                exact ⟨(decide (x12.Node < 0)), h, ⟨rfl, ⟨rfl, rfl, rfl, rfl, rfl, rfl, rfl, trivial⟩, ⟨rfl, rfl, trivial⟩⟩⟩
              · refine Ask.F rfl ?_
                refine Ask.F rfl ?_
                refine Ask.F rfl ?_
                exact ⟨false, h, ⟨rfl, ⟨rfl, rfl, rfl, rfl, rfl, rfl, rfl, trivial⟩, ⟨rfl, rfl, trivial⟩⟩⟩
            · rintro v13 h e hp
              try ((with_reducible apply cdX); exact rfl)
              refine ifB h (fun c16 h => ?_) (fun c16 h => ?_)
              · refine bindG h fun x17 hx17 h => ?_
                refine anM (at_ix rfl hx17) ?_
                refine exM (impl_Node.e x17) (at_get rfl hx17) ?_
                refine eqM (([x17.Name] : List ByteArray).map eS) rfl ?_
                refine gdG h fun hc h => ?_
                refine anM (apB hc) ?_
                refine eqM ((v8 ++ ([x17.Name] : List ByteArray)).map eS) (mApp rfl rfl) ?_
                exact ⟨(v8 ++ ([x17.Name] : List ByteArray)), h, ⟨rfl, ⟨rfl, rfl, rfl, rfl, rfl, trivial⟩, ⟨rfl, rfl, trivial⟩⟩⟩
              · exact ⟨v8, h, ⟨rfl, ⟨rfl, rfl, rfl, rfl, rfl, trivial⟩, ⟨rfl, rfl, trivial⟩⟩⟩
          · rintro v11 h e hp
            exact ⟨((w64 (v7 + 1)), v11), h, ⟨rfl, ⟨rfl, rfl, rfl, rfl, rfl, trivial⟩, ⟨rfl, rfl, trivial⟩⟩⟩
        · refine exQ h ?_
          exact ⟨rfl, ⟨rfl, trivial⟩, ⟨rfl, trivial⟩⟩
      · rintro v9 S' h ⟨qn, ⟨qa0, _⟩, ⟨qb0, _⟩⟩
        exact ⟨v9, h, ⟨qn, ⟨qa0, trivial⟩, ⟨qb0, trivial⟩⟩⟩
    · rintro v4 h e hp
      refine bindG h ?_
      rintro ⟨y18, y19⟩ hy20 h
      refine exM ([(.own true 1 (y18.map eS))], [(.own true 1 (y19.map eS))]) ?_ ?_
      · exact impl_sorted.ev hy20
      refine gdG h fun g h => ?_
      refine anM (lenM g) ?_
      exact retE (enc := impl_FreeNames.enc) h rfl
def impl_Sites.enc (r : List impl_Bind) : Res := ([(.own true 2 (r.map impl_Bind.e))], [])
def impl_Sites.l1 (v5 : Int) (y12 : Int) (K : Nat) : Nat → Int → (List impl_Bind) → Option (List impl_Bind)
  | 0, _, _ => none
  | k + 1, v14, v15 => if v14 < y12 then (gd ((v15.length + 1) * 16 ≤ 140737488355328) (impl_Sites.l1 v5 y12 K k (w64 (v14 + 1)) (v15 ++ ([(⟨v5, v14⟩ : impl_Bind)] : List impl_Bind)))) else (some v15)
def impl_Sites.l0 (a0 : List impl_Node) (K : Nat) : Nat → Int → (List impl_Bind) → Option (List impl_Bind)
  | 0, _, _ => none
  | k + 1, v5, v6 => if v5 < (a0.length : Int) then (jn (fun (v9 : List impl_Bind) => impl_Sites.l0 a0 K k (w64 (v5 + 1)) v9) (fun j => (at_ a0 v5).bind fun x10 => (if x10.Kind = 1 then (j v6) else ((impl_namesOf.f K x10.Kind).bind fun y12 => ((impl_Sites.l1 v5 y12 K K 0 v6).bind fun (v16 : List impl_Bind) => j v16))))) else (some v6)
def impl_Sites.f  (K : Nat) (a0 : List impl_Node) : Option (List impl_Bind) := (impl_NodesOk.f K a0).bind fun y1 => (if (!y1) = true then (some ([] : List impl_Bind)) else (jn (fun (v4 : List impl_Bind) => some v4) (fun j => (impl_Sites.l0 a0 K K 0 ([] : List impl_Bind)).bind fun (v7 : List impl_Bind) => j v7)))
theorem impl_Sites.ev   {K : Nat} {a0 : List impl_Node} {r : List impl_Bind} (h : impl_Sites.f  K a0 = some r) : E 74 [(.d (.l true 7 (a0.map impl_Node.e)))] = some ([(.own true 2 (r.map impl_Bind.e))], []) := by
  refine Ev_intro (fn := Tryz.f74) rfl (by kernel_rfl) (c := _) rfl ⟨rfl, by simp⟩ rfl (evP_spec _ ?_)
  unfold impl_Sites.f at h
  refine goS ?_
  refine bindG h fun y1 hy2 h => ?_
  refine exM ([(.d (.p (.bool y1)))], []) ?_ ?_
  · exact impl_NodesOk.ev hy2
  refine ifB h (fun c3 h => ?_) (fun c3 h => ?_)
  · exact retE (enc := impl_Sites.enc) h rfl
  · refine seqJ h 35 (fun x => [(3, (.own 3 1 2))]) (fun x => [(3, 1, 2, (some (.row true true 2 (x.map impl_Bind.e))))]) (fun J h => ?_) ?_
    · refine eqM ((a0.length : Int) : Int) (mLen rfl) ?_
      refine loopX (α := Int × List impl_Bind) (a := (0, ([] : List impl_Bind))) 35 (fun x => [(3, (.own 3 1 2)), (10, (.d (.l true 7 (a0.map impl_Node.e)))), (11, (.d (.p (.int .i64 (a0.length : Int))))), (12, (.d (.p (.int .i64 x.1))))]) (fun x => [(3, 1, 2, (some (.row true true 2 (x.2.map impl_Bind.e))))]) (fun k x => impl_Sites.l0 a0 K k x.1 x.2) 0 (fun x => [(3, (.own 3 1 2))]) (fun x => [(3, 1, 2, (some (.row true true 2 (x.map impl_Bind.e))))]) h (fun _ => rfl) ?_ ⟨rfl, ⟨rfl, rfl, rfl, rfl, trivial⟩, ⟨rfl, trivial⟩⟩ ?_
      · rintro k ⟨v5, v6⟩ r h e hp
        replace h : impl_Sites.l0 a0 K (k + 1) v5 v6 = some r := h
        unfold impl_Sites.l0 at h
        refine goS ?_
        try ((with_reducible apply cdX); exact rfl)
        refine iteF h (fun c8 h => ?_) (fun c8 h => ?_)
        · refine seqJ h 35 (fun x => [(3, (.own 3 1 2)), (10, (.d (.l true 7 (a0.map impl_Node.e)))), (11, (.d (.p (.int .i64 (a0.length : Int))))), (12, (.d (.p (.int .i64 v5))))]) (fun x => [(3, 1, 2, (some (.row true true 2 (x.map impl_Bind.e))))]) (fun J h => ?_) ?_
          · refine goS ?_
            refine bindG h fun x10 hx10 h => ?_
            refine anM (at_ix rfl hx10) ?_
            refine exM (impl_Node.e x10) (at_get rfl hx10) ?_
            refine goS ?_
            try ((with_reducible apply cdX); exact rfl)
            refine iteF h (fun c11 h => ?_) (fun c11 h => ?_)
            · exact ⟨v6, h, ⟨rfl, ⟨rfl, rfl, rfl, rfl, trivial⟩, ⟨rfl, trivial⟩⟩⟩
            · refine bindG h fun y12 hy13 h => ?_
              refine exM ([(.d (.p (.int .i64 y12)))], []) ?_ ?_
              · exact impl_namesOf.ev hy13
              refine loopX (α := Int × List impl_Bind) (a := (0, v6)) 35 (fun x => [(3, (.own 3 1 2)), (4, (.d (.p (.int .i64 v5)))), (10, (.d (.l true 7 (a0.map impl_Node.e)))), (11, (.d (.p (.int .i64 (a0.length : Int))))), (12, (.d (.p (.int .i64 v5)))), (22, (.d (.p (.int .i64 y12)))), (23, (.d (.p (.int .i64 x.1))))]) (fun x => [(3, 1, 2, (some (.row true true 2 (x.2.map impl_Bind.e))))]) (fun k x => impl_Sites.l1 v5 y12 K k x.1 x.2) 2 (fun x => [(3, (.own 3 1 2)), (10, (.d (.l true 7 (a0.map impl_Node.e)))), (11, (.d (.p (.int .i64 (a0.length : Int))))), (12, (.d (.p (.int .i64 v5))))]) (fun x => [(3, 1, 2, (some (.row true true 2 (x.map impl_Bind.e))))]) h (fun _ => rfl) ?_ ⟨rfl, ⟨rfl, rfl, rfl, rfl, rfl, rfl, rfl, trivial⟩, ⟨rfl, trivial⟩⟩ ?_
              · rintro k ⟨v14, v15⟩ r h e hp
                replace h : impl_Sites.l1 v5 y12 K (k + 1) v14 v15 = some r := h
                unfold impl_Sites.l1 at h
                refine goS ?_
                try ((with_reducible apply cdX); exact rfl)
                refine iteF h (fun c17 h => ?_) (fun c17 h => ?_)
                · refine goS ?_
                  refine eqM (([(⟨v5, v14⟩ : impl_Bind)] : List impl_Bind).map impl_Bind.e) rfl ?_
                  refine gdG h fun hc h => ?_
                  refine anM (apB hc) ?_
                  refine eqM ((v15 ++ ([(⟨v5, v14⟩ : impl_Bind)] : List impl_Bind)).map impl_Bind.e) (mApp rfl rfl) ?_
                  exact ⟨((w64 (v14 + 1)), (v15 ++ ([(⟨v5, v14⟩ : impl_Bind)] : List impl_Bind))), h, ⟨rfl, ⟨rfl, rfl, rfl, rfl, rfl, rfl, rfl, trivial⟩, ⟨rfl, trivial⟩⟩⟩
                · refine exQ h ?_
                  exact ⟨rfl, ⟨rfl, rfl, rfl, rfl, trivial⟩, ⟨rfl, trivial⟩⟩
              · rintro v16 S' h ⟨qn, ⟨qa0, qa1, qa2, qa3, _⟩, ⟨qb0, _⟩⟩
                exact ⟨v16, h, ⟨qn, ⟨qa0, qa1, qa2, qa3, trivial⟩, ⟨qb0, trivial⟩⟩⟩
          · rintro v9 h e hp
            exact ⟨((w64 (v5 + 1)), v9), h, ⟨rfl, ⟨rfl, rfl, rfl, rfl, trivial⟩, ⟨rfl, trivial⟩⟩⟩
        · refine exQ h ?_
          exact ⟨rfl, ⟨rfl, trivial⟩, ⟨rfl, trivial⟩⟩
      · rintro v7 S' h ⟨qn, ⟨qa0, _⟩, ⟨qb0, _⟩⟩
        exact ⟨v7, h, ⟨qn, ⟨qa0, trivial⟩, ⟨qb0, trivial⟩⟩⟩
    · rintro v4 h e hp
      exact retE (enc := impl_Sites.enc) h rfl
def impl_rename.enc (r : List impl_Node) : Res := ([], [(.own true 7 (r.map impl_Node.e))])
def impl_rename.l0 (a1 : List impl_Bind) (a2 : impl_Bind) (a3 : ByteArray) (K : Nat) : Nat → Int → (List impl_Node) → Option (List impl_Node)
  | 0, _, _ => none
  | k + 1, v5, v6 => if v5 < (a1.length : Int) then (jn (fun (v9 : List impl_Node) => impl_rename.l0 a1 a2 a3 K k (w64 (v5 + 1)) v9) (fun j => (at_ a1 v5).bind fun x10 => (if ((decide (x10.Node = a2.Node)) && ((decide (x10.Role = a2.Role)) && true)) = true then ((at_ v6 v5).bind fun x12 => (j (v6.set (v5).toNat (⟨x12.Kind, x12.A, x12.B, x12.C, x12.N, a3, x12.Other⟩ : impl_Node)))) else (j v6)))) else (some v6)
def impl_rename.f  (K : Nat) (a0 : List impl_Node) (a1 : List impl_Bind) (a2 : impl_Bind) (a3 : ByteArray) : Option (List impl_Node) := jn (fun (v1 : List impl_Node) => (impl_rename.l0 a1 a2 a3 K K 0 v1).bind fun (v7 : List impl_Node) => some v7) (fun j => if a2.Role = 0 then ((at_ a0 a2.Node).bind fun x3 => (j (a0.set (a2.Node).toNat (⟨x3.Kind, x3.A, x3.B, x3.C, x3.N, a3, x3.Other⟩ : impl_Node)))) else ((at_ a0 a2.Node).bind fun x4 => (j (a0.set (a2.Node).toNat (⟨x4.Kind, x4.A, x4.B, x4.C, x4.N, x4.Name, a3⟩ : impl_Node)))))
theorem impl_rename.ev   {K : Nat} {a0 : List impl_Node} {a1 : List impl_Bind} {a2 : impl_Bind} {a3 : ByteArray} {r : List impl_Node} (h : impl_rename.f  K a0 a1 a2 a3 = some r) : E 77 [(.lend true 7 (a0.map impl_Node.e)), (.d (.l true 2 (a1.map impl_Bind.e))), (.agg (a2.e.map .d)), (.d (.p (.string a3)))] = some ([], [(.own true 7 (r.map impl_Node.e))]) := by
  refine Ev_intro (fn := Tryz.f77) rfl (by kernel_rfl) (c := _) rfl ⟨rfl, by simp⟩ rfl (evP_spec _ ?_)
  unfold impl_rename.f at h
  refine seqJ h 41 (fun x => [(0, (.own 41 0 1)), (1, (.d (.l true 2 (a1.map impl_Bind.e)))), (3, (.d (.p (.string a3)))), (6, (.ptr 6 0 2 0))]) (fun x => [(6, 0, 2, (some (.box [(.d (.p (.int .i64 a2.Node))), (.d (.p (.int .i64 a2.Role)))]))), (41, 0, 1, (some (.row true true 7 (x.map impl_Node.e))))]) (fun J h => ?_) ?_
  · try ((with_reducible apply cdX); exact rfl)
    refine iteF h (fun c2 h => ?_) (fun c2 h => ?_)
    · refine bindG h fun x3 hx3 h => ?_
      refine anM (at_ix rfl hx3) ?_
      refine anM (at_lt rfl hx3) ?_
      refine exM (impl_Node.e x3) (at_get rfl hx3) ?_
      refine eqM ((a0.set (a2.Node).toNat (⟨x3.Kind, x3.A, x3.B, x3.C, x3.N, a3, x3.Other⟩ : impl_Node)).map impl_Node.e) (mSet rfl rfl) ?_
      exact ⟨(a0.set (a2.Node).toNat (⟨x3.Kind, x3.A, x3.B, x3.C, x3.N, a3, x3.Other⟩ : impl_Node)), h, ⟨rfl, ⟨rfl, rfl, rfl, rfl, trivial⟩, ⟨rfl, rfl, trivial⟩⟩⟩
    · refine bindG h fun x4 hx4 h => ?_
      refine anM (at_ix rfl hx4) ?_
      refine anM (at_lt rfl hx4) ?_
      refine exM (impl_Node.e x4) (at_get rfl hx4) ?_
      refine eqM ((a0.set (a2.Node).toNat (⟨x4.Kind, x4.A, x4.B, x4.C, x4.N, x4.Name, a3⟩ : impl_Node)).map impl_Node.e) (mSet rfl rfl) ?_
      exact ⟨(a0.set (a2.Node).toNat (⟨x4.Kind, x4.A, x4.B, x4.C, x4.N, x4.Name, a3⟩ : impl_Node)), h, ⟨rfl, ⟨rfl, rfl, rfl, rfl, trivial⟩, ⟨rfl, rfl, trivial⟩⟩⟩
  · rintro v1 h e hp
    refine eqM ((a1.length : Int) : Int) (mLen rfl) ?_
    refine loopX (α := Int × List impl_Node) (a := (0, v1)) 41 (fun x => [(0, (.own 41 0 1)), (3, (.d (.p (.string a3)))), (6, (.ptr 6 0 2 0)), (25, (.d (.l true 2 (a1.map impl_Bind.e)))), (26, (.d (.p (.int .i64 (a1.length : Int))))), (27, (.d (.p (.int .i64 x.1))))]) (fun x => [(6, 0, 2, (some (.box [(.d (.p (.int .i64 a2.Node))), (.d (.p (.int .i64 a2.Role)))]))), (41, 0, 1, (some (.row true true 7 (x.2.map impl_Node.e))))]) (fun k x => impl_rename.l0 a1 a2 a3 K k x.1 x.2) 0 (fun x => []) (fun x => [(41, 0, 1, (some (.row true true 7 (x.map impl_Node.e))))]) h (fun _ => rfl) ?_ ⟨rfl, ⟨rfl, rfl, rfl, rfl, rfl, rfl, trivial⟩, ⟨rfl, rfl, trivial⟩⟩ ?_
    · rintro k ⟨v5, v6⟩ r h e hp
      replace h : impl_rename.l0 a1 a2 a3 K (k + 1) v5 v6 = some r := h
      unfold impl_rename.l0 at h
      refine goS ?_
      try ((with_reducible apply cdX); exact rfl)
      refine iteF h (fun c8 h => ?_) (fun c8 h => ?_)
      · refine seqJ h 41 (fun x => [(0, (.own 41 0 1)), (3, (.d (.p (.string a3)))), (6, (.ptr 6 0 2 0)), (25, (.d (.l true 2 (a1.map impl_Bind.e)))), (26, (.d (.p (.int .i64 (a1.length : Int))))), (27, (.d (.p (.int .i64 v5))))]) (fun x => [(6, 0, 2, (some (.box [(.d (.p (.int .i64 a2.Node))), (.d (.p (.int .i64 a2.Role)))]))), (41, 0, 1, (some (.row true true 7 (x.map impl_Node.e))))]) (fun J h => ?_) ?_
        · refine goS ?_
          refine bindG h fun x10 hx10 h => ?_
          refine anM (at_ix rfl hx10) ?_
          refine exM (impl_Bind.e x10) (at_get rfl hx10) ?_
          refine anM eqT106 ?_
          refine ifB h (fun c11 h => ?_) (fun c11 h => ?_)
          · refine bindG h fun x12 hx12 h => ?_
            refine anM (at_ix rfl hx12) ?_
            refine anM (at_lt rfl hx12) ?_
            refine exM (impl_Node.e x12) (at_get rfl hx12) ?_
            refine eqM ((v6.set (v5).toNat (⟨x12.Kind, x12.A, x12.B, x12.C, x12.N, a3, x12.Other⟩ : impl_Node)).map impl_Node.e) (mSet rfl rfl) ?_
            exact ⟨(v6.set (v5).toNat (⟨x12.Kind, x12.A, x12.B, x12.C, x12.N, a3, x12.Other⟩ : impl_Node)), h, ⟨rfl, ⟨rfl, rfl, rfl, rfl, rfl, rfl, trivial⟩, ⟨rfl, rfl, trivial⟩⟩⟩
          · exact ⟨v6, h, ⟨rfl, ⟨rfl, rfl, rfl, rfl, rfl, rfl, trivial⟩, ⟨rfl, rfl, trivial⟩⟩⟩
        · rintro v9 h e hp
          exact ⟨((w64 (v5 + 1)), v9), h, ⟨rfl, ⟨rfl, rfl, rfl, rfl, rfl, rfl, trivial⟩, ⟨rfl, rfl, trivial⟩⟩⟩
      · refine exQ h ?_
        exact ⟨rfl, trivial, ⟨rfl, trivial⟩⟩
    · rintro v7 S' h ⟨qn, ⟨_⟩, ⟨qb0, _⟩⟩
      refine knR (Q := fun S => endV _ _ _ _ _ _ S = _) 41 ((fun x => [(41, 0, 1, (some (.row true true 7 (x.map impl_Node.e))))]) v7) qn ⟨qb0, trivial⟩ rfl (fun e hp => ?_)
      exact retE (enc := impl_rename.enc) h rfl
def impl_Canon.enc (r : List impl_Node) : Res := ([(.own true 7 (r.map impl_Node.e))], [])
def impl_Canon.l1 (y8 : List ByteArray) (K : Nat) : Nat → Int → Option (Int)
  | 0, _ => none
  | k + 1, v20 => (impl_FreshName.f K v20).bind fun y22 => ((impl_hasText.f K y8 y22).bind fun y24 => (if y24 = true then (impl_Canon.l1 y8 K k (w64 (v20 + 1))) else (some v20)))
def impl_Canon.l0 (y6 : List impl_Bind) (y8 : List ByteArray) (y11 : List impl_Bind) (K : Nat) : Nat → Int → Int → (List impl_Node) → Option (List impl_Node)
  | 0, _, _, _ => none
  | k + 1, v13, v14, v15 => if v14 < (y11.length : Int) then ((at_ y11 v14).bind fun x18 => (jn (fun (v19 : Int) => (impl_FreshName.f K v19).bind fun y27 => ((impl_rename.f K v15 y6 x18 y27).bind fun y29 => (gd (y29.length = v15.length) (impl_Canon.l0 y6 y8 y11 K k (w64 (v19 + 1)) (w64 (v14 + 1)) y29)))) (fun j => (impl_Canon.l1 y8 K K v13).bind fun (v21 : Int) => j v21))) else (some v15)
def impl_Canon.f  (K : Nat) (a0 : List impl_Node) : Option (List impl_Node) := (impl_NodesOk.f K a0).bind fun y1 => (if (!y1) = true then (some ([] : List impl_Node)) else ((impl_copyNodes.f K a0).bind fun y4 => ((impl_binders.f K a0).bind fun y6 => ((impl_FreeNames.f K a0).bind fun y8 => (jn (fun (v10 : List impl_Node) => some v10) (fun j => (impl_Sites.f K a0).bind fun y11 => ((impl_Canon.l0 y6 y8 y11 K K 0 0 y4).bind fun (v16 : List impl_Node) => j v16)))))))
theorem impl_Canon.ev   {K : Nat} {a0 : List impl_Node} {r : List impl_Node} (h : impl_Canon.f  K a0 = some r) : E 32 [(.d (.l true 7 (a0.map impl_Node.e)))] = some ([(.own true 7 (r.map impl_Node.e))], []) := by
  refine Ev_intro (fn := Tryz.f32) rfl (by kernel_rfl) (c := _) rfl ⟨rfl, by simp⟩ rfl (evP_spec _ ?_)
  unfold impl_Canon.f at h
  refine goS ?_
  refine bindG h fun y1 hy2 h => ?_
  refine exM ([(.d (.p (.bool y1)))], []) ?_ ?_
  · exact impl_NodesOk.ev hy2
  refine ifB h (fun c3 h => ?_) (fun c3 h => ?_)
  · exact retE (enc := impl_Canon.enc) h rfl
  · refine bindG h fun y4 hy5 h => ?_
    refine exM ([(.own true 7 (y4.map impl_Node.e))], []) ?_ ?_
    · exact impl_copyNodes.ev hy5
    refine bindG h fun y6 hy7 h => ?_
    refine exM ([(.own true 2 (y6.map impl_Bind.e))], []) ?_ ?_
    · exact impl_binders.ev hy7
    refine bindG h fun y8 hy9 h => ?_
    refine exM ([(.own true 1 (y8.map eS))], []) ?_ ?_
    · exact impl_FreeNames.ev hy9
    refine seqJ h 41 (fun x => [(3, (.own 3 1 2))]) (fun x => [(3, 1, 2, (some (.row true true 7 (x.map impl_Node.e))))]) (fun J h => ?_) ?_
    · refine bindG h fun y11 hy12 h => ?_
      refine exM ([(.own true 2 (y11.map impl_Bind.e))], []) ?_ ?_
      · exact impl_Sites.ev hy12
      refine eqM ((y11.length : Int) : Int) (mLen rfl) ?_
      refine loopX (α := Int × Int × List impl_Node) (a := (0, 0, y4)) 41 (fun x => [(3, (.own 3 1 2)), (4, (.own 4 1 2)), (5, (.own 5 1 2)), (6, (.d (.p (.int .i64 x.1)))), (19, (.own 19 0 2)), (20, (.d (.p (.int .i64 (y11.length : Int))))), (21, (.d (.p (.int .i64 x.2.1))))]) (fun x => [(3, 1, 2, (some (.row true true 7 (x.2.2.map impl_Node.e)))), (4, 1, 2, (some (.row true true 2 (y6.map impl_Bind.e)))), (5, 1, 2, (some (.row true true 1 (y8.map eS)))), (19, 0, 2, (some (.row true true 2 (y11.map impl_Bind.e))))]) (fun k x => impl_Canon.l0 y6 y8 y11 K k x.1 x.2.1 x.2.2) 0 (fun x => [(3, (.own 3 1 2))]) (fun x => [(3, 1, 2, (some (.row true true 7 (x.map impl_Node.e))))]) h (fun _ => rfl) ?_ ⟨rfl, ⟨rfl, rfl, rfl, rfl, rfl, rfl, rfl, trivial⟩, ⟨rfl, rfl, rfl, rfl, trivial⟩⟩ ?_
      · rintro k ⟨v13, v14, v15⟩ r h e hp
        replace h : impl_Canon.l0 y6 y8 y11 K (k + 1) v13 v14 v15 = some r := h
        unfold impl_Canon.l0 at h
        refine goS ?_
        try ((with_reducible apply cdX); exact rfl)
        refine iteF h (fun c17 h => ?_) (fun c17 h => ?_)
        · refine goS ?_
          refine goS ?_
          refine bindG h fun x18 hx18 h => ?_
          refine anM (at_ix rfl hx18) ?_
          refine exM (impl_Bind.e x18) (at_get rfl hx18) ?_
          refine seqJ h 41 (fun x => [(3, (.own 3 1 2)), (4, (.own 4 1 2)), (5, (.own 5 1 2)), (6, (.d (.p (.int .i64 x)))), (8, (.ptr 8 0 2 0)), (19, (.own 19 0 2)), (20, (.d (.p (.int .i64 (y11.length : Int))))), (21, (.d (.p (.int .i64 v14))))]) (fun x => [(3, 1, 2, (some (.row true true 7 (v15.map impl_Node.e)))), (4, 1, 2, (some (.row true true 2 (y6.map impl_Bind.e)))), (5, 1, 2, (some (.row true true 1 (y8.map eS)))), (8, 0, 2, (some (.box [(.d (.p (.int .i64 x18.Node))), (.d (.p (.int .i64 x18.Role)))]))), (19, 0, 2, (some (.row true true 2 (y11.map impl_Bind.e))))]) (fun J h => ?_) ?_
          · refine loopX (α := Int) (a := v13) 41 (fun x => [(3, (.own 3 1 2)), (4, (.own 4 1 2)), (5, (.own 5 1 2)), (6, (.d (.p (.int .i64 x)))), (8, (.ptr 8 0 2 0)), (19, (.own 19 0 2)), (20, (.d (.p (.int .i64 (y11.length : Int))))), (21, (.d (.p (.int .i64 v14))))]) (fun x => [(3, 1, 2, (some (.row true true 7 (v15.map impl_Node.e)))), (4, 1, 2, (some (.row true true 2 (y6.map impl_Bind.e)))), (5, 1, 2, (some (.row true true 1 (y8.map eS)))), (8, 0, 2, (some (.box [(.d (.p (.int .i64 x18.Node))), (.d (.p (.int .i64 x18.Role)))]))), (19, 0, 2, (some (.row true true 2 (y11.map impl_Bind.e))))]) (fun k x => impl_Canon.l1 y8 K k x) 2 (fun x => [(3, (.own 3 1 2)), (4, (.own 4 1 2)), (5, (.own 5 1 2)), (6, (.d (.p (.int .i64 x)))), (8, (.ptr 8 0 2 0)), (19, (.own 19 0 2)), (20, (.d (.p (.int .i64 (y11.length : Int))))), (21, (.d (.p (.int .i64 v14))))]) (fun x => [(3, 1, 2, (some (.row true true 7 (v15.map impl_Node.e)))), (4, 1, 2, (some (.row true true 2 (y6.map impl_Bind.e)))), (5, 1, 2, (some (.row true true 1 (y8.map eS)))), (8, 0, 2, (some (.box [(.d (.p (.int .i64 x18.Node))), (.d (.p (.int .i64 x18.Role)))]))), (19, 0, 2, (some (.row true true 2 (y11.map impl_Bind.e))))]) h (fun _ => rfl) ?_ ⟨rfl, ⟨rfl, rfl, rfl, rfl, rfl, rfl, rfl, rfl, trivial⟩, ⟨rfl, rfl, rfl, rfl, rfl, trivial⟩⟩ ?_
            · rintro k v20 r h e hp
              replace h : impl_Canon.l1 y8 K (k + 1) v20 = some r := h
              unfold impl_Canon.l1 at h
              refine goS ?_
              refine bindG h fun y22 hy23 h => ?_
              refine exM ([(.d (.p (.string y22)))], []) ?_ ?_
              · exact impl_FreshName.ev hy23
              refine bindG h fun y24 hy25 h => ?_
              refine exM ([(.d (.p (.bool y24)))], []) ?_ ?_
              · exact impl_hasText.ev hy25
              refine ifB h (fun c26 h => ?_) (fun c26 h => ?_)
              · exact ⟨(w64 (v20 + 1)), h, ⟨rfl, ⟨rfl, rfl, rfl, rfl, rfl, rfl, rfl, rfl, trivial⟩, ⟨rfl, rfl, rfl, rfl, rfl, trivial⟩⟩⟩
              · refine exQ h ?_
                exact ⟨rfl, ⟨rfl, rfl, rfl, rfl, rfl, rfl, rfl, rfl, trivial⟩, ⟨rfl, rfl, rfl, rfl, rfl, trivial⟩⟩
            · rintro v21 S' h ⟨qn, ⟨qa0, qa1, qa2, qa3, qa4, qa5, qa6, qa7, _⟩, ⟨qb0, qb1, qb2, qb3, qb4, _⟩⟩
              exact ⟨v21, h, ⟨qn, ⟨qa0, qa1, qa2, qa3, qa4, qa5, qa6, qa7, trivial⟩, ⟨qb0, qb1, qb2, qb3, qb4, trivial⟩⟩⟩
          · rintro v19 h e hp
            refine ⟨[[], [], [35], [], [33], []], [], by kernel_rfl, ?_⟩
            refine bindG h fun y27 hy28 h => ?_
            refine exM ([(.d (.p (.string y27)))], []) ?_ ?_
            · exact impl_FreshName.ev hy28
            refine bindG h fun y29 hy30 h => ?_
            refine exM ([], [(.own true 7 (y29.map impl_Node.e))]) ?_ ?_
            · exact impl_rename.ev hy30
            refine gdG h fun g h => ?_
            refine anM (lenM g) ?_
            exact ⟨((w64 (v19 + 1)), (w64 (v14 + 1)), y29), h, ⟨rfl, ⟨rfl, rfl, rfl, rfl, rfl, rfl, rfl, trivial⟩, ⟨rfl, rfl, rfl, rfl, trivial⟩⟩⟩
        · refine exQ h ?_
          exact ⟨rfl, ⟨rfl, trivial⟩, ⟨rfl, trivial⟩⟩
      · rintro v16 S' h ⟨qn, ⟨qa0, _⟩, ⟨qb0, _⟩⟩
        exact ⟨v16, h, ⟨qn, ⟨qa0, trivial⟩, ⟨qb0, trivial⟩⟩⟩
    · rintro v10 h e hp
      exact retE (enc := impl_Canon.enc) h rfl
def impl_Anf.enc (r : List impl_Node × Bool) : Res := ([(.own true 7 (r.1.map impl_Node.e)), (.d (.p (.bool r.2)))], [])
def impl_Anf.l0 (a0 : List impl_Node) (K : Nat) : Nat → Int → impl_namer → Option (impl_namer)
  | 0, _, _ => none
  | k + 1, v5, v6 => if v5 < (a0.length : Int) then ((at_ a0 v5).bind fun x9 => (gd ((v6.used.length + 2) * 16 ≤ 140737488355328) (impl_Anf.l0 a0 K k (w64 (v5 + 1)) (⟨(v6.used ++ ([x9.Name, x9.Other] : List ByteArray)), v6.k_⟩ : impl_namer)))) else (some v6)
def impl_Anf.f  (K : Nat) (a0 : List impl_Node) : Option (List impl_Node × Bool) := (impl_NodesOk.f K a0).bind fun y1 => (if (!y1) = true then (some (([] : List impl_Node), false)) else (jn (fun (v4 : impl_namer) => (impl_wholeTree.f K a0).bind fun y10 => ((impl_namer_anf.f K v4 y10).bind fun (y12, y13) => ((impl_flat.f K ([] : List impl_Node) y12).bind fun y15 => (if (y15.length : Int) > 150 then (some (([] : List impl_Node), false)) else ((impl_Canon.f K y15).bind fun y18 => (some (y18, true))))))) (fun j => (impl_Anf.l0 a0 K K 0 (⟨([] : List ByteArray), 0⟩ : impl_namer)).bind fun (v7 : impl_namer) => j v7)))
theorem impl_Anf.ev   {K : Nat} {a0 : List impl_Node} {r : List impl_Node × Bool} (h : impl_Anf.f  K a0 = some r) : E 14 [(.d (.l true 7 (a0.map impl_Node.e)))] = some ([(.own true 7 (r.1.map impl_Node.e)), (.d (.p (.bool r.2)))], []) := by
  refine Ev_intro (fn := Tryz.f14) rfl (by kernel_rfl) (c := _) rfl ⟨rfl, by simp⟩ rfl (evP_spec _ ?_)
  unfold impl_Anf.f at h
  refine goS ?_
  refine bindG h fun y1 hy2 h => ?_
  refine exM ([(.d (.p (.bool y1)))], []) ?_ ?_
  · exact impl_NodesOk.ev hy2
  refine ifB h (fun c3 h => ?_) (fun c3 h => ?_)
  · exact retE (enc := impl_Anf.enc) h rfl
  · refine seqJ h 43 (fun x => [(0, (.d (.l true 7 (a0.map impl_Node.e)))), (4, (.ptr 12 0 2 0))]) (fun x => [(12, 0, 2, (some (.box [(.own 12 1000 2), (.d (.p (.int .i64 x.k_)))]))), (12, 1000, 2, (some (.row true true 1 (x.used.map eS))))]) (fun J h => ?_) ?_
    · refine eqM ((a0.length : Int) : Int) (mLen rfl) ?_
      refine loopX (α := Int × impl_namer) (a := (0, (⟨([] : List ByteArray), 0⟩ : impl_namer))) 43 (fun x => [(0, (.d (.l true 7 (a0.map impl_Node.e)))), (4, (.ptr 12 0 2 0)), (13, (.d (.l true 7 (a0.map impl_Node.e)))), (14, (.d (.p (.int .i64 (a0.length : Int))))), (15, (.d (.p (.int .i64 x.1))))]) (fun x => [(12, 0, 2, (some (.box [(.own 12 1000 2), (.d (.p (.int .i64 x.2.k_)))]))), (12, 1000, 2, (some (.row true true 1 (x.2.used.map eS))))]) (fun k x => impl_Anf.l0 a0 K k x.1 x.2) 0 (fun x => [(0, (.d (.l true 7 (a0.map impl_Node.e)))), (4, (.ptr 12 0 2 0))]) (fun x => [(12, 0, 2, (some (.box [(.own 12 1000 2), (.d (.p (.int .i64 x.k_)))]))), (12, 1000, 2, (some (.row true true 1 (x.used.map eS))))]) h (fun _ => rfl) ?_ ⟨rfl, ⟨rfl, rfl, rfl, rfl, rfl, trivial⟩, ⟨rfl, rfl, trivial⟩⟩ ?_
      · rintro k ⟨v5, v6⟩ r h e hp
        replace h : impl_Anf.l0 a0 K (k + 1) v5 v6 = some r := h
        unfold impl_Anf.l0 at h
        refine goS ?_
        try ((with_reducible apply cdX); exact rfl)
        refine iteF h (fun c8 h => ?_) (fun c8 h => ?_)
        · refine goS ?_
          refine goS ?_
          refine bindG h fun x9 hx9 h => ?_
          refine anM (at_ix rfl hx9) ?_
          refine exM (impl_Node.e x9) (at_get rfl hx9) ?_
          refine ⟨[[], [], [24, 25, 26, 27, 28], [24, 25, 26, 27, 28], [24, 25, 26, 27, 28], [21, 22, 23, 26, 27], [21, 22, 23, 26, 27], [21, 22, 23, 24, 25], [21, 22, 23, 24, 25], [21, 22, 23], [], [], [], []], [], by kernel_rfl, ?_⟩
          refine eqM (([x9.Name, x9.Other] : List ByteArray).map eS) rfl ?_
          refine gdG h fun hc h => ?_
          refine anM (apB hc) ?_
          refine eqM ((v6.used ++ ([x9.Name, x9.Other] : List ByteArray)).map eS) (mApp rfl rfl) ?_
          exact ⟨((w64 (v5 + 1)), (⟨(v6.used ++ ([x9.Name, x9.Other] : List ByteArray)), v6.k_⟩ : impl_namer)), h, ⟨rfl, ⟨rfl, rfl, rfl, rfl, rfl, trivial⟩, ⟨rfl, rfl, trivial⟩⟩⟩
        · refine exQ h ?_
          exact ⟨rfl, ⟨rfl, rfl, trivial⟩, ⟨rfl, rfl, trivial⟩⟩
      · rintro v7 S' h ⟨qn, ⟨qa0, qa1, _⟩, ⟨qb0, qb1, _⟩⟩
        exact ⟨v7, h, ⟨qn, ⟨qa0, qa1, trivial⟩, ⟨qb0, qb1, trivial⟩⟩⟩
    · rintro v4 h e hp
      refine bindG h fun y10 hy11 h => ?_
      refine exM ([(.agg (y10.c.map .d))], []) ?_ ?_
      · exact impl_wholeTree.ev hy11
      refine bindG h ?_
      rintro ⟨y12, y13⟩ hy14 h
      refine exM ([(.agg (y12.c.map .d))], [(.ptr [(.own true 1 (y13.used.map eS)), (.d (.p (.int .i64 y13.k_)))])]) ?_ ?_
      · exact impl_namer_anf.ev hy14
      refine bindG h fun y15 hy16 h => ?_
      refine exM ([(.own true 7 (y15.map impl_Node.e))], []) ?_ ?_
      · exact impl_flat.ev hy16
      refine goS ?_
      refine eqM ((y15.length : Int) : Int) (mLen rfl) ?_
      refine iteF h (fun c17 h => ?_) (fun c17 h => ?_)
      · exact retE (enc := impl_Anf.enc) h rfl
      · refine bindG h fun y18 hy19 h => ?_
        refine exM ([(.own true 7 (y18.map impl_Node.e))], []) ?_ ?_
        · exact impl_Canon.ev hy19
        exact retE (enc := impl_Anf.enc) h rfl
def laws_eqNode.enc (r : Bool) : Res := ([(.d (.p (.bool r)))], [])
def laws_eqNode.f  (K : Nat) (a0 : impl_Node) (a1 : impl_Node) : Option (Bool) := if (!(decide (a0.Kind = a1.Kind))) = true then (some false) else (if (!(decide (a0.A = a1.A))) = true then (some false) else (if (!(decide (a0.B = a1.B))) = true then (some false) else (if (!(decide (a0.C = a1.C))) = true then (some false) else (if (!(decide (a0.N = a1.N))) = true then (some false) else (if (!(a0.Name.toList == a1.Name.toList)) = true then (some false) else (if (!(a0.Other.toList == a1.Other.toList)) = true then (some false) else (some true)))))))
theorem laws_eqNode.ev   {K : Nat} {a0 : impl_Node} {a1 : impl_Node} {r : Bool} (h : laws_eqNode.f  K a0 a1 = some r) : E 33 [(.agg (a0.e.map .d)), (.agg (a1.e.map .d))] = some ([(.d (.p (.bool r)))], []) := by
  refine Ev_intro (fn := Tryz.f33) rfl (by kernel_rfl) (c := _) rfl ⟨rfl, by simp⟩ rfl (evP_spec _ ?_)
  unfold laws_eqNode.f at h
  refine goS ?_
  try ((with_reducible apply cdX); exact rfl)
  refine ifB h (fun c1 h => ?_) (fun c1 h => ?_)
  · exact retE (enc := laws_eqNode.enc) h rfl
  · refine goS ?_
    try ((with_reducible apply cdX); exact rfl)
    refine ifB h (fun c2 h => ?_) (fun c2 h => ?_)
    · exact retE (enc := laws_eqNode.enc) h rfl
    · refine goS ?_
      try ((with_reducible apply cdX); exact rfl)
      refine ifB h (fun c3 h => ?_) (fun c3 h => ?_)
      · exact retE (enc := laws_eqNode.enc) h rfl
      · refine goS ?_
        try ((with_reducible apply cdX); exact rfl)
        refine ifB h (fun c4 h => ?_) (fun c4 h => ?_)
        · exact retE (enc := laws_eqNode.enc) h rfl
        · refine goS ?_
          try ((with_reducible apply cdX); exact rfl)
          refine ifB h (fun c5 h => ?_) (fun c5 h => ?_)
          · exact retE (enc := laws_eqNode.enc) h rfl
          · refine goS ?_
            try ((with_reducible apply cdX); exact rfl)
            refine ifB h (fun c6 h => ?_) (fun c6 h => ?_)
            · exact retE (enc := laws_eqNode.enc) h rfl
            · refine goS ?_
              try ((with_reducible apply cdX); exact rfl)
              refine ifB h (fun c7 h => ?_) (fun c7 h => ?_)
              · exact retE (enc := laws_eqNode.enc) h rfl
              · exact retE (enc := laws_eqNode.enc) h rfl
def laws_eqNodeS.enc (r : Bool) : Res := ([(.d (.p (.bool r)))], [])
def laws_eqNodeS.en (a0 : List impl_Node) (a1 : List impl_Node) (r : Bool) (S : St) : Prop := endV tb md 15 Tryz.f15 [(.d (.l true 7 (a0.map impl_Node.e))), (.d (.l true 7 (a1.map impl_Node.e)))] .ret S = some (laws_eqNodeS.enc r)
def laws_eqNodeS.l0 (a0 : List impl_Node) (a1 : List impl_Node) (K : Nat) : Nat → Int → Option (Bool ⊕ Unit)
  | 0, _ => none
  | k + 1, v2 => if v2 < (a0.length : Int) then ((at_ a0 v2).bind fun x4 => ((at_ a1 v2).bind fun x5 => ((laws_eqNode.f K x4 x5).bind fun y6 => (if (!y6) = true then (some (.inl false)) else (laws_eqNodeS.l0 a0 a1 K k (w64 (v2 + 1))))))) else (some (.inr ()))
def laws_eqNodeS.f  (K : Nat) (a0 : List impl_Node) (a1 : List impl_Node) : Option (Bool) := if (!(decide ((a0.length : Int) = (a1.length : Int)))) = true then (some false) else (jn (fun (_ : Unit) => some true) (fun j => lb (laws_eqNodeS.l0 a0 a1 K K 0) (fun r => some r) (fun (_ : Unit) => j ())))
theorem laws_eqNodeS.ev   {K : Nat} {a0 : List impl_Node} {a1 : List impl_Node} {r : Bool} (h : laws_eqNodeS.f  K a0 a1 = some r) : E 15 [(.d (.l true 7 (a0.map impl_Node.e))), (.d (.l true 7 (a1.map impl_Node.e)))] = some ([(.d (.p (.bool r)))], []) := by
  refine Ev_intro (fn := Tryz.f15) rfl (by kernel_rfl) (c := _) rfl ⟨rfl, by simp⟩ rfl (evP_spec _ ?_)
  unfold laws_eqNodeS.f at h
  refine goS ?_
  refine eqM ((a0.length : Int) : Int) (mLen rfl) ?_
  refine eqM ((a1.length : Int) : Int) (mLen rfl) ?_
  refine ifB h (fun c1 h => ?_) (fun c1 h => ?_)
  · exact retE (enc := laws_eqNodeS.enc) h rfl
  · refine seqJ h 27 (fun x => []) (fun x => []) (fun J h => ?_) ?_
    · refine loopB (α := Int) (a := 0) 27 (fun x => [(0, (.d (.l true 7 (a0.map impl_Node.e)))), (1, (.d (.l true 7 (a1.map impl_Node.e)))), (5, (.d (.p (.int .i64 x))))]) (fun x => []) (fun k x => laws_eqNodeS.l0 a0 a1 K k x) (laws_eqNodeS.en a0 a1) 0 (fun x => []) (fun x => []) h (fun _ => rfl) ?_ ⟨rfl, ⟨rfl, rfl, rfl, trivial⟩, trivial⟩ ?_ ?_
      · rintro k v2 r h e hp
        replace h : laws_eqNodeS.l0 a0 a1 K (k + 1) v2 = some r := h
        unfold laws_eqNodeS.l0 at h
        refine goS ?_
        refine eqM ((a0.length : Int) : Int) (mLen rfl) ?_
        refine iteF h (fun c3 h => ?_) (fun c3 h => ?_)
        · refine goS ?_
          refine ⟨[[], [], [23, 24], [23, 24], [], [], [19, 20], [19, 20], [], []], [], by kernel_rfl, ?_⟩
          refine bindG h fun x4 hx4 h => ?_
          refine anM (at_ix rfl hx4) ?_
          refine exM (impl_Node.e x4) (at_get rfl hx4) ?_
          refine bindG h fun x5 hx5 h => ?_
          refine anM (at_ix rfl hx5) ?_
          refine exM (impl_Node.e x5) (at_get rfl hx5) ?_
          refine bindG h fun y6 hy7 h => ?_
          refine exM ([(.d (.p (.bool y6)))], []) ?_ ?_
          · exact laws_eqNode.ev hy7
          refine ifB h (fun c8 h => ?_) (fun c8 h => ?_)
          · exact lqL h rfl
          · exact ⟨(w64 (v2 + 1)), h, ⟨rfl, ⟨rfl, rfl, rfl, trivial⟩, trivial⟩⟩
        · refine lqR h ?_
          exact ⟨rfl, trivial, trivial⟩
      · intro r' S' h q
        exact retE (enc := laws_eqNodeS.enc) h q
      · rintro _ S' h ⟨qn, ⟨_⟩, ⟨_⟩⟩
        exact ⟨(), h, ⟨qn, trivial, trivial⟩⟩
    · rintro _ h e hp
      exact retE (enc := laws_eqNodeS.enc) h rfl
def laws_markText.enc (r : ByteArray) : Res := ([(.d (.p (.string r)))], [])
def laws_markText.l0 (K : Nat) : Nat → Int → ByteArray → Option (ByteArray)
  | 0, _, _ => none
  | k + 1, v3, v4 => if v3 > 0 then (gd ((strOfNums ([(IntKind.u8.wrap (w64 (48 + (Int.tmod v3 10))))] : List Int)).size + v4.size ≤ 9223372036854775807) (laws_markText.l0 K k (w64 (Int.tdiv v3 10)) ((strOfNums ([(IntKind.u8.wrap (w64 (48 + (Int.tmod v3 10))))] : List Int)) ++ v4))) else (some v4)
def laws_markText.f  (K : Nat) (a0 : Int) : Option (ByteArray) := if a0 ≤ 0 then (some (⟨#[109, 48]⟩ : ByteArray)) else (jn (fun (v2 : ByteArray) => gd ((⟨#[109]⟩ : ByteArray).size + v2.size ≤ 9223372036854775807) (some ((⟨#[109]⟩ : ByteArray) ++ v2))) (fun j => (laws_markText.l0 K K a0 (⟨#[]⟩ : ByteArray)).bind fun (v5 : ByteArray) => j v5))
theorem laws_markText.ev   {K : Nat} {a0 : Int} {r : ByteArray} (h : laws_markText.f  K a0 = some r) : E 34 [(.d (.p (.int .i64 a0)))] = some ([(.d (.p (.string r)))], []) := by
  refine Ev_intro (fn := Tryz.f34) rfl (by kernel_rfl) (c := _) rfl ⟨rfl, by simp⟩ rfl (evP_spec _ ?_)
  unfold laws_markText.f at h
  refine goS ?_
  try ((with_reducible apply cdX); exact rfl)
  refine iteF h (fun c1 h => ?_) (fun c1 h => ?_)
  · exact retE (enc := laws_markText.enc) h rfl
  · refine seqJ h 20 (fun x => [(3, (.d (.p (.string x))))]) (fun x => []) (fun J h => ?_) ?_
    · refine loopX (α := Int × ByteArray) (a := (a0, (⟨#[]⟩ : ByteArray))) 20 (fun x => [(0, (.d (.p (.int .i64 x.1)))), (3, (.d (.p (.string x.2))))]) (fun x => []) (fun k x => laws_markText.l0 K k x.1 x.2) 0 (fun x => [(3, (.d (.p (.string x))))]) (fun x => []) h (fun _ => rfl) ?_ ⟨rfl, ⟨rfl, rfl, trivial⟩, trivial⟩ ?_
      · rintro k ⟨v3, v4⟩ r h e hp
        replace h : laws_markText.l0 K (k + 1) v3 v4 = some r := h
        unfold laws_markText.l0 at h
        refine goS ?_
        try ((with_reducible apply cdX); exact rfl)
        refine iteF h (fun c6 h => ?_) (fun c6 h => ?_)
        · refine anM (by decide) ?_
          refine eqM (([(IntKind.u8.wrap (w64 (48 + (Int.tmod v3 10))))] : List Int).map eY) rfl ?_
          refine exM ([(IntKind.u8.wrap (w64 (48 + (Int.tmod v3 10))))] : List Int) (numsOf_map _) ?_
          refine gdG h fun hc h => ?_
          refine anM hc ?_
          refine anM (by decide) ?_
          exact ⟨((w64 (Int.tdiv v3 10)), ((strOfNums ([(IntKind.u8.wrap (w64 (48 + (Int.tmod v3 10))))] : List Int)) ++ v4)), h, ⟨rfl, ⟨rfl, rfl, trivial⟩, trivial⟩⟩
        · refine exQ h ?_
          exact ⟨rfl, ⟨rfl, trivial⟩, trivial⟩
      · rintro v5 S' h ⟨qn, ⟨qa0, _⟩, ⟨_⟩⟩
        exact ⟨v5, h, ⟨qn, ⟨qa0, trivial⟩, trivial⟩⟩
    · rintro v2 h e hp
      refine gdG h fun hc h => ?_
      refine anM hc ?_
      exact retE (enc := laws_markText.enc) h rfl
def laws_markNodeS.enc (r : Int × List impl_Node) : Res := ([(.d (.p (.int .i64 r.1)))], [(.own true 7 (r.2.map impl_Node.e))])
def laws_markNodeS.l0 (K : Nat) : Nat → Int → Int → (List impl_Node) → Option (Int × List impl_Node)
  | 0, _, _, _ => none
  | k + 1, v3, v4, v5 => if v4 < (v5.length : Int) then ((at_ v5 v4).bind fun x9 => ((at_ (v5.set (v4).toNat (⟨v3, x9.A, x9.B, x9.C, x9.N, x9.Name, x9.Other⟩ : impl_Node)) v4).bind fun x10 => ((at_ ((v5.set (v4).toNat (⟨v3, x9.A, x9.B, x9.C, x9.N, x9.Name, x9.Other⟩ : impl_Node)).set (v4).toNat (⟨x10.Kind, (w64 (v3 + 1)), x10.B, x10.C, x10.N, x10.Name, x10.Other⟩ : impl_Node)) v4).bind fun x11 => ((at_ (((v5.set (v4).toNat (⟨v3, x9.A, x9.B, x9.C, x9.N, x9.Name, x9.Other⟩ : impl_Node)).set (v4).toNat (⟨x10.Kind, (w64 (v3 + 1)), x10.B, x10.C, x10.N, x10.Name, x10.Other⟩ : impl_Node)).set (v4).toNat (⟨x11.Kind, x11.A, (w64 ((w64 (v3 + 1)) + 1)), x11.C, x11.N, x11.Name, x11.Other⟩ : impl_Node)) v4).bind fun x12 => ((at_ ((((v5.set (v4).toNat (⟨v3, x9.A, x9.B, x9.C, x9.N, x9.Name, x9.Other⟩ : impl_Node)).set (v4).toNat (⟨x10.Kind, (w64 (v3 + 1)), x10.B, x10.C, x10.N, x10.Name, x10.Other⟩ : impl_Node)).set (v4).toNat (⟨x11.Kind, x11.A, (w64 ((w64 (v3 + 1)) + 1)), x11.C, x11.N, x11.Name, x11.Other⟩ : impl_Node)).set (v4).toNat (⟨x12.Kind, x12.A, x12.B, (w64 ((w64 ((w64 (v3 + 1)) + 1)) + 1)), x12.N, x12.Name, x12.Other⟩ : impl_Node)) v4).bind fun x13 => ((laws_markText.f K (w64 ((w64 ((w64 ((w64 ((w64 (v3 + 1)) + 1)) + 1)) + 1)) + 1))).bind fun y14 => ((at_ (((((v5.set (v4).toNat (⟨v3, x9.A, x9.B, x9.C, x9.N, x9.Name, x9.Other⟩ : impl_Node)).set (v4).toNat (⟨x10.Kind, (w64 (v3 + 1)), x10.B, x10.C, x10.N, x10.Name, x10.Other⟩ : impl_Node)).set (v4).toNat (⟨x11.Kind, x11.A, (w64 ((w64 (v3 + 1)) + 1)), x11.C, x11.N, x11.Name, x11.Other⟩ : impl_Node)).set (v4).toNat (⟨x12.Kind, x12.A, x12.B, (w64 ((w64 ((w64 (v3 + 1)) + 1)) + 1)), x12.N, x12.Name, x12.Other⟩ : impl_Node)).set (v4).toNat (⟨x13.Kind, x13.A, x13.B, x13.C, (w64 ((w64 ((w64 ((w64 (v3 + 1)) + 1)) + 1)) + 1)), x13.Name, x13.Other⟩ : impl_Node)) v4).bind fun x16 => ((laws_markText.f K (w64 ((w64 ((w64 ((w64 ((w64 ((w64 (v3 + 1)) + 1)) + 1)) + 1)) + 1)) + 1))).bind fun y17 => ((at_ ((((((v5.set (v4).toNat (⟨v3, x9.A, x9.B, x9.C, x9.N, x9.Name, x9.Other⟩ : impl_Node)).set (v4).toNat (⟨x10.Kind, (w64 (v3 + 1)), x10.B, x10.C, x10.N, x10.Name, x10.Other⟩ : impl_Node)).set (v4).toNat (⟨x11.Kind, x11.A, (w64 ((w64 (v3 + 1)) + 1)), x11.C, x11.N, x11.Name, x11.Other⟩ : impl_Node)).set (v4).toNat (⟨x12.Kind, x12.A, x12.B, (w64 ((w64 ((w64 (v3 + 1)) + 1)) + 1)), x12.N, x12.Name, x12.Other⟩ : impl_Node)).set (v4).toNat (⟨x13.Kind, x13.A, x13.B, x13.C, (w64 ((w64 ((w64 ((w64 (v3 + 1)) + 1)) + 1)) + 1)), x13.Name, x13.Other⟩ : impl_Node)).set (v4).toNat (⟨x16.Kind, x16.A, x16.B, x16.C, x16.N, y14, x16.Other⟩ : impl_Node)) v4).bind fun x19 => (laws_markNodeS.l0 K k (w64 ((w64 ((w64 ((w64 ((w64 ((w64 ((w64 (v3 + 1)) + 1)) + 1)) + 1)) + 1)) + 1)) + 1)) (w64 (v4 + 1)) (((((((v5.set (v4).toNat (⟨v3, x9.A, x9.B, x9.C, x9.N, x9.Name, x9.Other⟩ : impl_Node)).set (v4).toNat (⟨x10.Kind, (w64 (v3 + 1)), x10.B, x10.C, x10.N, x10.Name, x10.Other⟩ : impl_Node)).set (v4).toNat (⟨x11.Kind, x11.A, (w64 ((w64 (v3 + 1)) + 1)), x11.C, x11.N, x11.Name, x11.Other⟩ : impl_Node)).set (v4).toNat (⟨x12.Kind, x12.A, x12.B, (w64 ((w64 ((w64 (v3 + 1)) + 1)) + 1)), x12.N, x12.Name, x12.Other⟩ : impl_Node)).set (v4).toNat (⟨x13.Kind, x13.A, x13.B, x13.C, (w64 ((w64 ((w64 ((w64 (v3 + 1)) + 1)) + 1)) + 1)), x13.Name, x13.Other⟩ : impl_Node)).set (v4).toNat (⟨x16.Kind, x16.A, x16.B, x16.C, x16.N, y14, x16.Other⟩ : impl_Node)).set (v4).toNat (⟨x19.Kind, x19.A, x19.B, x19.C, x19.N, x19.Name, y17⟩ : impl_Node)))))))))))) else (some (v3, v5))
def laws_markNodeS.f  (K : Nat) (a0 : List impl_Node) (a1 : Int) : Option (Int × List impl_Node) := jn (fun (v1, v2) => some (v1, v2)) (fun j => (laws_markNodeS.l0 K K a1 0 a0).bind fun (v6, v7) => j (v6, v7))
theorem laws_markNodeS.ev   {K : Nat} {a0 : List impl_Node} {a1 : Int} {r : Int × List impl_Node} (h : laws_markNodeS.f  K a0 a1 = some r) : E 16 [(.lend true 7 (a0.map impl_Node.e)), (.d (.p (.int .i64 a1)))] = some ([(.d (.p (.int .i64 r.1)))], [(.own true 7 (r.2.map impl_Node.e))]) := by
  refine Ev_intro (fn := Tryz.f16) rfl (by kernel_rfl) (c := _) rfl ⟨rfl, by simp⟩ rfl (evP_spec _ ?_)
  unfold laws_markNodeS.f at h
  refine seqJ h 64 (fun x => [(1, (.d (.p (.int .i64 x.1))))]) (fun x => [(64, 0, 1, (some (.row true true 7 (x.2.map impl_Node.e))))]) (fun J h => ?_) ?_
  · refine loopX (α := Int × Int × List impl_Node) (a := (a1, 0, a0)) 64 (fun x => [(0, (.own 64 0 1)), (1, (.d (.p (.int .i64 x.1)))), (5, (.d (.p (.int .i64 x.2.1))))]) (fun x => [(64, 0, 1, (some (.row true true 7 (x.2.2.map impl_Node.e))))]) (fun k x => laws_markNodeS.l0 K k x.1 x.2.1 x.2.2) 0 (fun x => [(1, (.d (.p (.int .i64 x.1))))]) (fun x => [(64, 0, 1, (some (.row true true 7 (x.2.map impl_Node.e))))]) h (fun _ => rfl) ?_ ⟨rfl, ⟨rfl, rfl, rfl, trivial⟩, ⟨rfl, trivial⟩⟩ ?_
    · rintro k ⟨v3, v4, v5⟩ r h e hp
      replace h : laws_markNodeS.l0 K (k + 1) v3 v4 v5 = some r := h
      unfold laws_markNodeS.l0 at h
      refine goS ?_
      refine eqM ((v5.length : Int) : Int) (mLen rfl) ?_
      refine iteF h (fun c8 h => ?_) (fun c8 h => ?_)
      · refine goS ?_
        refine goS ?_
        refine bindG h fun x9 hx9 h => ?_
        refine anM (at_ix rfl hx9) ?_
        refine anM (at_lt rfl hx9) ?_
        refine exM (impl_Node.e x9) (at_get rfl hx9) ?_
        refine eqM ((v5.set (v4).toNat (⟨v3, x9.A, x9.B, x9.C, x9.N, x9.Name, x9.Other⟩ : impl_Node)).map impl_Node.e) (mSet rfl rfl) ?_
        refine goS ?_
        refine bindG h fun x10 hx10 h => ?_
        refine anM (at_ix rfl hx10) ?_
        refine anM (at_lt rfl hx10) ?_
        refine exM (impl_Node.e x10) (at_get rfl hx10) ?_
        refine eqM (((v5.set (v4).toNat (⟨v3, x9.A, x9.B, x9.C, x9.N, x9.Name, x9.Other⟩ : impl_Node)).set (v4).toNat (⟨x10.Kind, (w64 (v3 + 1)), x10.B, x10.C, x10.N, x10.Name, x10.Other⟩ : impl_Node)).map impl_Node.e) (mSet rfl rfl) ?_
        refine goR ?_
        refine bindG h fun x11 hx11 h => ?_
        refine anM (at_ix rfl hx11) ?_
        refine anM (at_lt rfl hx11) ?_
        refine exM (impl_Node.e x11) (at_get rfl hx11) ?_
        refine eqM ((((v5.set (v4).toNat (⟨v3, x9.A, x9.B, x9.C, x9.N, x9.Name, x9.Other⟩ : impl_Node)).set (v4).toNat (⟨x10.Kind, (w64 (v3 + 1)), x10.B, x10.C, x10.N, x10.Name, x10.Other⟩ : impl_Node)).set (v4).toNat (⟨x11.Kind, x11.A, (w64 ((w64 (v3 + 1)) + 1)), x11.C, x11.N, x11.Name, x11.Other⟩ : impl_Node)).map impl_Node.e) (mSet rfl rfl) ?_
        refine Re.mk 64 [(0, (.own 64 0 1)), (1, (.d (.p (.int .i64 (w64 ((w64 (v3 + 1)) + 1)))))), (5, (.d (.p (.int .i64 v4))))] [(64, 0, 1, (some (.row true true 7 ((((v5.set (v4).toNat (⟨v3, x9.A, x9.B, x9.C, x9.N, x9.Name, x9.Other⟩ : impl_Node)).set (v4).toNat (⟨x10.Kind, (w64 (v3 + 1)), x10.B, x10.C, x10.N, x10.Name, x10.Other⟩ : impl_Node)).set (v4).toNat (⟨x11.Kind, x11.A, (w64 ((w64 (v3 + 1)) + 1)), x11.C, x11.N, x11.Name, x11.Other⟩ : impl_Node)).map impl_Node.e))))] (by exact ⟨rfl, ⟨rfl, rfl, rfl, trivial⟩, ⟨rfl, trivial⟩⟩) ?_
        intro e hp
        refine goS ?_
        refine bindG h fun x12 hx12 h => ?_
        refine anM (at_ix rfl hx12) ?_
        refine anM (at_lt rfl hx12) ?_
        refine exM (impl_Node.e x12) (at_get rfl hx12) ?_
        refine eqM (((((v5.set (v4).toNat (⟨v3, x9.A, x9.B, x9.C, x9.N, x9.Name, x9.Other⟩ : impl_Node)).set (v4).toNat (⟨x10.Kind, (w64 (v3 + 1)), x10.B, x10.C, x10.N, x10.Name, x10.Other⟩ : impl_Node)).set (v4).toNat (⟨x11.Kind, x11.A, (w64 ((w64 (v3 + 1)) + 1)), x11.C, x11.N, x11.Name, x11.Other⟩ : impl_Node)).set (v4).toNat (⟨x12.Kind, x12.A, x12.B, (w64 ((w64 ((w64 (v3 + 1)) + 1)) + 1)), x12.N, x12.Name, x12.Other⟩ : impl_Node)).map impl_Node.e) (mSet rfl rfl) ?_
        refine goS ?_
        refine bindG h fun x13 hx13 h => ?_
        refine anM (at_ix rfl hx13) ?_
        refine anM (at_lt rfl hx13) ?_
        refine exM (impl_Node.e x13) (at_get rfl hx13) ?_
        refine eqM ((((((v5.set (v4).toNat (⟨v3, x9.A, x9.B, x9.C, x9.N, x9.Name, x9.Other⟩ : impl_Node)).set (v4).toNat (⟨x10.Kind, (w64 (v3 + 1)), x10.B, x10.C, x10.N, x10.Name, x10.Other⟩ : impl_Node)).set (v4).toNat (⟨x11.Kind, x11.A, (w64 ((w64 (v3 + 1)) + 1)), x11.C, x11.N, x11.Name, x11.Other⟩ : impl_Node)).set (v4).toNat (⟨x12.Kind, x12.A, x12.B, (w64 ((w64 ((w64 (v3 + 1)) + 1)) + 1)), x12.N, x12.Name, x12.Other⟩ : impl_Node)).set (v4).toNat (⟨x13.Kind, x13.A, x13.B, x13.C, (w64 ((w64 ((w64 ((w64 (v3 + 1)) + 1)) + 1)) + 1)), x13.Name, x13.Other⟩ : impl_Node)).map impl_Node.e) (mSet rfl rfl) ?_
        refine goR ?_
        refine bindG h fun y14 hy15 h => ?_
        refine exM ([(.d (.p (.string y14)))], []) ?_ ?_
        · exact laws_markText.ev hy15
        refine bindG h fun x16 hx16 h => ?_
        refine anM (at_ix rfl hx16) ?_
        refine anM (at_lt rfl hx16) ?_
        refine exM (impl_Node.e x16) (at_get rfl hx16) ?_
        refine eqM (((((((v5.set (v4).toNat (⟨v3, x9.A, x9.B, x9.C, x9.N, x9.Name, x9.Other⟩ : impl_Node)).set (v4).toNat (⟨x10.Kind, (w64 (v3 + 1)), x10.B, x10.C, x10.N, x10.Name, x10.Other⟩ : impl_Node)).set (v4).toNat (⟨x11.Kind, x11.A, (w64 ((w64 (v3 + 1)) + 1)), x11.C, x11.N, x11.Name, x11.Other⟩ : impl_Node)).set (v4).toNat (⟨x12.Kind, x12.A, x12.B, (w64 ((w64 ((w64 (v3 + 1)) + 1)) + 1)), x12.N, x12.Name, x12.Other⟩ : impl_Node)).set (v4).toNat (⟨x13.Kind, x13.A, x13.B, x13.C, (w64 ((w64 ((w64 ((w64 (v3 + 1)) + 1)) + 1)) + 1)), x13.Name, x13.Other⟩ : impl_Node)).set (v4).toNat (⟨x16.Kind, x16.A, x16.B, x16.C, x16.N, y14, x16.Other⟩ : impl_Node)).map impl_Node.e) (mSet rfl rfl) ?_
        refine Re.mk 64 [(0, (.own 64 0 1)), (1, (.d (.p (.int .i64 (w64 ((w64 ((w64 ((w64 ((w64 (v3 + 1)) + 1)) + 1)) + 1)) + 1)))))), (5, (.d (.p (.int .i64 v4))))] [(64, 0, 1, (some (.row true true 7 (((((((v5.set (v4).toNat (⟨v3, x9.A, x9.B, x9.C, x9.N, x9.Name, x9.Other⟩ : impl_Node)).set (v4).toNat (⟨x10.Kind, (w64 (v3 + 1)), x10.B, x10.C, x10.N, x10.Name, x10.Other⟩ : impl_Node)).set (v4).toNat (⟨x11.Kind, x11.A, (w64 ((w64 (v3 + 1)) + 1)), x11.C, x11.N, x11.Name, x11.Other⟩ : impl_Node)).set (v4).toNat (⟨x12.Kind, x12.A, x12.B, (w64 ((w64 ((w64 (v3 + 1)) + 1)) + 1)), x12.N, x12.Name, x12.Other⟩ : impl_Node)).set (v4).toNat (⟨x13.Kind, x13.A, x13.B, x13.C, (w64 ((w64 ((w64 ((w64 (v3 + 1)) + 1)) + 1)) + 1)), x13.Name, x13.Other⟩ : impl_Node)).set (v4).toNat (⟨x16.Kind, x16.A, x16.B, x16.C, x16.N, y14, x16.Other⟩ : impl_Node)).map impl_Node.e))))] (by exact ⟨rfl, ⟨rfl, rfl, rfl, trivial⟩, ⟨rfl, trivial⟩⟩) ?_
        intro e hp
        refine goS ?_
        refine bindG h fun y17 hy18 h => ?_
        refine exM ([(.d (.p (.string y17)))], []) ?_ ?_
        · exact laws_markText.ev hy18
        refine bindG h fun x19 hx19 h => ?_
        refine anM (at_ix rfl hx19) ?_
        refine anM (at_lt rfl hx19) ?_
        refine exM (impl_Node.e x19) (at_get rfl hx19) ?_
        refine eqM ((((((((v5.set (v4).toNat (⟨v3, x9.A, x9.B, x9.C, x9.N, x9.Name, x9.Other⟩ : impl_Node)).set (v4).toNat (⟨x10.Kind, (w64 (v3 + 1)), x10.B, x10.C, x10.N, x10.Name, x10.Other⟩ : impl_Node)).set (v4).toNat (⟨x11.Kind, x11.A, (w64 ((w64 (v3 + 1)) + 1)), x11.C, x11.N, x11.Name, x11.Other⟩ : impl_Node)).set (v4).toNat (⟨x12.Kind, x12.A, x12.B, (w64 ((w64 ((w64 (v3 + 1)) + 1)) + 1)), x12.N, x12.Name, x12.Other⟩ : impl_Node)).set (v4).toNat (⟨x13.Kind, x13.A, x13.B, x13.C, (w64 ((w64 ((w64 ((w64 (v3 + 1)) + 1)) + 1)) + 1)), x13.Name, x13.Other⟩ : impl_Node)).set (v4).toNat (⟨x16.Kind, x16.A, x16.B, x16.C, x16.N, y14, x16.Other⟩ : impl_Node)).set (v4).toNat (⟨x19.Kind, x19.A, x19.B, x19.C, x19.N, x19.Name, y17⟩ : impl_Node)).map impl_Node.e) (mSet rfl rfl) ?_
        exact ⟨((w64 ((w64 ((w64 ((w64 ((w64 ((w64 ((w64 (v3 + 1)) + 1)) + 1)) + 1)) + 1)) + 1)) + 1)), (w64 (v4 + 1)), (((((((v5.set (v4).toNat (⟨v3, x9.A, x9.B, x9.C, x9.N, x9.Name, x9.Other⟩ : impl_Node)).set (v4).toNat (⟨x10.Kind, (w64 (v3 + 1)), x10.B, x10.C, x10.N, x10.Name, x10.Other⟩ : impl_Node)).set (v4).toNat (⟨x11.Kind, x11.A, (w64 ((w64 (v3 + 1)) + 1)), x11.C, x11.N, x11.Name, x11.Other⟩ : impl_Node)).set (v4).toNat (⟨x12.Kind, x12.A, x12.B, (w64 ((w64 ((w64 (v3 + 1)) + 1)) + 1)), x12.N, x12.Name, x12.Other⟩ : impl_Node)).set (v4).toNat (⟨x13.Kind, x13.A, x13.B, x13.C, (w64 ((w64 ((w64 ((w64 (v3 + 1)) + 1)) + 1)) + 1)), x13.Name, x13.Other⟩ : impl_Node)).set (v4).toNat (⟨x16.Kind, x16.A, x16.B, x16.C, x16.N, y14, x16.Other⟩ : impl_Node)).set (v4).toNat (⟨x19.Kind, x19.A, x19.B, x19.C, x19.N, x19.Name, y17⟩ : impl_Node))), h, ⟨rfl, ⟨rfl, rfl, rfl, trivial⟩, ⟨rfl, trivial⟩⟩⟩
      · refine exQ h ?_
        exact ⟨rfl, ⟨rfl, trivial⟩, ⟨rfl, trivial⟩⟩
    · rintro ⟨v6, v7⟩ S' h ⟨qn, ⟨qa0, _⟩, ⟨qb0, _⟩⟩
      exact ⟨(v6, v7), h, ⟨qn, ⟨qa0, trivial⟩, ⟨qb0, trivial⟩⟩⟩
  · rintro ⟨v1, v2⟩ h e hp
    exact retE (enc := laws_markNodeS.enc) h rfl
def laws_heldNodeS.enc (r : Int) : Res := ([(.d (.p (.int .i64 r)))], [])
def laws_heldNodeS.en (a0 : List impl_Node) (a1 : Int) (r : Int) (S : St) : Prop := endV tb md 17 Tryz.f17 [(.d (.l true 7 (a0.map impl_Node.e))), (.d (.p (.int .i64 a1)))] .ret S = some (laws_heldNodeS.enc r)
def laws_heldNodeS.l0 (a0 : List impl_Node) (K : Nat) : Nat → Int → Int → Option (Int ⊕ Int)
  | 0, _, _ => none
  | k + 1, v2, v3 => if v3 < (a0.length : Int) then ((at_ a0 v3).bind fun x6 => (if (!(decide (x6.Kind = v2))) = true then (some (.inl (-1))) else (if (!(decide (x6.A = (w64 (v2 + 1))))) = true then (some (.inl (-1))) else (if (!(decide (x6.B = (w64 ((w64 (v2 + 1)) + 1))))) = true then (some (.inl (-1))) else (if (!(decide (x6.C = (w64 ((w64 ((w64 (v2 + 1)) + 1)) + 1))))) = true then (some (.inl (-1))) else (if (!(decide (x6.N = (w64 ((w64 ((w64 ((w64 (v2 + 1)) + 1)) + 1)) + 1))))) = true then (some (.inl (-1))) else ((laws_markText.f K (w64 ((w64 ((w64 ((w64 ((w64 (v2 + 1)) + 1)) + 1)) + 1)) + 1))).bind fun y12 => (if (!(x6.Name.toList == y12.toList)) = true then (some (.inl (-1))) else ((laws_markText.f K (w64 ((w64 ((w64 ((w64 ((w64 ((w64 (v2 + 1)) + 1)) + 1)) + 1)) + 1)) + 1))).bind fun y15 => (if (!(x6.Other.toList == y15.toList)) = true then (some (.inl (-1))) else (laws_heldNodeS.l0 a0 K k (w64 ((w64 ((w64 ((w64 ((w64 ((w64 ((w64 (v2 + 1)) + 1)) + 1)) + 1)) + 1)) + 1)) + 1)) (w64 (v3 + 1))))))))))))) else (some (.inr v2))
def laws_heldNodeS.f  (K : Nat) (a0 : List impl_Node) (a1 : Int) : Option (Int) := jn (fun (v1 : Int) => some v1) (fun j => lb (laws_heldNodeS.l0 a0 K K a1 0) (fun r => some r) (fun (v4 : Int) => j v4))
theorem laws_heldNodeS.ev   {K : Nat} {a0 : List impl_Node} {a1 : Int} {r : Int} (h : laws_heldNodeS.f  K a0 a1 = some r) : E 17 [(.d (.l true 7 (a0.map impl_Node.e))), (.d (.p (.int .i64 a1)))] = some ([(.d (.p (.int .i64 r)))], []) := by
  refine Ev_intro (fn := Tryz.f17) rfl (by kernel_rfl) (c := _) rfl ⟨rfl, by simp⟩ rfl (evP_spec _ ?_)
  unfold laws_heldNodeS.f at h
  refine seqJ h 78 (fun x => [(1, (.d (.p (.int .i64 x))))]) (fun x => []) (fun J h => ?_) ?_
  · refine loopB (α := Int × Int) (a := (a1, 0)) 78 (fun x => [(0, (.d (.l true 7 (a0.map impl_Node.e)))), (1, (.d (.p (.int .i64 x.1)))), (5, (.d (.p (.int .i64 x.2))))]) (fun x => []) (fun k x => laws_heldNodeS.l0 a0 K k x.1 x.2) (laws_heldNodeS.en a0 a1) 0 (fun x => [(1, (.d (.p (.int .i64 x))))]) (fun x => []) h (fun _ => rfl) ?_ ⟨rfl, ⟨rfl, rfl, rfl, trivial⟩, trivial⟩ ?_ ?_
    · rintro k ⟨v2, v3⟩ r h e hp
      replace h : laws_heldNodeS.l0 a0 K (k + 1) v2 v3 = some r := h
      unfold laws_heldNodeS.l0 at h
      refine goS ?_
      refine eqM ((a0.length : Int) : Int) (mLen rfl) ?_
      refine iteF h (fun c5 h => ?_) (fun c5 h => ?_)
      · refine goS ?_
        refine goS ?_
        refine bindG h fun x6 hx6 h => ?_
        refine anM (at_ix rfl hx6) ?_
        refine exM (impl_Node.e x6) (at_get rfl hx6) ?_
        refine ifB h (fun c7 h => ?_) (fun c7 h => ?_)
        · exact lqL h rfl
        · refine goS ?_
          refine anM (at_ix rfl hx6) ?_
          refine exM (impl_Node.e x6) (at_get rfl hx6) ?_
          refine ifB h (fun c8 h => ?_) (fun c8 h => ?_)
          · exact lqL h rfl
          · refine goS ?_
            refine anM (at_ix rfl hx6) ?_
            refine exM (impl_Node.e x6) (at_get rfl hx6) ?_
            refine ifB h (fun c9 h => ?_) (fun c9 h => ?_)
            · exact lqL h rfl
            · refine goS ?_
              refine anM (at_ix rfl hx6) ?_
              refine exM (impl_Node.e x6) (at_get rfl hx6) ?_
              refine ifB h (fun c10 h => ?_) (fun c10 h => ?_)
              · exact lqL h rfl
              · refine goS ?_
                refine anM (at_ix rfl hx6) ?_
                refine exM (impl_Node.e x6) (at_get rfl hx6) ?_
                refine ifB h (fun c11 h => ?_) (fun c11 h => ?_)
                · exact lqL h rfl
                · refine goS ?_
                  refine ⟨[[], [], [63], [63], [63], [], [59, 60, 61], []], [], by kernel_rfl, ?_⟩
                  refine anM (at_ix rfl hx6) ?_
                  refine exM (impl_Node.e x6) (at_get rfl hx6) ?_
                  refine bindG h fun y12 hy13 h => ?_
                  refine exM ([(.d (.p (.string y12)))], []) ?_ ?_
                  · exact laws_markText.ev hy13
                  refine ifB h (fun c14 h => ?_) (fun c14 h => ?_)
                  · exact lqL h rfl
                  · refine goS ?_
                    refine ⟨[[], [], [73], [73], [73], [], [69, 70, 71], []], [], by kernel_rfl, ?_⟩
                    refine anM (at_ix rfl hx6) ?_
                    refine exM (impl_Node.e x6) (at_get rfl hx6) ?_
                    refine bindG h fun y15 hy16 h => ?_
                    refine exM ([(.d (.p (.string y15)))], []) ?_ ?_
                    · exact laws_markText.ev hy16
                    refine ifB h (fun c17 h => ?_) (fun c17 h => ?_)
                    · exact lqL h rfl
                    · exact ⟨((w64 ((w64 ((w64 ((w64 ((w64 ((w64 ((w64 (v2 + 1)) + 1)) + 1)) + 1)) + 1)) + 1)) + 1)), (w64 (v3 + 1))), h, ⟨rfl, ⟨rfl, rfl, rfl, trivial⟩, trivial⟩⟩
      · refine lqR h ?_
        exact ⟨rfl, ⟨rfl, trivial⟩, trivial⟩
    · intro r' S' h q
      exact retE (enc := laws_heldNodeS.enc) h q
    · rintro v4 S' h ⟨qn, ⟨qa0, _⟩, ⟨_⟩⟩
      exact ⟨v4, h, ⟨qn, ⟨qa0, trivial⟩, trivial⟩⟩
  · rintro v1 h e hp
    exact retE (enc := laws_heldNodeS.enc) h rfl
def laws_FnExactAnf.enc (r : Bool) : Res := ([(.d (.p (.bool r)))], [])
def laws_FnExactAnf.f  (K : Nat) (a0 : List laws_Node) : Option (Bool) := (laws_szNodeS.f K a0 1048576).bind fun y1 => (if y1 < 0 then (some true) else ((laws_toNodeS.f K a0).bind fun y4 => ((spec_Anf.f K y4).bind fun (y6, y7) => ((laws_toNodeS.f K a0).bind fun y9 => ((impl_Anf.f K y9).bind fun (y11, y12) => (jn (fun (v14 : Bool) => if v14 = true then (some false) else ((laws_toNodeS.f K a0).bind fun y19 => ((laws_eqNodeS.f K y9 y19).bind fun y21 => (if (!y21) = true then (some false) else ((laws_markNodeS.f K y9 1).bind fun (y24, y25) => (gd (y25.length = y9.length) (jn (fun (v27 : Bool) => if v27 = true then (some false) else ((laws_markNodeS.f K y11 1).bind fun (y33, y34) => (gd (y34.length = y11.length) ((laws_heldNodeS.f K y34 1).bind fun y36 => (if y36 < 0 then (some false) else (if (!(decide (y36 = y33))) = true then (some false) else ((laws_toNodeS.f K a0).bind fun y40 => ((impl_Anf.f K y40).bind fun (y42, y43) => (jn (fun (v45 : Bool) => if v45 = true then (some false) else ((laws_heldNodeS.f K y34 1).bind fun y50 => (if y50 < 0 then (some false) else (if (!(decide (y50 = y33))) = true then (some false) else (some true))))) (fun j => (laws_eqNodeS.f K y42 y6).bind fun y46 => (if (!y46) = true then (j true) else (j (y43 != y7))))))))))))) (fun j => if y24 < 0 then (j true) else ((laws_eqNodeS.f K y11 y6).bind fun y29 => (if (!y29) = true then (j true) else (j (y12 != y7)))))))))))) (fun j => (laws_eqNodeS.f K y11 y6).bind fun y15 => (if (!y15) = true then (j true) else (j (y12 != y7))))))))))
theorem laws_FnExactAnf.ev   {K : Nat} {a0 : List laws_Node} {r : Bool} (h : laws_FnExactAnf.f  K a0 = some r) : E 4 [(.d (.l true 7 (a0.map laws_Node.e)))] = some ([(.d (.p (.bool r)))], []) := by
  refine Ev_intro (fn := Tryz.f4) rfl (by kernel_rfl) (c := _) rfl ⟨rfl, by simp⟩ rfl (evP_spec _ ?_)
  unfold laws_FnExactAnf.f at h
  refine bindG h fun y1 hy2 h => ?_
  refine exM ([(.d (.p (.int .i64 y1)))], []) ?_ ?_
  · exact laws_szNodeS.ev hy2
  refine goS ?_
  try ((with_reducible apply cdX); exact rfl)
  refine iteF h (fun c3 h => ?_) (fun c3 h => ?_)
  · exact retE (enc := laws_FnExactAnf.enc) h rfl
  · refine bindG h fun y4 hy5 h => ?_
    refine exM ([(.own true 7 (y4.map impl_Node.e))], []) ?_ ?_
    · exact laws_toNodeS.ev hy5
    refine bindG h ?_
    rintro ⟨y6, y7⟩ hy8 h
    refine exM ([(.own true 7 (y6.map impl_Node.e)), (.d (.p (.bool y7)))], []) ?_ ?_
    · exact spec_Anf.ev hy8
    refine bindG h fun y9 hy10 h => ?_
    refine exM ([(.own true 7 (y9.map impl_Node.e))], []) ?_ ?_
    · exact laws_toNodeS.ev hy10
    refine bindG h ?_
    rintro ⟨y11, y12⟩ hy13 h
    refine exM ([(.own true 7 (y11.map impl_Node.e)), (.d (.p (.bool y12)))], []) ?_ ?_
    · exact impl_Anf.ev hy13
    refine goS ?_
    refine seqJ h 96 (fun x => [(0, (.d (.l true 7 (a0.map laws_Node.e)))), (4, (.own 4 1 2)), (5, (.d (.p (.bool y7)))), (6, (.own 6 1 2)), (7, (.own 7 1 2)), (8, (.d (.p (.bool y12)))), (40, (.d (.p (.bool x))))]) (fun x => [(4, 1, 2, (some (.row true true 7 (y6.map impl_Node.e)))), (6, 1, 2, (some (.row true true 7 (y9.map impl_Node.e)))), (7, 1, 2, (some (.row true true 7 (y11.map impl_Node.e))))]) (fun J h => ?_) ?_
    · refine bindG h fun y15 hy16 h => ?_
      refine exM ([(.d (.p (.bool y15)))], []) ?_ ?_
      · exact laws_eqNodeS.ev hy16
      refine ifB h (fun c17 h => ?_) (fun c17 h => ?_)
      · refine Ask.T rfl ?_
        refine Ask.T rfl ?_
        refine Ask.T rfl ?_
        exact ⟨true, h, ⟨rfl, ⟨rfl, rfl, rfl, rfl, rfl, rfl, rfl, trivial⟩, ⟨rfl, rfl, rfl, trivial⟩⟩⟩
      · refine Ask.F rfl ?_
        refine Ask.F rfl ?_
        refine Ask.F rfl ?_
        exact ⟨(y12 != y7), h, ⟨rfl, ⟨rfl, rfl, rfl, rfl, rfl, rfl, rfl, trivial⟩, ⟨rfl, rfl, rfl, trivial⟩⟩⟩
    · rintro v14 h e hp
      try ((with_reducible apply cdX); exact rfl)
      refine ifB h (fun c18 h => ?_) (fun c18 h => ?_)
      · exact retE (enc := laws_FnExactAnf.enc) h rfl
      · refine goS ?_
        refine bindG h fun y19 hy20 h => ?_
        refine exM ([(.own true 7 (y19.map impl_Node.e))], []) ?_ ?_
        · exact laws_toNodeS.ev hy20
        refine bindG h fun y21 hy22 h => ?_
        refine exM ([(.d (.p (.bool y21)))], []) ?_ ?_
        · exact laws_eqNodeS.ev hy22
        refine ifB h (fun c23 h => ?_) (fun c23 h => ?_)
        · exact retE (enc := laws_FnExactAnf.enc) h rfl
        · refine bindG h ?_
          rintro ⟨y24, y25⟩ hy26 h
          refine exM ([(.d (.p (.int .i64 y24)))], [(.own true 7 (y25.map impl_Node.e))]) ?_ ?_
          · exact laws_markNodeS.ev hy26
          refine gdG h fun g h => ?_
          refine anM (lenM g) ?_
          refine goS ?_
          refine seqJ h 96 (fun x => [(0, (.d (.l true 7 (a0.map laws_Node.e)))), (4, (.own 4 1 2)), (5, (.d (.p (.bool y7)))), (7, (.own 7 1 2)), (61, (.d (.p (.bool x))))]) (fun x => [(4, 1, 2, (some (.row true true 7 (y6.map impl_Node.e)))), (7, 1, 2, (some (.row true true 7 (y11.map impl_Node.e))))]) (fun J h => ?_) ?_
          · try ((with_reducible apply cdX); exact rfl)
            refine iteF h (fun c28 h => ?_) (fun c28 h => ?_)
            · refine Ask.T rfl ?_
              refine Ask.T rfl ?_
              refine Ask.T rfl ?_
              refine Ask.T rfl ?_
              refine Ask.T rfl ?_
              refine Ask.T rfl ?_
              refine Ask.T rfl ?_
              refine Ask.T rfl ?_
              exact ⟨true, h, ⟨rfl, ⟨rfl, rfl, rfl, rfl, rfl, trivial⟩, ⟨rfl, rfl, trivial⟩⟩⟩
            · refine Ask.F rfl ?_
              refine Ask.F rfl ?_
              refine bindG h fun y29 hy30 h => ?_
              refine exM ([(.d (.p (.bool y29)))], []) ?_ ?_
              · exact laws_eqNodeS.ev hy30
              refine Ask.F rfl ?_
              refine Ask.F rfl ?_
              refine ifB h (fun c31 h => ?_) (fun c31 h => ?_)
              · refine Ask.T rfl ?_
                refine Ask.T rfl ?_
                refine Ask.T rfl ?_
                exact ⟨true, h, ⟨rfl, ⟨rfl, rfl, rfl, rfl, rfl, trivial⟩, ⟨rfl, rfl, trivial⟩⟩⟩
              · refine Ask.F rfl ?_
                refine Ask.F rfl ?_
                refine Ask.F rfl ?_
                exact ⟨(y12 != y7), h, ⟨rfl, ⟨rfl, rfl, rfl, rfl, rfl, trivial⟩, ⟨rfl, rfl, trivial⟩⟩⟩
          · rintro v27 h e hp
            try ((with_reducible apply cdX); exact rfl)
            refine ifB h (fun c32 h => ?_) (fun c32 h => ?_)
            · exact retE (enc := laws_FnExactAnf.enc) h rfl
            · refine bindG h ?_
              rintro ⟨y33, y34⟩ hy35 h
              refine exM ([(.d (.p (.int .i64 y33)))], [(.own true 7 (y34.map impl_Node.e))]) ?_ ?_
              · exact laws_markNodeS.ev hy35
              refine gdG h fun g h => ?_
              refine anM (lenM g) ?_
              refine bindG h fun y36 hy37 h => ?_
              refine exM ([(.d (.p (.int .i64 y36)))], []) ?_ ?_
              · exact laws_heldNodeS.ev hy37
              refine goS ?_
              try ((with_reducible apply cdX); exact rfl)
              refine iteF h (fun c38 h => ?_) (fun c38 h => ?_)
              · exact retE (enc := laws_FnExactAnf.enc) h rfl
              · refine goS ?_
                try ((with_reducible apply cdX); exact rfl)
                refine ifB h (fun c39 h => ?_) (fun c39 h => ?_)
                · exact retE (enc := laws_FnExactAnf.enc) h rfl
                · refine bindG h fun y40 hy41 h => ?_
                  refine exM ([(.own true 7 (y40.map impl_Node.e))], []) ?_ ?_
                  · exact laws_toNodeS.ev hy41
                  refine bindG h ?_
                  rintro ⟨y42, y43⟩ hy44 h
                  refine exM ([(.own true 7 (y42.map impl_Node.e)), (.d (.p (.bool y43)))], []) ?_ ?_
                  · exact impl_Anf.ev hy44
                  refine goS ?_
                  refine seqJ h 96 (fun x => [(7, (.own 7 1 2)), (10, (.d (.p (.int .i64 y33)))), (87, (.d (.p (.bool x))))]) (fun x => [(7, 1, 2, (some (.row true true 7 (y34.map impl_Node.e))))]) (fun J h => ?_) ?_
                  · refine bindG h fun y46 hy47 h => ?_
                    refine exM ([(.d (.p (.bool y46)))], []) ?_ ?_
                    · exact laws_eqNodeS.ev hy47
                    refine ifB h (fun c48 h => ?_) (fun c48 h => ?_)
                    · refine Ask.T rfl ?_
                      refine Ask.T rfl ?_
                      refine Ask.T rfl ?_
                      exact ⟨true, h, ⟨rfl, ⟨rfl, rfl, rfl, trivial⟩, ⟨rfl, trivial⟩⟩⟩
                    · refine Ask.F rfl ?_
                      refine Ask.F rfl ?_
                      refine Ask.F rfl ?_
                      exact ⟨(y43 != y7), h, ⟨rfl, ⟨rfl, rfl, rfl, trivial⟩, ⟨rfl, trivial⟩⟩⟩
                  · rintro v45 h e hp
                    try ((with_reducible apply cdX); exact rfl)
                    refine ifB h (fun c49 h => ?_) (fun c49 h => ?_)
                    · exact retE (enc := laws_FnExactAnf.enc) h rfl
                    · refine bindG h fun y50 hy51 h => ?_
                      refine exM ([(.d (.p (.int .i64 y50)))], []) ?_ ?_
                      · exact laws_heldNodeS.ev hy51
                      refine goS ?_
                      try ((with_reducible apply cdX); exact rfl)
                      refine iteF h (fun c52 h => ?_) (fun c52 h => ?_)
                      · exact retE (enc := laws_FnExactAnf.enc) h rfl
                      · refine goS ?_
                        try ((with_reducible apply cdX); exact rfl)
                        refine ifB h (fun c53 h => ?_) (fun c53 h => ?_)
                        · exact retE (enc := laws_FnExactAnf.enc) h rfl
                        · exact retE (enc := laws_FnExactAnf.enc) h rfl
end Go.Proofs.YtfkanjgfjejgiaaGreatDoorE
