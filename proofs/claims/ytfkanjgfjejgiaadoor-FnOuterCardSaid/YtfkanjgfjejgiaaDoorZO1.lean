/- For Go functions of the program: their Lean functions, and that Go answers as these do. Written by a program of the session (evprint.py). -/
import Derived.Test.YtfkanjgfjejgiaaDoorZO0
set_option linter.unusedSimpArgs false
set_option linter.unusedVariables false
namespace Go.Proofs.YtfkanjgfjejgiaaDoorE
open Go.Ev
set_option linter.unusedVariables false
set_option maxRecDepth 100000
set_option maxHeartbeats 4000000
def spec_l4Expr.enc (r : spec_l4State × List impl_Node) : Res := ([(.agg (r.1.e.map .d)), (.own true 7 (r.2.map impl_Node.e))], [])
def spec_l4Expr.l0 (r_spec_l4Expr : spec_l4State → (List impl_Node) → Option (spec_l4State × List impl_Node)) (y25 : ByteArray) (K : Nat) : Nat → Int → (List impl_Node) → spec_l4State → impl_Node → (List Int) → Option (List impl_Node × spec_l4State × impl_Node × List Int)
  | 0, _, _, _, _, _ => none
  | k + 1, v36, v37, v38, v39, v40 => jn (fun (v45 : Bool) => if v45 = true then (jn (fun (v48, v49, v50, v51) => spec_l4Expr.l0 r_spec_l4Expr y25 K k (w64 (v36 + 1)) v48 v49 v50 v51) (fun j => (atS y25 v36).bind fun x52 => (if (x52.toNat : Int) = 110 then ((spec_l4Name.f K v38).bind fun (y54, y55) => (if (v39.Name.toList == (⟨#[]⟩ : ByteArray).toList) = true then (j (v37, y54, (⟨v39.Kind, v39.A, v39.B, v39.C, v39.N, y55, v39.Other⟩ : impl_Node), v40)) else (j (v37, y54, (⟨v39.Kind, v39.A, v39.B, v39.C, v39.N, v39.Name, y55⟩ : impl_Node), v40)))) else ((r_spec_l4Expr v38 v37).bind fun (y58, y59) => (gd ((v40.length + 1) * 8 ≤ 140737488355328) (j (y59, y58, v39, (v40 ++ ([(w64 ((y59.length : Int) - 1))] : List Int))))))))) else (some (v37, v38, v39, v40))) (fun j => if v36 < (y25.size : Int) then (j (decide (v38.code = 0))) else (j false))
def spec_l4Expr.l1 (v35 : List Int) (K : Nat) : Nat → Int → impl_Node → Option (impl_Node)
  | 0, _, _ => none
  | k + 1, v66, v67 => if v66 < (v35.length : Int) then (jn (fun (v70 : impl_Node) => spec_l4Expr.l1 v35 K k (w64 (v66 + 1)) v70) (fun j => if v66 = 0 then ((at_ v35 v66).bind fun x72 => (j (⟨v67.Kind, x72, v67.B, v67.C, v67.N, v67.Name, v67.Other⟩ : impl_Node))) else (if v66 = 1 then ((at_ v35 v66).bind fun x74 => (j (⟨v67.Kind, v67.A, x74, v67.C, v67.N, v67.Name, v67.Other⟩ : impl_Node))) else ((at_ v35 v66).bind fun x75 => (j (⟨v67.Kind, v67.A, v67.B, x75, v67.N, v67.Name, v67.Other⟩ : impl_Node)))))) else (some v67)
def spec_l4Expr.b (r_spec_l4Expr : spec_l4State → (List impl_Node) → Option (spec_l4State × List impl_Node)) (K : Nat) (a0 : spec_l4State) (a1 : List impl_Node) : Option (spec_l4State × List impl_Node) := if (!(decide (a0.code = 0))) = true then (some (a0, a1)) else (if a0.i ≥ (a0.toks.length : Int) then ((spec_l4Fail.f K a0 2 a0.end_).bind fun y3 => (some (y3, a1))) else ((at_ a0.toks a0.i).bind fun x5 => (if x5.Kind = 4 then (gd ((a1.length + 1) * 72 ≤ 140737488355328) (some ((⟨a0.toks, (w64 (a0.i + 1)), a0.code, a0.at_, a0.end_⟩ : spec_l4State), (a1 ++ ([(⟨2, 0, 0, 0, x5.N, (⟨#[]⟩ : ByteArray), (⟨#[]⟩ : ByteArray)⟩ : impl_Node)] : List impl_Node))))) else (jn (fun (v7 : Bool) => if v7 = true then (gd ((a1.length + 1) * 72 ≤ 140737488355328) (some ((⟨a0.toks, (w64 (a0.i + 1)), a0.code, a0.at_, a0.end_⟩ : spec_l4State), (a1 ++ ([(⟨12, 0, 0, 0, 0, (⟨#[]⟩ : ByteArray), (⟨#[]⟩ : ByteArray)⟩ : impl_Node)] : List impl_Node))))) else (if x5.Kind = 3 then ((spec_l4Name.f K a0).bind fun (y11, y12) => (gd ((a1.length + 1) * 72 ≤ 140737488355328) (some (y11, (a1 ++ ([(⟨1, 0, 0, 0, 0, y12, (⟨#[]⟩ : ByteArray)⟩ : impl_Node)] : List impl_Node)))))) else (if x5.Kind = 2 then ((spec_l4Fail.f K a0 3 x5.At).bind fun y15 => (some (y15, a1))) else (jn (fun (v17 : Int) => (spec_l4Take.f K (⟨a0.toks, (w64 (a0.i + 1)), a0.code, a0.at_, a0.end_⟩ : spec_l4State) 3).bind fun (y20, y21) => ((spec_l4Form.f K y21.Text).bind fun (y23, y24, y25) => (jn (fun (v27 : Bool) => if v27 = true then ((spec_l4Fail.f K y20 3 v17).bind fun y30 => (some (y30, a1))) else (jn (fun (v32, v33, v34, v35) => (spec_l4Take.f K v33 2).bind fun (y61, y62) => (if (!(decide (y61.code = 0))) = true then (some (y61, v32)) else (jn (fun (v65 : impl_Node) => gd ((v32.length + 1) * 72 ≤ 140737488355328) (some (y61, (v32 ++ ([v65] : List impl_Node))))) (fun j => (spec_l4Expr.l1 v35 K K 0 v34).bind fun (v68 : impl_Node) => j v68)))) (fun j => (spec_l4Expr.l0 r_spec_l4Expr y25 K K 0 a1 y20 (⟨y23, 0, 0, 0, y24, (⟨#[]⟩ : ByteArray), (⟨#[]⟩ : ByteArray)⟩ : impl_Node) ([] : List Int)).bind fun (v41, v42, v43, v44) => j (v41, v42, v43, v44)))) (fun j => if y20.code = 0 then (j (decide (y23 = 0))) else (j false))))) (fun j => if (w64 (a0.i + 1)) < (a0.toks.length : Int) then ((at_ a0.toks (w64 (a0.i + 1))).bind fun x19 => (j x19.At)) else (j a0.end_)))))) (fun j => if x5.Kind = 3 then (j (x5.Text.toList == (⟨#[110, 105, 108]⟩ : ByteArray).toList)) else (j false))))))
theorem spec_l4Expr.b_ev {r_spec_l4Expr : spec_l4State → (List impl_Node) → Option (spec_l4State × List impl_Node)} (hr_spec_l4Expr : ∀ {a0 : spec_l4State} {a1 : List impl_Node} {r : spec_l4State × List impl_Node}, r_spec_l4Expr a0 a1 = some r → E 56 [(.agg (a0.e.map .d)), (.own true 7 (a1.map impl_Node.e))] = some ([(.agg (r.1.e.map .d)), (.own true 7 (r.2.map impl_Node.e))], [])) {K : Nat} {a0 : spec_l4State} {a1 : List impl_Node} {r : spec_l4State × List impl_Node} (h : spec_l4Expr.b r_spec_l4Expr K a0 a1 = some r) : E 56 [(.agg (a0.e.map .d)), (.own true 7 (a1.map impl_Node.e))] = some ([(.agg (r.1.e.map .d)), (.own true 7 (r.2.map impl_Node.e))], []) := by
  refine Ev_intro (fn := Tryd.f56) rfl (by kernel_rfl) (c := _) rfl ⟨rfl, by simp⟩ rfl (evP_spec _ ?_)
  unfold spec_l4Expr.b at h
  refine goS ?_
  try ((with_reducible apply cdX); exact rfl)
  refine ifB h (fun c1 h => ?_) (fun c1 h => ?_)
  · refine goS ?_
    exact retE (enc := spec_l4Expr.enc) h rfl
  · refine goS ?_
    refine eqM ((a0.toks.length : Int) : Int) (mLen rfl) ?_
    refine iteF h (fun c2 h => ?_) (fun c2 h => ?_)
    · refine goS ?_
      refine bindG h fun y3 hy4 h => ?_
      refine exM ([(.agg (y3.e.map .d))], []) ?_ ?_
      · exact spec_l4Fail.ev hy4
      exact retE (enc := spec_l4Expr.enc) h rfl
    · refine goS ?_
      refine bindG h fun x5 hx5 h => ?_
      refine anM (at_ix rfl hx5) ?_
      refine exM (impl_Token.e x5) (at_get rfl hx5) ?_
      refine goS ?_
      try ((with_reducible apply cdX); exact rfl)
      refine iteF h (fun c6 h => ?_) (fun c6 h => ?_)
      · refine goS ?_
        refine goS ?_
        refine ⟨[[54, 55, 57, 58], [], [52], [52], [], [52], [52, 999999, 2], [], []], [[999999, 2], [], [], [], [], [], [], [], []], by kernel_rfl, ?_⟩
        refine eqM (([(⟨2, 0, 0, 0, x5.N, (⟨#[]⟩ : ByteArray), (⟨#[]⟩ : ByteArray)⟩ : impl_Node)] : List impl_Node).map impl_Node.e) rfl ?_
        refine gdG h fun hc h => ?_
        refine anM (apB hc) ?_
        refine eqM ((a1 ++ ([(⟨2, 0, 0, 0, x5.N, (⟨#[]⟩ : ByteArray), (⟨#[]⟩ : ByteArray)⟩ : impl_Node)] : List impl_Node)).map impl_Node.e) (mApp rfl rfl) ?_
        exact retE (enc := spec_l4Expr.enc) h rfl
      · refine seqJ h 230 (fun x => [(1, (.own 1 1 2)), (2, (.ptr 2 0 2 0)), (4, (.ptr 4 0 2 0)), (6, (.ptr 6 0 2 0)), (59, (.d (.p (.bool x))))]) (fun x => [(1, 1, 2, (some (.row true true 7 (a1.map impl_Node.e)))), (2, 0, 2, (some (.box [(.d (.l true 4 (a0.toks.map impl_Token.e))), (.d (.p (.int .i64 a0.i))), (.d (.p (.int .i64 a0.code))), (.d (.p (.int .i64 a0.at_))), (.d (.p (.int .i64 a0.end_)))]))), (4, 0, 2, (some (.box [(.own 4 1000 2), (.d (.p (.int .i64 0))), (.d (.p (.int .i64 0))), (.d (.p (.int .i64 0))), (.d (.p (.int .i64 0)))]))), (4, 1000, 2, (some (.row true true 4 (([] : List impl_Token).map impl_Token.e)))), (6, 0, 2, (some (.box [(.d (.p (.int .i64 x5.Kind))), (.d (.p (.string x5.Text))), (.d (.p (.int .i64 x5.N))), (.d (.p (.int .i64 x5.At)))])))]) (fun J h => ?_) ?_
        · try ((with_reducible apply cdX); exact rfl)
          refine iteF h (fun c8 h => ?_) (fun c8 h => ?_)
          · refine Ask.T rfl ?_
            refine Ask.T rfl ?_
            refine Ask.T rfl ?_
            exact ⟨(x5.Text.toList == (⟨#[110, 105, 108]⟩ : ByteArray).toList), h, ⟨rfl, ⟨rfl, rfl, rfl, rfl, rfl, trivial⟩, ⟨rfl, rfl, rfl, rfl, rfl, trivial⟩⟩⟩
          · refine Ask.F rfl ?_
            refine Ask.F rfl ?_
            refine Ask.F rfl ?_
            exact ⟨false, h, ⟨rfl, ⟨rfl, rfl, rfl, rfl, rfl, trivial⟩, ⟨rfl, rfl, rfl, rfl, rfl, trivial⟩⟩⟩
        · rintro v7 h e hp
          try ((with_reducible apply cdX); exact rfl)
          refine ifB h (fun c9 h => ?_) (fun c9 h => ?_)
          · refine goS ?_
            refine goS ?_
            refine ⟨[[75, 76], [], [], [72], [72, 999999, 2], [], []], [[999999, 2], [], [], [], [], [], []], by kernel_rfl, ?_⟩
            refine eqM (([(⟨12, 0, 0, 0, 0, (⟨#[]⟩ : ByteArray), (⟨#[]⟩ : ByteArray)⟩ : impl_Node)] : List impl_Node).map impl_Node.e) rfl ?_
            refine gdG h fun hc h => ?_
            refine anM (apB hc) ?_
            refine eqM ((a1 ++ ([(⟨12, 0, 0, 0, 0, (⟨#[]⟩ : ByteArray), (⟨#[]⟩ : ByteArray)⟩ : impl_Node)] : List impl_Node)).map impl_Node.e) (mApp rfl rfl) ?_
            exact retE (enc := spec_l4Expr.enc) h rfl
          · try ((with_reducible apply cdX); exact rfl)
            refine iteF h (fun c10 h => ?_) (fun c10 h => ?_)
            · refine goS ?_
              refine bindG h ?_
              rintro ⟨y11, y12⟩ hy13 h
              refine exM ([(.agg (y11.e.map .d)), (.d (.p (.string y12)))], []) ?_ ?_
              · exact spec_l4Name.ev hy13
              refine goS ?_
              refine ⟨[[90, 91], [], [], [], [86], [86, 999999, 7], [], []], [[999999, 7], [], [], [], [], [], [], []], by kernel_rfl, ?_⟩
              refine eqM (([(⟨1, 0, 0, 0, 0, y12, (⟨#[]⟩ : ByteArray)⟩ : impl_Node)] : List impl_Node).map impl_Node.e) rfl ?_
              refine gdG h fun hc h => ?_
              refine anM (apB hc) ?_
              refine eqM ((a1 ++ ([(⟨1, 0, 0, 0, 0, y12, (⟨#[]⟩ : ByteArray)⟩ : impl_Node)] : List impl_Node)).map impl_Node.e) (mApp rfl rfl) ?_
              exact retE (enc := spec_l4Expr.enc) h rfl
            · try ((with_reducible apply cdX); exact rfl)
              refine iteF h (fun c14 h => ?_) (fun c14 h => ?_)
              · refine goS ?_
                refine bindG h fun y15 hy16 h => ?_
                refine exM ([(.agg (y15.e.map .d))], []) ?_ ?_
                · exact spec_l4Fail.ev hy16
                exact retE (enc := spec_l4Expr.enc) h rfl
              · refine goS ?_
                refine seqJ h 230 (fun x => [(1, (.own 1 1 2)), (2, (.ptr 2 0 2 0)), (4, (.ptr 4 0 2 0)), (9, (.d (.p (.int .i64 x))))]) (fun x => [(1, 1, 2, (some (.row true true 7 (a1.map impl_Node.e)))), (2, 0, 2, (some (.box [(.d (.l true 4 (a0.toks.map impl_Token.e))), (.d (.p (.int .i64 (w64 (a0.i + 1))))), (.d (.p (.int .i64 a0.code))), (.d (.p (.int .i64 a0.at_))), (.d (.p (.int .i64 a0.end_)))]))), (4, 0, 2, (some (.box [(.own 4 1000 2), (.d (.p (.int .i64 0))), (.d (.p (.int .i64 0))), (.d (.p (.int .i64 0))), (.d (.p (.int .i64 0)))]))), (4, 1000, 2, (some (.row true true 4 (([] : List impl_Token).map impl_Token.e))))]) (fun J h => ?_) ?_
                · refine eqM ((a0.toks.length : Int) : Int) (mLen rfl) ?_
                  refine iteF h (fun c18 h => ?_) (fun c18 h => ?_)
                  · refine bindG h fun x19 hx19 h => ?_
                    refine anM (at_ix rfl hx19) ?_
                    refine exM (impl_Token.e x19) (at_get rfl hx19) ?_
                    exact ⟨x19.At, h, ⟨rfl, ⟨rfl, rfl, rfl, rfl, trivial⟩, ⟨rfl, rfl, rfl, rfl, trivial⟩⟩⟩
                  · exact ⟨a0.end_, h, ⟨rfl, ⟨rfl, rfl, rfl, rfl, trivial⟩, ⟨rfl, rfl, rfl, rfl, trivial⟩⟩⟩
                · rintro v17 h e hp
                  refine goS ?_
                  refine bindG h ?_
                  rintro ⟨y20, y21⟩ hy22 h
                  refine exM ([(.agg (y20.e.map .d)), (.agg (y21.e.map .d))], []) ?_ ?_
                  · exact spec_l4Take.ev hy22
                  refine bindG h ?_
                  rintro ⟨y23, y24, y25⟩ hy26 h
                  refine exM ([(.d (.p (.int .i64 y23))), (.d (.p (.int .i64 y24))), (.d (.p (.string y25)))], []) ?_ ?_
                  · exact spec_l4Form.ev hy26
                  refine goS ?_
                  refine seqJ h 230 (fun x => [(1, (.own 1 1 2)), (2, (.ptr 2 0 2 0)), (4, (.ptr 4 0 2 0)), (9, (.d (.p (.int .i64 v17)))), (11, (.d (.p (.int .i64 y23)))), (12, (.d (.p (.int .i64 y24)))), (13, (.d (.p (.string y25)))), (138, (.d (.p (.bool x))))]) (fun x => [(1, 1, 2, (some (.row true true 7 (a1.map impl_Node.e)))), (2, 0, 2, (some (.box [(.d (.l true 4 (y20.toks.map impl_Token.e))), (.d (.p (.int .i64 y20.i))), (.d (.p (.int .i64 y20.code))), (.d (.p (.int .i64 y20.at_))), (.d (.p (.int .i64 y20.end_)))]))), (4, 0, 2, (some (.box [(.own 4 1000 2), (.d (.p (.int .i64 0))), (.d (.p (.int .i64 0))), (.d (.p (.int .i64 0))), (.d (.p (.int .i64 0)))]))), (4, 1000, 2, (some (.row true true 4 (([] : List impl_Token).map impl_Token.e))))]) (fun J h => ?_) ?_
                  · try ((with_reducible apply cdX); exact rfl)
                    refine iteF h (fun c28 h => ?_) (fun c28 h => ?_)
                    · refine Ask.T rfl ?_
                      refine Ask.T rfl ?_
                      exact ⟨(decide (y23 = 0)), h, ⟨rfl, ⟨rfl, rfl, rfl, rfl, rfl, rfl, rfl, rfl, trivial⟩, ⟨rfl, rfl, rfl, rfl, trivial⟩⟩⟩
                    · refine Ask.F rfl ?_
                      refine Ask.F rfl ?_
                      exact ⟨false, h, ⟨rfl, ⟨rfl, rfl, rfl, rfl, rfl, rfl, rfl, rfl, trivial⟩, ⟨rfl, rfl, rfl, rfl, trivial⟩⟩⟩
                  · rintro v27 h e hp
                    try ((with_reducible apply cdX); exact rfl)
                    refine ifB h (fun c29 h => ?_) (fun c29 h => ?_)
                    · refine goS ?_
                      refine bindG h fun y30 hy31 h => ?_
                      refine exM ([(.agg (y30.e.map .d))], []) ?_ ?_
                      · exact spec_l4Fail.ev hy31
                      exact retE (enc := spec_l4Expr.enc) h rfl
                    · refine goS ?_
                      refine eqM (([] : List Int).map eI) rfl ?_
                      refine seqJ h 230 (fun x => [(1, (.own 1 1 2)), (2, (.ptr 2 0 2 0)), (4, (.ptr 4 0 2 0)), (14, (.ptr 14 0 2 0)), (15, (.own 15 1 2))]) (fun x => [(1, 1, 2, (some (.row true true 7 (x.1.map impl_Node.e)))), (2, 0, 2, (some (.box [(.d (.l true 4 (x.2.1.toks.map impl_Token.e))), (.d (.p (.int .i64 x.2.1.i))), (.d (.p (.int .i64 x.2.1.code))), (.d (.p (.int .i64 x.2.1.at_))), (.d (.p (.int .i64 x.2.1.end_)))]))), (4, 0, 2, (some (.box [(.own 4 1000 2), (.d (.p (.int .i64 0))), (.d (.p (.int .i64 0))), (.d (.p (.int .i64 0))), (.d (.p (.int .i64 0)))]))), (4, 1000, 2, (some (.row true true 4 (([] : List impl_Token).map impl_Token.e)))), (14, 0, 2, (some (.box [(.d (.p (.int .i64 x.2.2.1.Kind))), (.d (.p (.int .i64 x.2.2.1.A))), (.d (.p (.int .i64 x.2.2.1.B))), (.d (.p (.int .i64 x.2.2.1.C))), (.d (.p (.int .i64 x.2.2.1.N))), (.d (.p (.string x.2.2.1.Name))), (.d (.p (.string x.2.2.1.Other)))]))), (15, 1, 2, (some (.row true true 1 (x.2.2.2.map eI))))]) (fun J h => ?_) ?_
                      · refine loopX (α := Int × List impl_Node × spec_l4State × impl_Node × List Int) (a := (0, a1, y20, (⟨y23, 0, 0, 0, y24, (⟨#[]⟩ : ByteArray), (⟨#[]⟩ : ByteArray)⟩ : impl_Node), ([] : List Int))) 230 (fun x => [(1, (.own 1 1 2)), (2, (.ptr 2 0 2 0)), (4, (.ptr 4 0 2 0)), (13, (.d (.p (.string y25)))), (14, (.ptr 14 0 2 0)), (15, (.own 15 1 2)), (16, (.d (.p (.int .i64 x.1))))]) (fun x => [(1, 1, 2, (some (.row true true 7 (x.2.1.map impl_Node.e)))), (2, 0, 2, (some (.box [(.d (.l true 4 (x.2.2.1.toks.map impl_Token.e))), (.d (.p (.int .i64 x.2.2.1.i))), (.d (.p (.int .i64 x.2.2.1.code))), (.d (.p (.int .i64 x.2.2.1.at_))), (.d (.p (.int .i64 x.2.2.1.end_)))]))), (4, 0, 2, (some (.box [(.own 4 1000 2), (.d (.p (.int .i64 0))), (.d (.p (.int .i64 0))), (.d (.p (.int .i64 0))), (.d (.p (.int .i64 0)))]))), (4, 1000, 2, (some (.row true true 4 (([] : List impl_Token).map impl_Token.e)))), (14, 0, 2, (some (.box [(.d (.p (.int .i64 x.2.2.2.1.Kind))), (.d (.p (.int .i64 x.2.2.2.1.A))), (.d (.p (.int .i64 x.2.2.2.1.B))), (.d (.p (.int .i64 x.2.2.2.1.C))), (.d (.p (.int .i64 x.2.2.2.1.N))), (.d (.p (.string x.2.2.2.1.Name))), (.d (.p (.string x.2.2.2.1.Other)))]))), (15, 1, 2, (some (.row true true 1 (x.2.2.2.2.map eI))))]) (fun k x => spec_l4Expr.l0 r_spec_l4Expr y25 K k x.1 x.2.1 x.2.2.1 x.2.2.2.1 x.2.2.2.2) 1 (fun x => [(1, (.own 1 1 2)), (2, (.ptr 2 0 2 0)), (4, (.ptr 4 0 2 0)), (14, (.ptr 14 0 2 0)), (15, (.own 15 1 2))]) (fun x => [(1, 1, 2, (some (.row true true 7 (x.1.map impl_Node.e)))), (2, 0, 2, (some (.box [(.d (.l true 4 (x.2.1.toks.map impl_Token.e))), (.d (.p (.int .i64 x.2.1.i))), (.d (.p (.int .i64 x.2.1.code))), (.d (.p (.int .i64 x.2.1.at_))), (.d (.p (.int .i64 x.2.1.end_)))]))), (4, 0, 2, (some (.box [(.own 4 1000 2), (.d (.p (.int .i64 0))), (.d (.p (.int .i64 0))), (.d (.p (.int .i64 0))), (.d (.p (.int .i64 0)))]))), (4, 1000, 2, (some (.row true true 4 (([] : List impl_Token).map impl_Token.e)))), (14, 0, 2, (some (.box [(.d (.p (.int .i64 x.2.2.1.Kind))), (.d (.p (.int .i64 x.2.2.1.A))), (.d (.p (.int .i64 x.2.2.1.B))), (.d (.p (.int .i64 x.2.2.1.C))), (.d (.p (.int .i64 x.2.2.1.N))), (.d (.p (.string x.2.2.1.Name))), (.d (.p (.string x.2.2.1.Other)))]))), (15, 1, 2, (some (.row true true 1 (x.2.2.2.map eI))))]) h (fun _ => rfl) ?_ ⟨rfl, ⟨rfl, rfl, rfl, rfl, rfl, rfl, rfl, trivial⟩, ⟨rfl, rfl, rfl, rfl, rfl, rfl, trivial⟩⟩ ?_
                        · rintro k ⟨v36, v37, v38, v39, v40⟩ r h e hp
                          replace h : spec_l4Expr.l0 r_spec_l4Expr y25 K (k + 1) v36 v37 v38 v39 v40 = some r := h
                          unfold spec_l4Expr.l0 at h
                          refine goS ?_
                          refine seqJ h 230 (fun x => [(1, (.own 1 1 2)), (2, (.ptr 2 0 2 0)), (4, (.ptr 4 0 2 0)), (13, (.d (.p (.string y25)))), (14, (.ptr 14 0 2 0)), (15, (.own 15 1 2)), (16, (.d (.p (.int .i64 v36)))), (155, (.d (.p (.bool x))))]) (fun x => [(1, 1, 2, (some (.row true true 7 (v37.map impl_Node.e)))), (2, 0, 2, (some (.box [(.d (.l true 4 (v38.toks.map impl_Token.e))), (.d (.p (.int .i64 v38.i))), (.d (.p (.int .i64 v38.code))), (.d (.p (.int .i64 v38.at_))), (.d (.p (.int .i64 v38.end_)))]))), (4, 0, 2, (some (.box [(.own 4 1000 2), (.d (.p (.int .i64 0))), (.d (.p (.int .i64 0))), (.d (.p (.int .i64 0))), (.d (.p (.int .i64 0)))]))), (4, 1000, 2, (some (.row true true 4 (([] : List impl_Token).map impl_Token.e)))), (14, 0, 2, (some (.box [(.d (.p (.int .i64 v39.Kind))), (.d (.p (.int .i64 v39.A))), (.d (.p (.int .i64 v39.B))), (.d (.p (.int .i64 v39.C))), (.d (.p (.int .i64 v39.N))), (.d (.p (.string v39.Name))), (.d (.p (.string v39.Other)))]))), (15, 1, 2, (some (.row true true 1 (v40.map eI))))]) (fun J h => ?_) ?_
                          · try ((with_reducible apply cdX); exact rfl)
                            refine iteF h (fun c46 h => ?_) (fun c46 h => ?_)
                            · refine Ask.T rfl ?_
                              refine Ask.T rfl ?_
                              refine Ask.T rfl ?_
                              exact ⟨(decide (v38.code = 0)), h, ⟨rfl, ⟨rfl, rfl, rfl, rfl, rfl, rfl, rfl, rfl, trivial⟩, ⟨rfl, rfl, rfl, rfl, rfl, rfl, trivial⟩⟩⟩
                            · refine Ask.F rfl ?_
                              refine Ask.F rfl ?_
                              refine Ask.F rfl ?_
                              exact ⟨false, h, ⟨rfl, ⟨rfl, rfl, rfl, rfl, rfl, rfl, rfl, rfl, trivial⟩, ⟨rfl, rfl, rfl, rfl, rfl, rfl, trivial⟩⟩⟩
                          · rintro v45 h e hp
                            try ((with_reducible apply cdX); exact rfl)
                            refine ifB h (fun c47 h => ?_) (fun c47 h => ?_)
                            · refine seqJ h 230 (fun x => [(1, (.own 1 1 2)), (2, (.ptr 2 0 2 0)), (4, (.ptr 4 0 2 0)), (13, (.d (.p (.string y25)))), (14, (.ptr 14 0 2 0)), (15, (.own 15 1 2)), (16, (.d (.p (.int .i64 v36))))]) (fun x => [(1, 1, 2, (some (.row true true 7 (x.1.map impl_Node.e)))), (2, 0, 2, (some (.box [(.d (.l true 4 (x.2.1.toks.map impl_Token.e))), (.d (.p (.int .i64 x.2.1.i))), (.d (.p (.int .i64 x.2.1.code))), (.d (.p (.int .i64 x.2.1.at_))), (.d (.p (.int .i64 x.2.1.end_)))]))), (4, 0, 2, (some (.box [(.own 4 1000 2), (.d (.p (.int .i64 0))), (.d (.p (.int .i64 0))), (.d (.p (.int .i64 0))), (.d (.p (.int .i64 0)))]))), (4, 1000, 2, (some (.row true true 4 (([] : List impl_Token).map impl_Token.e)))), (14, 0, 2, (some (.box [(.d (.p (.int .i64 x.2.2.1.Kind))), (.d (.p (.int .i64 x.2.2.1.A))), (.d (.p (.int .i64 x.2.2.1.B))), (.d (.p (.int .i64 x.2.2.1.C))), (.d (.p (.int .i64 x.2.2.1.N))), (.d (.p (.string x.2.2.1.Name))), (.d (.p (.string x.2.2.1.Other)))]))), (15, 1, 2, (some (.row true true 1 (x.2.2.2.map eI))))]) (fun J h => ?_) ?_
                              · refine goS ?_
                                refine bindG h fun x52 hx52 h => ?_
                                refine exM x52 hx52 ?_
                                refine iteF h (fun c53 h => ?_) (fun c53 h => ?_)
                                · refine goS ?_
                                  refine bindG h ?_
                                  rintro ⟨y54, y55⟩ hy56 h
                                  refine exM ([(.agg (y54.e.map .d)), (.d (.p (.string y55)))], []) ?_ ?_
                                  · exact spec_l4Name.ev hy56
                                  refine goS ?_
                                  refine goS ?_
                                  try ((with_reducible apply cdX); exact rfl)
                                  refine ifB h (fun c57 h => ?_) (fun c57 h => ?_)
                                  · exact ⟨(v37, y54, (⟨v39.Kind, v39.A, v39.B, v39.C, v39.N, y55, v39.Other⟩ : impl_Node), v40), h, ⟨rfl, ⟨rfl, rfl, rfl, rfl, rfl, rfl, rfl, trivial⟩, ⟨rfl, rfl, rfl, rfl, rfl, rfl, trivial⟩⟩⟩
                                  · exact ⟨(v37, y54, (⟨v39.Kind, v39.A, v39.B, v39.C, v39.N, v39.Name, y55⟩ : impl_Node), v40), h, ⟨rfl, ⟨rfl, rfl, rfl, rfl, rfl, rfl, rfl, trivial⟩, ⟨rfl, rfl, rfl, rfl, rfl, rfl, trivial⟩⟩⟩
                                · refine goS ?_
                                  refine bindG h ?_
                                  rintro ⟨y58, y59⟩ hy60 h
                                  refine exM ([(.agg (y58.e.map .d)), (.own true 7 (y59.map impl_Node.e))], []) ?_ ?_
                                  · exact hr_spec_l4Expr hy60
                                  refine goS ?_
                                  refine eqM ((y59.length : Int) : Int) (mLen rfl) ?_
                                  refine eqM (([(w64 ((y59.length : Int) - 1))] : List Int).map eI) rfl ?_
                                  refine gdG h fun hc h => ?_
                                  refine anM (apB hc) ?_
                                  refine eqM ((v40 ++ ([(w64 ((y59.length : Int) - 1))] : List Int)).map eI) (mApp rfl rfl) ?_
                                  exact ⟨(y59, y58, v39, (v40 ++ ([(w64 ((y59.length : Int) - 1))] : List Int))), h, ⟨rfl, ⟨rfl, rfl, rfl, rfl, rfl, rfl, rfl, trivial⟩, ⟨rfl, rfl, rfl, rfl, rfl, rfl, trivial⟩⟩⟩
                              · rintro ⟨v48, v49, v50, v51⟩ h e hp
                                exact ⟨((w64 (v36 + 1)), v48, v49, v50, v51), h, ⟨rfl, ⟨rfl, rfl, rfl, rfl, rfl, rfl, rfl, trivial⟩, ⟨rfl, rfl, rfl, rfl, rfl, rfl, trivial⟩⟩⟩
                            · refine exQ h ?_
                              exact ⟨rfl, ⟨rfl, rfl, rfl, rfl, rfl, trivial⟩, ⟨rfl, rfl, rfl, rfl, rfl, rfl, trivial⟩⟩
                        · rintro ⟨v41, v42, v43, v44⟩ S' h ⟨qn, ⟨qa0, qa1, qa2, qa3, qa4, _⟩, ⟨qb0, qb1, qb2, qb3, qb4, qb5, _⟩⟩
                          exact ⟨(v41, v42, v43, v44), h, ⟨qn, ⟨qa0, qa1, qa2, qa3, qa4, trivial⟩, ⟨qb0, qb1, qb2, qb3, qb4, qb5, trivial⟩⟩⟩
                      · rintro ⟨v32, v33, v34, v35⟩ h e hp
                        refine goS ?_
                        refine bindG h ?_
                        rintro ⟨y61, y62⟩ hy63 h
                        refine exM ([(.agg (y61.e.map .d)), (.agg (y62.e.map .d))], []) ?_ ?_
                        · exact spec_l4Take.ev hy63
                        refine goS ?_
                        try ((with_reducible apply cdX); exact rfl)
                        refine ifB h (fun c64 h => ?_) (fun c64 h => ?_)
                        · refine goS ?_
                          exact retE (enc := spec_l4Expr.enc) h rfl
                        · refine seqJ h 230 (fun x => [(1, (.own 1 1 2)), (2, (.ptr 2 0 2 0)), (4, (.ptr 4 0 2 0)), (14, (.ptr 14 0 2 0))]) (fun x => [(1, 1, 2, (some (.row true true 7 (v32.map impl_Node.e)))), (2, 0, 2, (some (.box [(.d (.l true 4 (y61.toks.map impl_Token.e))), (.d (.p (.int .i64 y61.i))), (.d (.p (.int .i64 y61.code))), (.d (.p (.int .i64 y61.at_))), (.d (.p (.int .i64 y61.end_)))]))), (4, 0, 2, (some (.box [(.own 4 1000 2), (.d (.p (.int .i64 0))), (.d (.p (.int .i64 0))), (.d (.p (.int .i64 0))), (.d (.p (.int .i64 0)))]))), (4, 1000, 2, (some (.row true true 4 (([] : List impl_Token).map impl_Token.e)))), (14, 0, 2, (some (.box [(.d (.p (.int .i64 x.Kind))), (.d (.p (.int .i64 x.A))), (.d (.p (.int .i64 x.B))), (.d (.p (.int .i64 x.C))), (.d (.p (.int .i64 x.N))), (.d (.p (.string x.Name))), (.d (.p (.string x.Other)))])))]) (fun J h => ?_) ?_
                          · refine loopX (α := Int × impl_Node) (a := (0, v34)) 230 (fun x => [(1, (.own 1 1 2)), (2, (.ptr 2 0 2 0)), (4, (.ptr 4 0 2 0)), (14, (.ptr 14 0 2 0)), (15, (.own 15 1 2)), (21, (.d (.p (.int .i64 x.1))))]) (fun x => [(1, 1, 2, (some (.row true true 7 (v32.map impl_Node.e)))), (2, 0, 2, (some (.box [(.d (.l true 4 (y61.toks.map impl_Token.e))), (.d (.p (.int .i64 y61.i))), (.d (.p (.int .i64 y61.code))), (.d (.p (.int .i64 y61.at_))), (.d (.p (.int .i64 y61.end_)))]))), (4, 0, 2, (some (.box [(.own 4 1000 2), (.d (.p (.int .i64 0))), (.d (.p (.int .i64 0))), (.d (.p (.int .i64 0))), (.d (.p (.int .i64 0)))]))), (4, 1000, 2, (some (.row true true 4 (([] : List impl_Token).map impl_Token.e)))), (14, 0, 2, (some (.box [(.d (.p (.int .i64 x.2.Kind))), (.d (.p (.int .i64 x.2.A))), (.d (.p (.int .i64 x.2.B))), (.d (.p (.int .i64 x.2.C))), (.d (.p (.int .i64 x.2.N))), (.d (.p (.string x.2.Name))), (.d (.p (.string x.2.Other)))]))), (15, 1, 2, (some (.row true true 1 (v35.map eI))))]) (fun k x => spec_l4Expr.l1 v35 K k x.1 x.2) 3 (fun x => [(1, (.own 1 1 2)), (2, (.ptr 2 0 2 0)), (4, (.ptr 4 0 2 0)), (14, (.ptr 14 0 2 0))]) (fun x => [(1, 1, 2, (some (.row true true 7 (v32.map impl_Node.e)))), (2, 0, 2, (some (.box [(.d (.l true 4 (y61.toks.map impl_Token.e))), (.d (.p (.int .i64 y61.i))), (.d (.p (.int .i64 y61.code))), (.d (.p (.int .i64 y61.at_))), (.d (.p (.int .i64 y61.end_)))]))), (4, 0, 2, (some (.box [(.own 4 1000 2), (.d (.p (.int .i64 0))), (.d (.p (.int .i64 0))), (.d (.p (.int .i64 0))), (.d (.p (.int .i64 0)))]))), (4, 1000, 2, (some (.row true true 4 (([] : List impl_Token).map impl_Token.e)))), (14, 0, 2, (some (.box [(.d (.p (.int .i64 x.Kind))), (.d (.p (.int .i64 x.A))), (.d (.p (.int .i64 x.B))), (.d (.p (.int .i64 x.C))), (.d (.p (.int .i64 x.N))), (.d (.p (.string x.Name))), (.d (.p (.string x.Other)))])))]) h (fun _ => rfl) ?_ ⟨rfl, ⟨rfl, rfl, rfl, rfl, rfl, rfl, trivial⟩, ⟨rfl, rfl, rfl, rfl, rfl, rfl, trivial⟩⟩ ?_
                            · rintro k ⟨v66, v67⟩ r h e hp
                              replace h : spec_l4Expr.l1 v35 K (k + 1) v66 v67 = some r := h
                              unfold spec_l4Expr.l1 at h
                              refine goS ?_
                              refine eqM ((v35.length : Int) : Int) (mLen rfl) ?_
                              refine iteF h (fun c69 h => ?_) (fun c69 h => ?_)
                              · refine seqJ h 230 (fun x => [(1, (.own 1 1 2)), (2, (.ptr 2 0 2 0)), (4, (.ptr 4 0 2 0)), (14, (.ptr 14 0 2 0)), (15, (.own 15 1 2)), (21, (.d (.p (.int .i64 v66))))]) (fun x => [(1, 1, 2, (some (.row true true 7 (v32.map impl_Node.e)))), (2, 0, 2, (some (.box [(.d (.l true 4 (y61.toks.map impl_Token.e))), (.d (.p (.int .i64 y61.i))), (.d (.p (.int .i64 y61.code))), (.d (.p (.int .i64 y61.at_))), (.d (.p (.int .i64 y61.end_)))]))), (4, 0, 2, (some (.box [(.own 4 1000 2), (.d (.p (.int .i64 0))), (.d (.p (.int .i64 0))), (.d (.p (.int .i64 0))), (.d (.p (.int .i64 0)))]))), (4, 1000, 2, (some (.row true true 4 (([] : List impl_Token).map impl_Token.e)))), (14, 0, 2, (some (.box [(.d (.p (.int .i64 x.Kind))), (.d (.p (.int .i64 x.A))), (.d (.p (.int .i64 x.B))), (.d (.p (.int .i64 x.C))), (.d (.p (.int .i64 x.N))), (.d (.p (.string x.Name))), (.d (.p (.string x.Other)))]))), (15, 1, 2, (some (.row true true 1 (v35.map eI))))]) (fun J h => ?_) ?_
                                · try ((with_reducible apply cdX); exact rfl)
                                  refine iteF h (fun c71 h => ?_) (fun c71 h => ?_)
                                  · refine bindG h fun x72 hx72 h => ?_
                                    refine anM (at_ix rfl hx72) ?_
                                    refine exM (eI x72) (at_get rfl hx72) ?_
                                    exact ⟨(⟨v67.Kind, x72, v67.B, v67.C, v67.N, v67.Name, v67.Other⟩ : impl_Node), h, ⟨rfl, ⟨rfl, rfl, rfl, rfl, rfl, rfl, trivial⟩, ⟨rfl, rfl, rfl, rfl, rfl, rfl, trivial⟩⟩⟩
                                  · try ((with_reducible apply cdX); exact rfl)
                                    refine iteF h (fun c73 h => ?_) (fun c73 h => ?_)
                                    · refine bindG h fun x74 hx74 h => ?_
                                      refine anM (at_ix rfl hx74) ?_
                                      refine exM (eI x74) (at_get rfl hx74) ?_
                                      exact ⟨(⟨v67.Kind, v67.A, x74, v67.C, v67.N, v67.Name, v67.Other⟩ : impl_Node), h, ⟨rfl, ⟨rfl, rfl, rfl, rfl, rfl, rfl, trivial⟩, ⟨rfl, rfl, rfl, rfl, rfl, rfl, trivial⟩⟩⟩
                                    · refine bindG h fun x75 hx75 h => ?_
                                      refine anM (at_ix rfl hx75) ?_
                                      refine exM (eI x75) (at_get rfl hx75) ?_
                                      exact ⟨(⟨v67.Kind, v67.A, v67.B, x75, v67.N, v67.Name, v67.Other⟩ : impl_Node), h, ⟨rfl, ⟨rfl, rfl, rfl, rfl, rfl, rfl, trivial⟩, ⟨rfl, rfl, rfl, rfl, rfl, rfl, trivial⟩⟩⟩
                                · rintro v70 h e hp
                                  exact ⟨((w64 (v66 + 1)), v70), h, ⟨rfl, ⟨rfl, rfl, rfl, rfl, rfl, rfl, trivial⟩, ⟨rfl, rfl, rfl, rfl, rfl, rfl, trivial⟩⟩⟩
                              · refine exQ h ?_
                                exact ⟨rfl, ⟨rfl, rfl, rfl, rfl, trivial⟩, ⟨rfl, rfl, rfl, rfl, rfl, trivial⟩⟩
                            · rintro v68 S' h ⟨qn, ⟨qa0, qa1, qa2, qa3, _⟩, ⟨qb0, qb1, qb2, qb3, qb4, _⟩⟩
                              exact ⟨v68, h, ⟨qn, ⟨qa0, qa1, qa2, qa3, trivial⟩, ⟨qb0, qb1, qb2, qb3, qb4, trivial⟩⟩⟩
                          · rintro v65 h e hp
                            refine goS ?_
                            refine ⟨[[227, 228, 229], [], [225], [225], [225, 999999, 2], [], []], [[999999, 2], [], [], [], [], [], []], by kernel_rfl, ?_⟩
                            refine eqM (([v65] : List impl_Node).map impl_Node.e) rfl ?_
                            refine gdG h fun hc h => ?_
                            refine anM (apB hc) ?_
                            refine eqM ((v32 ++ ([v65] : List impl_Node)).map impl_Node.e) (mApp rfl rfl) ?_
                            exact retE (enc := spec_l4Expr.enc) h rfl
def spec_l4Expr.r (K : Nat) : Nat → spec_l4State → (List impl_Node) → Option (spec_l4State × List impl_Node)
  | 0, _, _ => none
  | d + 1, a0, a1 => spec_l4Expr.b (spec_l4Expr.r K d) K a0 a1
theorem spec_l4Expr.r_ev {K : Nat} : ∀ (d : Nat) {a0 : spec_l4State} {a1 : List impl_Node} {r : spec_l4State × List impl_Node}, spec_l4Expr.r K d a0 a1 = some r → E 56 [(.agg (a0.e.map .d)), (.own true 7 (a1.map impl_Node.e))] = some ([(.agg (r.1.e.map .d)), (.own true 7 (r.2.map impl_Node.e))], []) := by
  intro d
  induction d with
  | zero => intro a0 a1 r h; cases h
  | succ d ih => intro a0 a1 r h; exact spec_l4Expr.b_ev ih h
def spec_l4Expr.f (K : Nat) (a0 : spec_l4State) (a1 : List impl_Node) : Option (spec_l4State × List impl_Node) := spec_l4Expr.r K K a0 a1
theorem spec_l4Expr.ev {K : Nat} {a0 : spec_l4State} {a1 : List impl_Node} {r : spec_l4State × List impl_Node} (h : spec_l4Expr.f K a0 a1 = some r) : E 56 [(.agg (a0.e.map .d)), (.own true 7 (a1.map impl_Node.e))] = some ([(.agg (r.1.e.map .d)), (.own true 7 (r.2.map impl_Node.e))], []) := spec_l4Expr.r_ev K h
def spec_Parse.enc (r : List impl_Node × Int × Int) : Res := ([(.own true 7 (r.1.map impl_Node.e)), (.d (.p (.int .i64 r.2.1))), (.d (.p (.int .i64 r.2.2)))], [])
def spec_Parse.f  (K : Nat) (a0 : ByteArray) : Option (List impl_Node × Int × Int) := (spec_Lex.f K a0).bind fun (y1, y2) => (if y2 ≥ 0 then (some (([] : List impl_Node), 1, y2)) else ((spec_l4Expr.f K (⟨y1, 0, 0, 0, (a0.size : Int)⟩ : spec_l4State) ([] : List impl_Node)).bind fun (y5, y6) => (jn (fun (v8 : spec_l4State) => jn (fun (v15 : spec_l4State) => if (!(decide (v15.code = 0))) = true then (some (([] : List impl_Node), v15.code, v15.at_)) else (some (y6, 0, 0))) (fun j => jn (fun (v16 : Bool) => if v16 = true then ((spec_l4Fail.f K v8 5 0).bind fun y19 => (j y19)) else (j v8)) (fun j => if v8.code = 0 then (j (decide ((y6.length : Int) > 150))) else (j false)))) (fun j => jn (fun (v9 : Bool) => if v9 = true then ((at_ y1 y5.i).bind fun x12 => ((spec_l4Fail.f K y5 4 x12.At).bind fun y13 => (j y13))) else (j y5)) (fun j => if y5.code = 0 then (j (decide (y5.i < (y1.length : Int)))) else (j false))))))
theorem spec_Parse.ev   {K : Nat} {a0 : ByteArray} {r : List impl_Node × Int × Int} (h : spec_Parse.f  K a0 = some r) : E 29 [(.d (.p (.string a0)))] = some ([(.own true 7 (r.1.map impl_Node.e)), (.d (.p (.int .i64 r.2.1))), (.d (.p (.int .i64 r.2.2)))], []) := by
  refine Ev_intro (fn := Tryd.f29) rfl (by kernel_rfl) (c := _) rfl ⟨rfl, by simp⟩ rfl (evP_spec _ ?_)
  unfold spec_Parse.f at h
  refine bindG h ?_
  rintro ⟨y1, y2⟩ hy3 h
  refine exM ([(.own true 4 (y1.map impl_Token.e)), (.d (.p (.int .i64 y2)))], []) ?_ ?_
  · exact spec_Lex.ev hy3
  refine goS ?_
  try ((with_reducible apply cdX); exact rfl)
  refine iteF h (fun c4 h => ?_) (fun c4 h => ?_)
  · refine eqM (([] : List impl_Node).map impl_Node.e) rfl ?_
    exact retE (enc := spec_Parse.enc) h rfl
  · refine goS ?_
    refine eqM (([] : List impl_Node).map impl_Node.e) rfl ?_
    refine bindG h ?_
    rintro ⟨y5, y6⟩ hy7 h
    refine exM ([(.agg (y5.e.map .d)), (.own true 7 (y6.map impl_Node.e))], []) ?_ ?_
    · exact spec_l4Expr.ev hy7
    refine seqJ h 64 (fun x => [(7, (.ptr 7 0 2 0)), (8, (.own 8 1 2))]) (fun x => [(7, 0, 2, (some (.box [(.d (.l true 4 (x.toks.map impl_Token.e))), (.d (.p (.int .i64 x.i))), (.d (.p (.int .i64 x.code))), (.d (.p (.int .i64 x.at_))), (.d (.p (.int .i64 x.end_)))]))), (8, 1, 2, (some (.row true true 7 (y6.map impl_Node.e))))]) (fun J h => ?_) ?_
    · refine seqJ h 64 (fun x => [(5, (.own 5 1 2)), (7, (.ptr 7 0 2 0)), (8, (.own 8 1 2)), (36, (.d (.p (.bool x))))]) (fun x => [(5, 1, 2, (some (.row false true 4 (y1.map impl_Token.e)))), (7, 0, 2, (some (.box [(.d (.l true 4 (y5.toks.map impl_Token.e))), (.d (.p (.int .i64 y5.i))), (.d (.p (.int .i64 y5.code))), (.d (.p (.int .i64 y5.at_))), (.d (.p (.int .i64 y5.end_)))]))), (8, 1, 2, (some (.row true true 7 (y6.map impl_Node.e))))]) (fun J h => ?_) ?_
      · try ((with_reducible apply cdX); exact rfl)
        refine iteF h (fun c10 h => ?_) (fun c10 h => ?_)
        · refine Ask.T rfl ?_
          refine Ask.T rfl ?_
          refine Ask.T rfl ?_
          refine eqM ((y1.length : Int) : Int) (mLen rfl) ?_
          refine Ask.T rfl ?_
          refine Ask.T rfl ?_
          exact ⟨(decide (y5.i < (y1.length : Int))), h, ⟨rfl, ⟨rfl, rfl, rfl, rfl, trivial⟩, ⟨rfl, rfl, rfl, trivial⟩⟩⟩
        · refine Ask.F rfl ?_
          refine Ask.F rfl ?_
          refine Ask.F rfl ?_
          refine Ask.F rfl ?_
          refine Ask.F rfl ?_
          exact ⟨false, h, ⟨rfl, ⟨rfl, rfl, rfl, rfl, trivial⟩, ⟨rfl, rfl, rfl, trivial⟩⟩⟩
      · rintro v9 h e hp
        try ((with_reducible apply cdX); exact rfl)
        refine ifB h (fun c11 h => ?_) (fun c11 h => ?_)
        · refine ⟨[[39, 40, 41, 42, 43], [], [37], [37], [37], [37], [37], [], []], [], by kernel_rfl, ?_⟩
          refine bindG h fun x12 hx12 h => ?_
          refine anM (at_ix rfl hx12) ?_
          refine anM (at_lt rfl hx12) ?_
          refine exM (impl_Token.e x12) (at_get rfl hx12) ?_
          refine bindG h fun y13 hy14 h => ?_
          refine exM ([(.agg (y13.e.map .d))], []) ?_ ?_
          · exact spec_l4Fail.ev hy14
          exact ⟨y13, h, ⟨rfl, ⟨rfl, rfl, trivial⟩, ⟨rfl, rfl, trivial⟩⟩⟩
        · exact ⟨y5, h, ⟨rfl, ⟨rfl, rfl, trivial⟩, ⟨rfl, rfl, trivial⟩⟩⟩
    · rintro v8 h e hp
      refine seqJ h 64 (fun x => [(7, (.ptr 7 0 2 0)), (8, (.own 8 1 2))]) (fun x => [(7, 0, 2, (some (.box [(.d (.l true 4 (x.toks.map impl_Token.e))), (.d (.p (.int .i64 x.i))), (.d (.p (.int .i64 x.code))), (.d (.p (.int .i64 x.at_))), (.d (.p (.int .i64 x.end_)))]))), (8, 1, 2, (some (.row true true 7 (y6.map impl_Node.e))))]) (fun J h => ?_) ?_
      · refine seqJ h 64 (fun x => [(7, (.ptr 7 0 2 0)), (8, (.own 8 1 2)), (52, (.d (.p (.bool x))))]) (fun x => [(7, 0, 2, (some (.box [(.d (.l true 4 (v8.toks.map impl_Token.e))), (.d (.p (.int .i64 v8.i))), (.d (.p (.int .i64 v8.code))), (.d (.p (.int .i64 v8.at_))), (.d (.p (.int .i64 v8.end_)))]))), (8, 1, 2, (some (.row true true 7 (y6.map impl_Node.e))))]) (fun J h => ?_) ?_
        · try ((with_reducible apply cdX); exact rfl)
          refine iteF h (fun c17 h => ?_) (fun c17 h => ?_)
          · refine Ask.T rfl ?_
            refine eqM ((y6.length : Int) : Int) (mLen rfl) ?_
            refine Ask.T rfl ?_
            refine Ask.T rfl ?_
            exact ⟨(decide ((y6.length : Int) > 150)), h, ⟨rfl, ⟨rfl, rfl, rfl, trivial⟩, ⟨rfl, rfl, trivial⟩⟩⟩
          · refine Ask.F rfl ?_
            refine Ask.F rfl ?_
            refine Ask.F rfl ?_
            exact ⟨false, h, ⟨rfl, ⟨rfl, rfl, rfl, trivial⟩, ⟨rfl, rfl, trivial⟩⟩⟩
        · rintro v16 h e hp
          try ((with_reducible apply cdX); exact rfl)
          refine ifB h (fun c18 h => ?_) (fun c18 h => ?_)
          · refine bindG h fun y19 hy20 h => ?_
            refine exM ([(.agg (y19.e.map .d))], []) ?_ ?_
            · exact spec_l4Fail.ev hy20
            exact ⟨y19, h, ⟨rfl, ⟨rfl, rfl, trivial⟩, ⟨rfl, rfl, trivial⟩⟩⟩
          · exact ⟨v8, h, ⟨rfl, ⟨rfl, rfl, trivial⟩, ⟨rfl, rfl, trivial⟩⟩⟩
      · rintro v15 h e hp
        refine goS ?_
        try ((with_reducible apply cdX); exact rfl)
        refine ifB h (fun c21 h => ?_) (fun c21 h => ?_)
        · refine ⟨[[59, 60, 61, 62], [58, 61, 62, 2], [58, 61, 62, 2], [58, 59, 60, 2, 3], [58, 59, 60, 2, 3], [59, 999999, 7, 60, 999999, 7, 61, 999999, 7, 62, 999999, 7], [61, 999999, 7, 62, 999999, 7], []], [[], [999999, 7], [999999, 7], [999999, 7], [999999, 7], [], [], []], by kernel_rfl, ?_⟩
          refine eqM (([] : List impl_Node).map impl_Node.e) rfl ?_
          exact retE (enc := spec_Parse.enc) h rfl
        · exact retE (enc := spec_Parse.enc) h rfl
def spec_l11Prog.enc (r : List impl_Node × spec_l1Cur) : Res := ([(.own true 7 (r.1.map impl_Node.e))], [(.ptr [(.d (.l true 1 (r.2.b.map eY))), (.d (.p (.int .i64 r.2.i))), (.d (.p (.int .i64 r.2.h_)))])])
def spec_l11Prog.f  (K : Nat) (a0 : spec_l1Cur) : Option (List impl_Node × spec_l1Cur) := (spec_l1Below.f K a0 8).bind fun (y1, y2) => (if y1 = 0 then ((spec_l3Bent.f K y2).bind fun (y5, y6) => (some (y5, y6))) else (if y1 = 1 then ((spec_l1Pick.f K y2 ([(⟨#[40, 114, 101, 99, 32, 102, 32, 120, 32, 40, 105, 102, 32, 120, 32, 40, 97, 100, 100, 32, 120, 32, 40, 97, 112, 112, 32, 102, 32, 40, 115, 117, 98, 32, 120, 32, 49, 41, 41, 41, 32, 48, 41, 32, 40, 97, 112, 112, 32, 102, 32, 49, 48, 41, 41]⟩ : ByteArray), (⟨#[40, 114, 101, 99, 32, 102, 32, 120, 32, 40, 97, 112, 112, 32, 102, 32, 120, 41, 32, 40, 97, 112, 112, 32, 102, 32, 49, 41, 41]⟩ : ByteArray), (⟨#[40, 108, 101, 116, 32, 114, 32, 40, 114, 101, 102, 32, 48, 41, 32, 40, 108, 101, 116, 32, 117, 32, 40, 115, 101, 116, 32, 114, 32, 40, 97, 100, 100, 32, 40, 103, 101, 116, 32, 114, 41, 32, 49, 41, 41, 32, 40, 103, 101, 116, 32, 114, 41, 41, 41]⟩ : ByteArray), (⟨#[40, 116, 114, 121, 32, 40, 97, 100, 100, 32, 49, 32, 40, 114, 97, 105, 115, 101, 32, 53, 41, 41, 32, 101, 32, 40, 97, 100, 100, 32, 101, 32, 49, 48, 48, 41, 41]⟩ : ByteArray), (⟨#[40, 114, 97, 105, 115, 101, 32, 40, 114, 97, 105, 115, 101, 32, 51, 41, 41]⟩ : ByteArray), (⟨#[40, 114, 101, 99, 32, 109, 32, 108, 32, 40, 109, 97, 116, 99, 104, 32, 108, 32, 110, 105, 108, 32, 104, 32, 116, 32, 40, 99, 111, 110, 115, 32, 40, 97, 100, 100, 32, 104, 32, 49, 41, 32, 40, 97, 112, 112, 32, 109, 32, 116, 41, 41, 41, 32, 40, 97, 112, 112, 32, 109, 32, 40, 99, 111, 110, 115, 32, 49, 32, 40, 99, 111, 110, 115, 32, 50, 32, 110, 105, 108, 41, 41, 41, 41]⟩ : ByteArray), (⟨#[40, 108, 101, 116, 32, 114, 32, 40, 114, 101, 102, 32, 40, 102, 117, 110, 32, 120, 32, 120, 41, 41, 32, 40, 108, 101, 116, 32, 117, 32, 40, 115, 101, 116, 32, 114, 32, 40, 102, 117, 110, 32, 121, 32, 40, 97, 112, 112, 32, 40, 103, 101, 116, 32, 114, 41, 32, 121, 41, 41, 41, 32, 40, 97, 112, 112, 32, 40, 103, 101, 116, 32, 114, 41, 32, 49, 41, 41, 41]⟩ : ByteArray), (⟨#[40, 97, 112, 112, 32, 49, 32, 50, 41]⟩ : ByteArray), (⟨#[40, 102, 115, 116, 32, 110, 105, 108, 41]⟩ : ByteArray), (⟨#[40, 105, 102, 32, 110, 105, 108, 32, 49, 32, 50, 41]⟩ : ByteArray), (⟨#[40, 108, 101, 116, 32, 102, 32, 40, 102, 117, 110, 32, 120, 32, 40, 102, 117, 110, 32, 121, 32, 40, 112, 97, 105, 114, 32, 120, 32, 121, 41, 41, 41, 32, 40, 97, 112, 112, 32, 40, 97, 112, 112, 32, 102, 32, 49, 41, 32, 110, 105, 108, 41, 41]⟩ : ByteArray), (⟨#[40, 116, 114, 121, 32, 40, 116, 114, 121, 32, 40, 114, 97, 105, 115, 101, 32, 49, 41, 32, 101, 32, 40, 114, 97, 105, 115, 101, 32, 40, 97, 100, 100, 32, 101, 32, 49, 41, 41, 41, 32, 101, 32, 40, 99, 111, 110, 115, 32, 101, 32, 110, 105, 108, 41, 41]⟩ : ByteArray)] : List ByteArray)).bind fun (y9, y10) => ((spec_Parse.f K y9).bind fun (y12, y13, y14) => (some (y12, y10)))) else (if y1 = 2 then ((spec_l3Loose.f K y2 3).bind fun (y17, y18) => (some (y17, y18))) else ((spec_l3Prog.f K y2).bind fun (y20, y21) => (some (y20, y21))))))
theorem spec_l11Prog.ev   {K : Nat} {a0 : spec_l1Cur} {r : List impl_Node × spec_l1Cur} (h : spec_l11Prog.f  K a0 = some r) : E 74 [(.ptr [(.d (.l true 1 (a0.b.map eY))), (.d (.p (.int .i64 a0.i))), (.d (.p (.int .i64 a0.h_)))])] = some ([(.own true 7 (r.1.map impl_Node.e))], [(.ptr [(.d (.l true 1 (r.2.b.map eY))), (.d (.p (.int .i64 r.2.i))), (.d (.p (.int .i64 r.2.h_)))])]) := by
  refine Ev_intro (fn := Tryd.f74) rfl (by kernel_rfl) (c := _) rfl ⟨rfl, by simp⟩ rfl (evP_spec _ ?_)
  unfold spec_l11Prog.f at h
  refine goS ?_
  refine bindG h ?_
  rintro ⟨y1, y2⟩ hy3 h
  refine exM ([(.d (.p (.int .i64 y1)))], [(.ptr [(.d (.l true 1 (y2.b.map eY))), (.d (.p (.int .i64 y2.i))), (.d (.p (.int .i64 y2.h_)))])]) ?_ ?_
  · exact spec_l1Below.ev hy3
  refine iteF h (fun c4 h => ?_) (fun c4 h => ?_)
  · refine bindG h ?_
    rintro ⟨y5, y6⟩ hy7 h
    refine exM ([(.own true 7 (y5.map impl_Node.e))], [(.ptr [(.d (.l true 1 (y6.b.map eY))), (.d (.p (.int .i64 y6.i))), (.d (.p (.int .i64 y6.h_)))])]) ?_ ?_
    · exact spec_l3Bent.ev hy7
    exact retE (enc := spec_l11Prog.enc) h rfl
  · try ((with_reducible apply cdX); exact rfl)
    refine iteF h (fun c8 h => ?_) (fun c8 h => ?_)
    · refine eqM (([(⟨#[40, 114, 101, 99, 32, 102, 32, 120, 32, 40, 105, 102, 32, 120, 32, 40, 97, 100, 100, 32, 120, 32, 40, 97, 112, 112, 32, 102, 32, 40, 115, 117, 98, 32, 120, 32, 49, 41, 41, 41, 32, 48, 41, 32, 40, 97, 112, 112, 32, 102, 32, 49, 48, 41, 41]⟩ : ByteArray), (⟨#[40, 114, 101, 99, 32, 102, 32, 120, 32, 40, 97, 112, 112, 32, 102, 32, 120, 41, 32, 40, 97, 112, 112, 32, 102, 32, 49, 41, 41]⟩ : ByteArray), (⟨#[40, 108, 101, 116, 32, 114, 32, 40, 114, 101, 102, 32, 48, 41, 32, 40, 108, 101, 116, 32, 117, 32, 40, 115, 101, 116, 32, 114, 32, 40, 97, 100, 100, 32, 40, 103, 101, 116, 32, 114, 41, 32, 49, 41, 41, 32, 40, 103, 101, 116, 32, 114, 41, 41, 41]⟩ : ByteArray), (⟨#[40, 116, 114, 121, 32, 40, 97, 100, 100, 32, 49, 32, 40, 114, 97, 105, 115, 101, 32, 53, 41, 41, 32, 101, 32, 40, 97, 100, 100, 32, 101, 32, 49, 48, 48, 41, 41]⟩ : ByteArray), (⟨#[40, 114, 97, 105, 115, 101, 32, 40, 114, 97, 105, 115, 101, 32, 51, 41, 41]⟩ : ByteArray), (⟨#[40, 114, 101, 99, 32, 109, 32, 108, 32, 40, 109, 97, 116, 99, 104, 32, 108, 32, 110, 105, 108, 32, 104, 32, 116, 32, 40, 99, 111, 110, 115, 32, 40, 97, 100, 100, 32, 104, 32, 49, 41, 32, 40, 97, 112, 112, 32, 109, 32, 116, 41, 41, 41, 32, 40, 97, 112, 112, 32, 109, 32, 40, 99, 111, 110, 115, 32, 49, 32, 40, 99, 111, 110, 115, 32, 50, 32, 110, 105, 108, 41, 41, 41, 41]⟩ : ByteArray), (⟨#[40, 108, 101, 116, 32, 114, 32, 40, 114, 101, 102, 32, 40, 102, 117, 110, 32, 120, 32, 120, 41, 41, 32, 40, 108, 101, 116, 32, 117, 32, 40, 115, 101, 116, 32, 114, 32, 40, 102, 117, 110, 32, 121, 32, 40, 97, 112, 112, 32, 40, 103, 101, 116, 32, 114, 41, 32, 121, 41, 41, 41, 32, 40, 97, 112, 112, 32, 40, 103, 101, 116, 32, 114, 41, 32, 49, 41, 41, 41]⟩ : ByteArray), (⟨#[40, 97, 112, 112, 32, 49, 32, 50, 41]⟩ : ByteArray), (⟨#[40, 102, 115, 116, 32, 110, 105, 108, 41]⟩ : ByteArray), (⟨#[40, 105, 102, 32, 110, 105, 108, 32, 49, 32, 50, 41]⟩ : ByteArray), (⟨#[40, 108, 101, 116, 32, 102, 32, 40, 102, 117, 110, 32, 120, 32, 40, 102, 117, 110, 32, 121, 32, 40, 112, 97, 105, 114, 32, 120, 32, 121, 41, 41, 41, 32, 40, 97, 112, 112, 32, 40, 97, 112, 112, 32, 102, 32, 49, 41, 32, 110, 105, 108, 41, 41]⟩ : ByteArray), (⟨#[40, 116, 114, 121, 32, 40, 116, 114, 121, 32, 40, 114, 97, 105, 115, 101, 32, 49, 41, 32, 101, 32, 40, 114, 97, 105, 115, 101, 32, 40, 97, 100, 100, 32, 101, 32, 49, 41, 41, 41, 32, 101, 32, 40, 99, 111, 110, 115, 32, 101, 32, 110, 105, 108, 41, 41]⟩ : ByteArray)] : List ByteArray).map eS) rfl ?_
      refine bindG h ?_
      rintro ⟨y9, y10⟩ hy11 h
      refine exM ([(.d (.p (.string y9)))], [(.ptr [(.d (.l true 1 (y10.b.map eY))), (.d (.p (.int .i64 y10.i))), (.d (.p (.int .i64 y10.h_)))])]) ?_ ?_
      · exact spec_l1Pick.ev hy11
      refine bindG h ?_
      rintro ⟨y12, y13, y14⟩ hy15 h
      refine exM ([(.own true 7 (y12.map impl_Node.e)), (.d (.p (.int .i64 y13))), (.d (.p (.int .i64 y14)))], []) ?_ ?_
      · exact spec_Parse.ev hy15
      exact retE (enc := spec_l11Prog.enc) h rfl
    · try ((with_reducible apply cdX); exact rfl)
      refine iteF h (fun c16 h => ?_) (fun c16 h => ?_)
      · refine bindG h ?_
        rintro ⟨y17, y18⟩ hy19 h
        refine exM ([(.own true 7 (y17.map impl_Node.e))], [(.ptr [(.d (.l true 1 (y18.b.map eY))), (.d (.p (.int .i64 y18.i))), (.d (.p (.int .i64 y18.h_)))])]) ?_ ?_
        · exact spec_l3Loose.ev hy19
        exact retE (enc := spec_l11Prog.enc) h rfl
      · refine bindG h ?_
        rintro ⟨y20, y21⟩ hy22 h
        refine exM ([(.own true 7 (y20.map impl_Node.e))], [(.ptr [(.d (.l true 1 (y21.b.map eY))), (.d (.p (.int .i64 y21.i))), (.d (.p (.int .i64 y21.h_)))])]) ?_ ?_
        · exact spec_l3Prog.ev hy22
        exact retE (enc := spec_l11Prog.enc) h rfl
def spec_l16Lambda.enc (r : Bool) : Res := ([(.d (.p (.bool r)))], [])
def spec_l16Lambda.f  (K : Nat) (a0 : impl_Node) : Option (Bool) := if a0.Kind = 3 then (some true) else (some (decide (a0.Kind = 6)))
theorem spec_l16Lambda.ev   {K : Nat} {a0 : impl_Node} {r : Bool} (h : spec_l16Lambda.f  K a0 = some r) : E 49 [(.agg (a0.e.map .d))] = some ([(.d (.p (.bool r)))], []) := by
  refine Ev_intro (fn := Tryd.f49) rfl (by kernel_rfl) (c := _) rfl ⟨rfl, by simp⟩ rfl (evP_spec _ ?_)
  unfold spec_l16Lambda.f at h
  refine goS ?_
  try ((with_reducible apply cdX); exact rfl)
  refine iteF h (fun c1 h => ?_) (fun c1 h => ?_)
  · refine Ask.T rfl ?_
    refine Ask.T rfl ?_
    refine Ask.T rfl ?_
    exact retE (enc := spec_l16Lambda.enc) h rfl
  · refine Ask.F rfl ?_
    refine Ask.F rfl ?_
    refine Ask.F rfl ?_
    exact retE (enc := spec_l16Lambda.enc) h rfl
def spec_l16At.enc (r : List impl_Node × Int × spec_l1Cur) : Res := ([(.own true 7 (r.1.map impl_Node.e)), (.d (.p (.int .i64 r.2.1)))], [(.ptr [(.d (.l true 1 (r.2.2.b.map eY))), (.d (.p (.int .i64 r.2.2.i))), (.d (.p (.int .i64 r.2.2.h_)))])])
def spec_l16At.en (a0 : spec_l1Cur) (r : List impl_Node × Int × spec_l1Cur) (S : St) : Prop := endV tb md 45 Tryd.f45 [(.ptr [(.d (.l true 1 (a0.b.map eY))), (.d (.p (.int .i64 a0.i))), (.d (.p (.int .i64 a0.h_)))])] .ret S = some (spec_l16At.enc r)
def spec_l16At.l0 (y1 : List impl_Node) (K : Nat) : Nat → Int → spec_l1Cur → Option ((List impl_Node × Int × spec_l1Cur) ⊕ spec_l1Cur)
  | 0, _, _ => none
  | k + 1, v5, v6 => jn (fun (v8 : Bool) => if v8 = true then ((spec_l1Below.f K v6 (y1.length : Int)).bind fun (y11, y12) => ((at_ y1 y11).bind fun x14 => ((spec_l16Lambda.f K x14).bind fun y15 => (if y15 = true then (some (.inl (y1, y11, y12))) else (spec_l16At.l0 y1 K k (w64 (v5 + 1)) y12))))) else (some (.inr v6))) (fun j => if v5 < 4 then (j (decide ((y1.length : Int) > 0))) else (j false))
def spec_l16At.f  (K : Nat) (a0 : spec_l1Cur) : Option (List impl_Node × Int × spec_l1Cur) := (spec_l11Prog.f K a0).bind fun (y1, y2) => (jn (fun (v4 : spec_l1Cur) => (spec_l1Below.f K v4 (w64 ((y1.length : Int) + 2))).bind fun (y18, y19) => (some (y1, (w64 (y18 - 1)), y19))) (fun j => lb (spec_l16At.l0 y1 K K 0 y2) (fun r => some r) (fun (v7 : spec_l1Cur) => j v7)))
theorem spec_l16At.ev   {K : Nat} {a0 : spec_l1Cur} {r : List impl_Node × Int × spec_l1Cur} (h : spec_l16At.f  K a0 = some r) : E 45 [(.ptr [(.d (.l true 1 (a0.b.map eY))), (.d (.p (.int .i64 a0.i))), (.d (.p (.int .i64 a0.h_)))])] = some ([(.own true 7 (r.1.map impl_Node.e)), (.d (.p (.int .i64 r.2.1)))], [(.ptr [(.d (.l true 1 (r.2.2.b.map eY))), (.d (.p (.int .i64 r.2.2.i))), (.d (.p (.int .i64 r.2.2.h_)))])]) := by
  refine Ev_intro (fn := Tryd.f45) rfl (by kernel_rfl) (c := _) rfl ⟨rfl, by simp⟩ rfl (evP_spec _ ?_)
  unfold spec_l16At.f at h
  refine bindG h ?_
  rintro ⟨y1, y2⟩ hy3 h
  refine exM ([(.own true 7 (y1.map impl_Node.e))], [(.ptr [(.d (.l true 1 (y2.b.map eY))), (.d (.p (.int .i64 y2.i))), (.d (.p (.int .i64 y2.h_)))])]) ?_ ?_
  · exact spec_l11Prog.ev hy3
  refine seqJ h 36 (fun x => [(0, (.ptr 36 0 1 0)), (4, (.own 4 1 2))]) (fun x => [(4, 1, 2, (some (.row true true 7 (y1.map impl_Node.e)))), (36, 0, 1, (some (.box [(.d (.l true 1 (x.b.map eY))), (.d (.p (.int .i64 x.i))), (.d (.p (.int .i64 x.h_)))])))]) (fun J h => ?_) ?_
  · refine loopB (α := Int × spec_l1Cur) (a := (0, y2)) 36 (fun x => [(0, (.ptr 36 0 1 0)), (4, (.own 4 1 2)), (5, (.d (.p (.int .i64 x.1))))]) (fun x => [(4, 1, 2, (some (.row true true 7 (y1.map impl_Node.e)))), (36, 0, 1, (some (.box [(.d (.l true 1 (x.2.b.map eY))), (.d (.p (.int .i64 x.2.i))), (.d (.p (.int .i64 x.2.h_)))])))]) (fun k x => spec_l16At.l0 y1 K k x.1 x.2) (spec_l16At.en a0) 0 (fun x => [(0, (.ptr 36 0 1 0)), (4, (.own 4 1 2))]) (fun x => [(4, 1, 2, (some (.row true true 7 (y1.map impl_Node.e)))), (36, 0, 1, (some (.box [(.d (.l true 1 (x.b.map eY))), (.d (.p (.int .i64 x.i))), (.d (.p (.int .i64 x.h_)))])))]) h (fun _ => rfl) ?_ ⟨rfl, ⟨rfl, rfl, rfl, trivial⟩, ⟨rfl, rfl, trivial⟩⟩ ?_ ?_
    · rintro k ⟨v5, v6⟩ r h e hp
      replace h : spec_l16At.l0 y1 K (k + 1) v5 v6 = some r := h
      unfold spec_l16At.l0 at h
      refine goS ?_
      refine seqJ h 36 (fun x => [(0, (.ptr 36 0 1 0)), (4, (.own 4 1 2)), (5, (.d (.p (.int .i64 v5)))), (15, (.d (.p (.bool x))))]) (fun x => [(4, 1, 2, (some (.row true true 7 (y1.map impl_Node.e)))), (36, 0, 1, (some (.box [(.d (.l true 1 (v6.b.map eY))), (.d (.p (.int .i64 v6.i))), (.d (.p (.int .i64 v6.h_)))])))]) (fun J h => ?_) ?_
      · try ((with_reducible apply cdX); exact rfl)
        refine iteF h (fun c9 h => ?_) (fun c9 h => ?_)
        · refine Ask.T rfl ?_
          refine eqM ((y1.length : Int) : Int) (mLen rfl) ?_
          refine Ask.T rfl ?_
          refine Ask.T rfl ?_
          exact ⟨(decide ((y1.length : Int) > 0)), h, ⟨rfl, ⟨rfl, rfl, rfl, rfl, trivial⟩, ⟨rfl, rfl, trivial⟩⟩⟩
        · refine Ask.F rfl ?_
          refine Ask.F rfl ?_
          refine Ask.F rfl ?_
          exact ⟨false, h, ⟨rfl, ⟨rfl, rfl, rfl, rfl, trivial⟩, ⟨rfl, rfl, trivial⟩⟩⟩
      · rintro v8 h e hp
        try ((with_reducible apply cdX); exact rfl)
        refine ifB h (fun c10 h => ?_) (fun c10 h => ?_)
        · refine goS ?_
          refine eqM ((y1.length : Int) : Int) (mLen rfl) ?_
          refine bindG h ?_
          rintro ⟨y11, y12⟩ hy13 h
          refine exM ([(.d (.p (.int .i64 y11)))], [(.ptr [(.d (.l true 1 (y12.b.map eY))), (.d (.p (.int .i64 y12.i))), (.d (.p (.int .i64 y12.h_)))])]) ?_ ?_
          · exact spec_l1Below.ev hy13
          refine bindG h fun x14 hx14 h => ?_
          refine anM (at_ix rfl hx14) ?_
          refine exM (impl_Node.e x14) (at_get rfl hx14) ?_
          refine bindG h fun y15 hy16 h => ?_
          refine exM ([(.d (.p (.bool y15)))], []) ?_ ?_
          · exact spec_l16Lambda.ev hy16
          refine ifB h (fun c17 h => ?_) (fun c17 h => ?_)
          · exact lqL h rfl
          · exact ⟨((w64 (v5 + 1)), y12), h, ⟨rfl, ⟨rfl, rfl, rfl, trivial⟩, ⟨rfl, rfl, trivial⟩⟩⟩
        · refine lqR h ?_
          exact ⟨rfl, ⟨rfl, rfl, trivial⟩, ⟨rfl, rfl, trivial⟩⟩
    · intro r' S' h q
      exact retE (enc := spec_l16At.enc) h q
    · rintro v7 S' h ⟨qn, ⟨qa0, qa1, _⟩, ⟨qb0, qb1, _⟩⟩
      exact ⟨v7, h, ⟨qn, ⟨qa0, qa1, trivial⟩, ⟨qb0, qb1, trivial⟩⟩⟩
  · rintro v4 h e hp
    refine eqM ((y1.length : Int) : Int) (mLen rfl) ?_
    refine bindG h ?_
    rintro ⟨y18, y19⟩ hy20 h
    refine exM ([(.d (.p (.int .i64 y18)))], [(.ptr [(.d (.l true 1 (y19.b.map eY))), (.d (.p (.int .i64 y19.i))), (.d (.p (.int .i64 y19.h_)))])]) ?_ ?_
    · exact spec_l1Below.ev hy20
    exact retE (enc := spec_l16At.enc) h rfl
def spec_DrawOuterOf.enc (r : List impl_Node × Int) : Res := ([(.own true 7 (r.1.map impl_Node.e)), (.d (.p (.int .i64 r.2)))], [])
def spec_DrawOuterOf.f  (K : Nat) (a0 : List Int) : Option (List impl_Node × Int) := (spec_l1New.f K a0).bind fun y1 => ((spec_l16At.f K y1).bind fun (y3, y4, y5) => (some (y3, y4)))
theorem spec_DrawOuterOf.ev   {K : Nat} {a0 : List Int} {r : List impl_Node × Int} (h : spec_DrawOuterOf.f  K a0 = some r) : E 19 [(.d (.l true 1 (a0.map eY)))] = some ([(.own true 7 (r.1.map impl_Node.e)), (.d (.p (.int .i64 r.2)))], []) := by
  refine Ev_intro (fn := Tryd.f19) rfl (by kernel_rfl) (c := _) rfl ⟨rfl, by simp⟩ rfl (evP_spec _ ?_)
  unfold spec_DrawOuterOf.f at h
  refine bindG h fun y1 hy2 h => ?_
  refine exM ([(.ptr [(.d (.l true 1 (y1.b.map eY))), (.d (.p (.int .i64 y1.i))), (.d (.p (.int .i64 y1.h_)))])], []) ?_ ?_
  · exact spec_l1New.ev hy2
  refine bindG h ?_
  rintro ⟨y3, y4, y5⟩ hy6 h
  refine exM ([(.own true 7 (y3.map impl_Node.e)), (.d (.p (.int .i64 y4)))], [(.ptr [(.d (.l true 1 (y5.b.map eY))), (.d (.p (.int .i64 y5.i))), (.d (.p (.int .i64 y5.h_)))])]) ?_ ?_
  · exact spec_l16At.ev hy6
  exact retE (enc := spec_DrawOuterOf.enc) h rfl
def impl_in.enc (r : Bool) : Res := ([(.d (.p (.bool r)))], [])
def impl_in.f  (K : Nat) (a0 : Int) (a1 : Int) (a2 : Int) : Option (Bool) := if a0 ≥ a1 then (some (decide (a0 ≤ a2))) else (some false)
theorem impl_in.ev   {K : Nat} {a0 : Int} {a1 : Int} {a2 : Int} {r : Bool} (h : impl_in.f  K a0 a1 a2 = some r) : E 36 [(.d (.p (.int .i64 a0))), (.d (.p (.int .i64 a1))), (.d (.p (.int .i64 a2)))] = some ([(.d (.p (.bool r)))], []) := by
  refine Ev_intro (fn := Tryd.f36) rfl (by kernel_rfl) (c := _) rfl ⟨rfl, by simp⟩ rfl (evP_spec _ ?_)
  unfold impl_in.f at h
  refine goS ?_
  try ((with_reducible apply cdX); exact rfl)
  refine iteF h (fun c1 h => ?_) (fun c1 h => ?_)
  · refine Ask.T rfl ?_
    refine Ask.T rfl ?_
    refine Ask.T rfl ?_
    exact retE (enc := impl_in.enc) h rfl
  · refine Ask.F rfl ?_
    refine Ask.F rfl ?_
    refine Ask.F rfl ?_
    exact retE (enc := impl_in.enc) h rfl
def impl_namesOf.enc (r : Int) : Res := ([(.d (.p (.int .i64 r)))], [])
def impl_namesOf.f  (K : Nat) (a0 : Int) : Option (Int) := jn (fun (v1 : Bool) => if v1 = true then (some 1) else (jn (fun (v6 : Bool) => if v6 = true then (some 2) else (some 0)) (fun j => if a0 = 6 then (j true) else (j (decide (a0 = 14)))))) (fun j => if a0 = 1 then (j true) else (if a0 = 3 then (j true) else (if a0 = 5 then (j true) else (j (decide (a0 = 19))))))
theorem impl_namesOf.ev   {K : Nat} {a0 : Int} {r : Int} (h : impl_namesOf.f  K a0 = some r) : E 67 [(.d (.p (.int .i64 a0)))] = some ([(.d (.p (.int .i64 r)))], []) := by
  refine Ev_intro (fn := Tryd.f67) rfl (by kernel_rfl) (c := _) rfl ⟨rfl, by simp⟩ rfl (evP_spec _ ?_)
  unfold impl_namesOf.f at h
  refine goS ?_
  refine seqJ h 12 (fun x => [(3, (.d (.p (.int .i64 a0)))), (4, (.d (.p (.bool x))))]) (fun x => []) (fun J h => ?_) ?_
  · try ((with_reducible apply cdX); exact rfl)
    refine iteF h (fun c2 h => ?_) (fun c2 h => ?_)
    · exact ⟨true, h, ⟨rfl, ⟨rfl, rfl, trivial⟩, trivial⟩⟩
    · try ((with_reducible apply cdX); exact rfl)
      refine iteF h (fun c3 h => ?_) (fun c3 h => ?_)
      · exact ⟨true, h, ⟨rfl, ⟨rfl, rfl, trivial⟩, trivial⟩⟩
      · try ((with_reducible apply cdX); exact rfl)
        refine iteF h (fun c4 h => ?_) (fun c4 h => ?_)
        · exact ⟨true, h, ⟨rfl, ⟨rfl, rfl, trivial⟩, trivial⟩⟩
        · exact ⟨(decide (a0 = 19)), h, ⟨rfl, ⟨rfl, rfl, trivial⟩, trivial⟩⟩
  · rintro v1 h e hp
    try ((with_reducible apply cdX); exact rfl)
    refine ifB h (fun c5 h => ?_) (fun c5 h => ?_)
    · exact retE (enc := impl_namesOf.enc) h rfl
    · refine seqJ h 12 (fun x => [(9, (.d (.p (.bool x))))]) (fun x => []) (fun J h => ?_) ?_
      · try ((with_reducible apply cdX); exact rfl)
        refine iteF h (fun c7 h => ?_) (fun c7 h => ?_)
        · exact ⟨true, h, ⟨rfl, ⟨rfl, trivial⟩, trivial⟩⟩
        · exact ⟨(decide (a0 = 14)), h, ⟨rfl, ⟨rfl, trivial⟩, trivial⟩⟩
      · rintro v6 h e hp
        try ((with_reducible apply cdX); exact rfl)
        refine ifB h (fun c8 h => ?_) (fun c8 h => ?_)
        · exact retE (enc := impl_namesOf.enc) h rfl
        · exact retE (enc := impl_namesOf.enc) h rfl
def impl_IsWord.enc (r : Bool) : Res := ([(.d (.p (.bool r)))], [])
def impl_IsWord.en (a0 : ByteArray) (r : Bool) (S : St) : Prop := endV tb md 114 Tryd.f114 [(.d (.p (.string a0)))] .ret S = some (impl_IsWord.enc r)
def impl_IsWord.l0 (a0 : ByteArray) (K : Nat) : Nat → Int → Option (Bool ⊕ Unit)
  | 0, _ => none
  | k + 1, v1 => if v1 < (a0.size : Int) then (jn (fun (v3 : Bool) => if v3 = true then (some (.inl false)) else (impl_IsWord.l0 a0 K k (w64 (v1 + 1)))) (fun j => (atS a0 v1).bind fun x4 => (if (x4.toNat : Int) < 97 then (j true) else ((atS a0 v1).bind fun x6 => (j (decide ((x6.toNat : Int) > 122))))))) else (some (.inr ()))
def impl_IsWord.f  (K : Nat) (a0 : ByteArray) : Option (Bool) := jn (fun (_ : Unit) => (impl_in.f K (a0.size : Int) 1 8).bind fun y8 => (some y8)) (fun j => lb (impl_IsWord.l0 a0 K K 0) (fun r => some r) (fun (_ : Unit) => j ()))
theorem impl_IsWord.ev   {K : Nat} {a0 : ByteArray} {r : Bool} (h : impl_IsWord.f  K a0 = some r) : E 114 [(.d (.p (.string a0)))] = some ([(.d (.p (.bool r)))], []) := by
  refine Ev_intro (fn := Tryd.f114) rfl (by kernel_rfl) (c := _) rfl ⟨rfl, by simp⟩ rfl (evP_spec _ ?_)
  unfold impl_IsWord.f at h
  refine seqJ h 23 (fun x => [(0, (.d (.p (.string a0))))]) (fun x => []) (fun J h => ?_) ?_
  · refine loopB (α := Int) (a := 0) 23 (fun x => [(0, (.d (.p (.string a0)))), (3, (.d (.p (.int .i64 x))))]) (fun x => []) (fun k x => impl_IsWord.l0 a0 K k x) (impl_IsWord.en a0) 0 (fun x => [(0, (.d (.p (.string a0))))]) (fun x => []) h (fun _ => rfl) ?_ ⟨rfl, ⟨rfl, rfl, trivial⟩, trivial⟩ ?_ ?_
    · rintro k v1 r h e hp
      replace h : impl_IsWord.l0 a0 K (k + 1) v1 = some r := h
      unfold impl_IsWord.l0 at h
      refine goS ?_
      try ((with_reducible apply cdX); exact rfl)
      refine iteF h (fun c2 h => ?_) (fun c2 h => ?_)
      · refine goS ?_
        refine seqJ h 23 (fun x => [(0, (.d (.p (.string a0)))), (3, (.d (.p (.int .i64 v1)))), (19, (.d (.p (.bool x))))]) (fun x => []) (fun J h => ?_) ?_
        · refine bindG h fun x4 hx4 h => ?_
          refine exM x4 hx4 ?_
          refine iteF h (fun c5 h => ?_) (fun c5 h => ?_)
          · refine Ask.T rfl ?_
            refine Ask.T rfl ?_
            refine Ask.T rfl ?_
            refine Ask.T rfl ?_
            exact ⟨true, h, ⟨rfl, ⟨rfl, rfl, rfl, trivial⟩, trivial⟩⟩
          · refine Ask.F rfl ?_
            refine Ask.F rfl ?_
            refine bindG h fun x6 hx6 h => ?_
            refine exM x6 hx6 ?_
            refine Ask.F rfl ?_
            refine Ask.F rfl ?_
            exact ⟨(decide ((x6.toNat : Int) > 122)), h, ⟨rfl, ⟨rfl, rfl, rfl, trivial⟩, trivial⟩⟩
        · rintro v3 h e hp
          try ((with_reducible apply cdX); exact rfl)
          refine ifB h (fun c7 h => ?_) (fun c7 h => ?_)
          · exact lqL h rfl
          · exact ⟨(w64 (v1 + 1)), h, ⟨rfl, ⟨rfl, rfl, trivial⟩, trivial⟩⟩
      · refine lqR h ?_
        exact ⟨rfl, ⟨rfl, trivial⟩, trivial⟩
    · intro r' S' h q
      exact retE (enc := impl_IsWord.enc) h q
    · rintro _ S' h ⟨qn, ⟨qa0, _⟩, ⟨_⟩⟩
      exact ⟨(), h, ⟨qn, ⟨qa0, trivial⟩, trivial⟩⟩
  · rintro _ h e hp
    refine bindG h fun y8 hy9 h => ?_
    refine exM ([(.d (.p (.bool y8)))], []) ?_ ?_
    · exact impl_in.ev hy9
    exact retE (enc := impl_IsWord.enc) h rfl
def impl_IsKey.enc (r : Bool) : Res := ([(.d (.p (.bool r)))], [])
def impl_IsKey.en (a0 : ByteArray) (r : Bool) (S : St) : Prop := endV tb md 91 Tryd.f91 [(.d (.p (.string a0)))] .ret S = some (impl_IsKey.enc r)
def impl_IsKey.l0 (a0 : ByteArray) (y1 : List ByteArray) (K : Nat) : Nat → Int → Option (Bool ⊕ Unit)
  | 0, _ => none
  | k + 1, v3 => if v3 < (y1.length : Int) then ((at_ y1 v3).bind fun x5 => (if (x5.toList == a0.toList) = true then (some (.inl true)) else (impl_IsKey.l0 a0 y1 K k (w64 (v3 + 1))))) else (some (.inr ()))
def impl_IsKey.f  (K : Nat) (a0 : ByteArray) : Option (Bool) := jn (fun (_ : Unit) => some false) (fun j => (strings_Split.f (⟨#[102, 117, 110, 32, 97, 112, 112, 32, 108, 101, 116, 32, 114, 101, 99, 32, 105, 102, 32, 97, 100, 100, 32, 115, 117, 98, 32, 108, 101, 115, 115, 32, 115, 97, 109, 101, 32, 112, 97, 105, 114, 32, 102, 115, 116, 32, 115, 110, 100, 32, 110, 105, 108, 32, 99, 111, 110, 115, 32, 109, 97, 116, 99, 104, 32, 114, 101, 102, 32, 103, 101, 116, 32, 115, 101, 116, 32, 114, 97, 105, 115, 101, 32, 116, 114, 121]⟩ : ByteArray) (⟨#[32]⟩ : ByteArray)).bind fun y1 => (lb (impl_IsKey.l0 a0 y1 K K 0) (fun r => some r) (fun (_ : Unit) => j ())))
theorem impl_IsKey.ev   {K : Nat} {a0 : ByteArray} {r : Bool} (h : impl_IsKey.f  K a0 = some r) : E 91 [(.d (.p (.string a0)))] = some ([(.d (.p (.bool r)))], []) := by
  refine Ev_intro (fn := Tryd.f91) rfl (by kernel_rfl) (c := _) rfl ⟨rfl, by simp⟩ rfl (evP_spec _ ?_)
  unfold impl_IsKey.f at h
  refine seqJ h 15 (fun x => []) (fun x => []) (fun J h => ?_) ?_
  · refine bindG h fun y1 hy2 h => ?_
    refine exM ([(.own true 1 (y1.map eS))], []) ?_ ?_
    · exact strings_Split.ev hy2
    refine eqM ((y1.length : Int) : Int) (mLen rfl) ?_
    refine loopB (α := Int) (a := 0) 15 (fun x => [(0, (.d (.p (.string a0)))), (5, (.own 5 0 2)), (6, (.d (.p (.int .i64 (y1.length : Int))))), (7, (.d (.p (.int .i64 x))))]) (fun x => [(5, 0, 2, (some (.row true true 1 (y1.map eS))))]) (fun k x => impl_IsKey.l0 a0 y1 K k x) (impl_IsKey.en a0) 0 (fun x => []) (fun x => []) h (fun _ => rfl) ?_ ⟨rfl, ⟨rfl, rfl, rfl, rfl, trivial⟩, ⟨rfl, trivial⟩⟩ ?_ ?_
    · rintro k v3 r h e hp
      replace h : impl_IsKey.l0 a0 y1 K (k + 1) v3 = some r := h
      unfold impl_IsKey.l0 at h
      refine goS ?_
      try ((with_reducible apply cdX); exact rfl)
      refine iteF h (fun c4 h => ?_) (fun c4 h => ?_)
      · refine goS ?_
        refine bindG h fun x5 hx5 h => ?_
        refine anM (at_ix rfl hx5) ?_
        refine exM (eS x5) (at_get rfl hx5) ?_
        refine ifB h (fun c6 h => ?_) (fun c6 h => ?_)
        · exact lqL h rfl
        · exact ⟨(w64 (v3 + 1)), h, ⟨rfl, ⟨rfl, rfl, rfl, rfl, trivial⟩, ⟨rfl, trivial⟩⟩⟩
      · refine lqR h ?_
        exact ⟨rfl, trivial, trivial⟩
    · intro r' S' h q
      exact retE (enc := impl_IsKey.enc) h q
    · rintro _ S' h ⟨qn, ⟨_⟩, ⟨_⟩⟩
      exact ⟨(), h, ⟨qn, trivial, trivial⟩⟩
  · rintro _ h e hp
    exact retE (enc := impl_IsKey.enc) h rfl
def impl_isName.enc (r : Bool) : Res := ([(.d (.p (.bool r)))], [])
def impl_isName.f  (K : Nat) (a0 : ByteArray) : Option (Bool) := (impl_IsWord.f K a0).bind fun y1 => (if y1 = true then ((impl_IsKey.f K a0).bind fun y4 => (some (!y4))) else (some false))
theorem impl_isName.ev   {K : Nat} {a0 : ByteArray} {r : Bool} (h : impl_isName.f  K a0 = some r) : E 98 [(.d (.p (.string a0)))] = some ([(.d (.p (.bool r)))], []) := by
  refine Ev_intro (fn := Tryd.f98) rfl (by kernel_rfl) (c := _) rfl ⟨rfl, by simp⟩ rfl (evP_spec _ ?_)
  unfold impl_isName.f at h
  refine goS ?_
  refine bindG h fun y1 hy2 h => ?_
  refine exM ([(.d (.p (.bool y1)))], []) ?_ ?_
  · exact impl_IsWord.ev hy2
  refine ifB h (fun c3 h => ?_) (fun c3 h => ?_)
  · refine Ask.T rfl ?_
    refine bindG h fun y4 hy5 h => ?_
    refine exM ([(.d (.p (.bool y4)))], []) ?_ ?_
    · exact impl_IsKey.ev hy5
    refine Ask.T rfl ?_
    refine Ask.T rfl ?_
    exact retE (enc := impl_isName.enc) h rfl
  · refine Ask.F rfl ?_
    refine Ask.F rfl ?_
    refine Ask.F rfl ?_
    exact retE (enc := impl_isName.enc) h rfl
def impl_nameFits.enc (r : Bool) : Res := ([(.d (.p (.bool r)))], [])
def impl_nameFits.f  (K : Nat) (a0 : ByteArray) (a1 : Bool) : Option (Bool) := if a1 = true then ((impl_isName.f K a0).bind fun y2 => (some y2)) else (some (a0.toList == (⟨#[]⟩ : ByteArray).toList))
theorem impl_nameFits.ev   {K : Nat} {a0 : ByteArray} {a1 : Bool} {r : Bool} (h : impl_nameFits.f  K a0 a1 = some r) : E 66 [(.d (.p (.string a0))), (.d (.p (.bool a1)))] = some ([(.d (.p (.bool r)))], []) := by
  refine Ev_intro (fn := Tryd.f66) rfl (by kernel_rfl) (c := _) rfl ⟨rfl, by simp⟩ rfl (evP_spec _ ?_)
  unfold impl_nameFits.f at h
  refine goS ?_
  try ((with_reducible apply cdX); exact rfl)
  refine ifB h (fun c1 h => ?_) (fun c1 h => ?_)
  · refine bindG h fun y2 hy3 h => ?_
    refine exM ([(.d (.p (.bool y2)))], []) ?_ ?_
    · exact impl_isName.ev hy3
    exact retE (enc := impl_nameFits.enc) h rfl
  · exact retE (enc := impl_nameFits.enc) h rfl
def impl_Arity.enc (r : Int) : Res := ([(.d (.p (.int .i64 r)))], [])
def impl_Arity.f  (K : Nat) (a0 : Int) : Option (Int) := jn (fun (v1 : Bool) => if v1 = true then (some 1) else (jn (fun (v8 : Bool) => if v8 = true then (some 2) else (jn (fun (v17 : Bool) => if v17 = true then (some 3) else (some 0)) (fun j => if a0 = 7 then (j true) else (j (decide (a0 = 14)))))) (fun j => if a0 = 4 then (j true) else (if a0 = 5 then (j true) else (if a0 = 6 then (j true) else (if a0 = 8 then (j true) else (if a0 = 9 then (j true) else (if a0 = 13 then (j true) else (if a0 = 17 then (j true) else (j (decide (a0 = 19)))))))))))) (fun j => if a0 = 3 then (j true) else (if a0 = 10 then (j true) else (if a0 = 11 then (j true) else (if a0 = 15 then (j true) else (if a0 = 16 then (j true) else (j (decide (a0 = 18))))))))
theorem impl_Arity.ev   {K : Nat} {a0 : Int} {r : Int} (h : impl_Arity.f  K a0 = some r) : E 44 [(.d (.p (.int .i64 a0)))] = some ([(.d (.p (.int .i64 r)))], []) := by
  refine Ev_intro (fn := Tryd.f44) rfl (by kernel_rfl) (c := _) rfl ⟨rfl, by simp⟩ rfl (evP_spec _ ?_)
  unfold impl_Arity.f at h
  refine goS ?_
  refine seqJ h 23 (fun x => [(3, (.d (.p (.int .i64 a0)))), (4, (.d (.p (.bool x))))]) (fun x => []) (fun J h => ?_) ?_
  · try ((with_reducible apply cdX); exact rfl)
    refine iteF h (fun c2 h => ?_) (fun c2 h => ?_)
    · exact ⟨true, h, ⟨rfl, ⟨rfl, rfl, trivial⟩, trivial⟩⟩
    · try ((with_reducible apply cdX); exact rfl)
      refine iteF h (fun c3 h => ?_) (fun c3 h => ?_)
      · exact ⟨true, h, ⟨rfl, ⟨rfl, rfl, trivial⟩, trivial⟩⟩
      · try ((with_reducible apply cdX); exact rfl)
        refine iteF h (fun c4 h => ?_) (fun c4 h => ?_)
        · exact ⟨true, h, ⟨rfl, ⟨rfl, rfl, trivial⟩, trivial⟩⟩
        · try ((with_reducible apply cdX); exact rfl)
          refine iteF h (fun c5 h => ?_) (fun c5 h => ?_)
          · exact ⟨true, h, ⟨rfl, ⟨rfl, rfl, trivial⟩, trivial⟩⟩
          · try ((with_reducible apply cdX); exact rfl)
            refine iteF h (fun c6 h => ?_) (fun c6 h => ?_)
            · exact ⟨true, h, ⟨rfl, ⟨rfl, rfl, trivial⟩, trivial⟩⟩
            · exact ⟨(decide (a0 = 18)), h, ⟨rfl, ⟨rfl, rfl, trivial⟩, trivial⟩⟩
  · rintro v1 h e hp
    try ((with_reducible apply cdX); exact rfl)
    refine ifB h (fun c7 h => ?_) (fun c7 h => ?_)
    · exact retE (enc := impl_Arity.enc) h rfl
    · refine seqJ h 23 (fun x => [(3, (.d (.p (.int .i64 a0)))), (11, (.d (.p (.bool x))))]) (fun x => []) (fun J h => ?_) ?_
      · try ((with_reducible apply cdX); exact rfl)
        refine iteF h (fun c9 h => ?_) (fun c9 h => ?_)
        · exact ⟨true, h, ⟨rfl, ⟨rfl, rfl, trivial⟩, trivial⟩⟩
        · try ((with_reducible apply cdX); exact rfl)
          refine iteF h (fun c10 h => ?_) (fun c10 h => ?_)
          · exact ⟨true, h, ⟨rfl, ⟨rfl, rfl, trivial⟩, trivial⟩⟩
          · try ((with_reducible apply cdX); exact rfl)
            refine iteF h (fun c11 h => ?_) (fun c11 h => ?_)
            · exact ⟨true, h, ⟨rfl, ⟨rfl, rfl, trivial⟩, trivial⟩⟩
            · try ((with_reducible apply cdX); exact rfl)
              refine iteF h (fun c12 h => ?_) (fun c12 h => ?_)
              · exact ⟨true, h, ⟨rfl, ⟨rfl, rfl, trivial⟩, trivial⟩⟩
              · try ((with_reducible apply cdX); exact rfl)
                refine iteF h (fun c13 h => ?_) (fun c13 h => ?_)
                · exact ⟨true, h, ⟨rfl, ⟨rfl, rfl, trivial⟩, trivial⟩⟩
                · try ((with_reducible apply cdX); exact rfl)
                  refine iteF h (fun c14 h => ?_) (fun c14 h => ?_)
                  · exact ⟨true, h, ⟨rfl, ⟨rfl, rfl, trivial⟩, trivial⟩⟩
                  · try ((with_reducible apply cdX); exact rfl)
                    refine iteF h (fun c15 h => ?_) (fun c15 h => ?_)
                    · exact ⟨true, h, ⟨rfl, ⟨rfl, rfl, trivial⟩, trivial⟩⟩
                    · exact ⟨(decide (a0 = 19)), h, ⟨rfl, ⟨rfl, rfl, trivial⟩, trivial⟩⟩
      · rintro v8 h e hp
        try ((with_reducible apply cdX); exact rfl)
        refine ifB h (fun c16 h => ?_) (fun c16 h => ?_)
        · exact retE (enc := impl_Arity.enc) h rfl
        · refine seqJ h 23 (fun x => [(20, (.d (.p (.bool x))))]) (fun x => []) (fun J h => ?_) ?_
          · try ((with_reducible apply cdX); exact rfl)
            refine iteF h (fun c18 h => ?_) (fun c18 h => ?_)
            · exact ⟨true, h, ⟨rfl, ⟨rfl, trivial⟩, trivial⟩⟩
            · exact ⟨(decide (a0 = 14)), h, ⟨rfl, ⟨rfl, trivial⟩, trivial⟩⟩
          · rintro v17 h e hp
            try ((with_reducible apply cdX); exact rfl)
            refine ifB h (fun c19 h => ?_) (fun c19 h => ?_)
            · exact retE (enc := impl_Arity.enc) h rfl
            · exact retE (enc := impl_Arity.enc) h rfl
def impl_fieldsOk.enc (r : Bool) : Res := ([(.d (.p (.bool r)))], [])
def impl_fieldsOk.en (a0 : impl_Node) (r : Bool) (S : St) : Prop := endV tb md 37 Tryd.f37 [(.agg (a0.e.map .d))] .ret S = some (impl_fieldsOk.enc r)
def impl_fieldsOk.l0 (a0 : impl_Node) (K : Nat) : Nat → Int → Option (Bool ⊕ Unit)
  | 0, _ => none
  | k + 1, v15 => if v15 < 3 then ((at_ ([a0.A, a0.B, a0.C] : List Int) v15).bind fun x17 => (jn (fun (v18 : Bool) => if v18 = true then (some (.inl false)) else (impl_fieldsOk.l0 a0 K k (w64 (v15 + 1)))) (fun j => (impl_Arity.f K a0.Kind).bind fun y19 => (if v15 ≥ y19 then (j (!(decide (x17 = 0)))) else (j false))))) else (some (.inr ()))
def impl_fieldsOk.f  (K : Nat) (a0 : impl_Node) : Option (Bool) := jn (fun (v1 : Bool) => if v1 = true then (some false) else (jn (fun (_ : Unit) => if a0.Kind = 2 then ((impl_in.f K a0.N 0 65535).bind fun y24 => (some y24)) else (if a0.Kind = 8 then ((impl_in.f K a0.N 0 3).bind fun y27 => (some y27)) else (some (decide (a0.N = 0))))) (fun j => lb (impl_fieldsOk.l0 a0 K K 0) (fun r => some r) (fun (_ : Unit) => j ())))) (fun j => (impl_in.f K a0.Kind 1 19).bind fun y2 => (if (!y2) = true then (j true) else ((impl_namesOf.f K a0.Kind).bind fun y5 => ((impl_nameFits.f K a0.Name (decide (y5 > 0))).bind fun y7 => (if (!y7) = true then (j true) else ((impl_namesOf.f K a0.Kind).bind fun y10 => ((impl_nameFits.f K a0.Other (decide (y10 > 1))).bind fun y12 => (j (!y12)))))))))
theorem impl_fieldsOk.ev   {K : Nat} {a0 : impl_Node} {r : Bool} (h : impl_fieldsOk.f  K a0 = some r) : E 37 [(.agg (a0.e.map .d))] = some ([(.d (.p (.bool r)))], []) := by
  refine Ev_intro (fn := Tryd.f37) rfl (by kernel_rfl) (c := _) rfl ⟨rfl, by simp⟩ rfl (evP_spec _ ?_)
  unfold impl_fieldsOk.f at h
  refine goS ?_
  refine seqJ h 67 (fun x => [(1, (.ptr 1 0 2 0)), (28, (.d (.p (.bool x))))]) (fun x => [(1, 0, 2, (some (.box [(.d (.p (.int .i64 a0.Kind))), (.d (.p (.int .i64 a0.A))), (.d (.p (.int .i64 a0.B))), (.d (.p (.int .i64 a0.C))), (.d (.p (.int .i64 a0.N))), (.d (.p (.string a0.Name))), (.d (.p (.string a0.Other)))])))]) (fun J h => ?_) ?_
  · refine ⟨[[], [], [], [], [], [12, 13, 14], [12, 13, 14], [10, 11], [10, 11], [10, 11], [], [], [], [], [], [22, 23, 24], [22, 23, 24], [20, 21], [20, 21], [20, 21], [], [], [], []], [], by kernel_rfl, ?_⟩
    refine bindG h fun y2 hy3 h => ?_
    refine exM ([(.d (.p (.bool y2)))], []) ?_ ?_
    · exact impl_in.ev hy3
    refine ifB h (fun c4 h => ?_) (fun c4 h => ?_)
    · refine Ask.T rfl ?_
      refine Ask.T rfl ?_
      refine Ask.T rfl ?_
      refine Ask.T rfl ?_
      refine Ask.T rfl ?_
      refine Ask.T rfl ?_
      refine Ask.T rfl ?_
      refine Ask.T rfl ?_
      refine Ask.T rfl ?_
      refine Ask.T rfl ?_
      refine Ask.T rfl ?_
      refine Ask.T rfl ?_
      refine Ask.T rfl ?_
      refine Ask.T rfl ?_
      refine Ask.T rfl ?_
      refine Ask.T rfl ?_
      refine Ask.T rfl ?_
      exact ⟨true, h, ⟨rfl, ⟨rfl, rfl, trivial⟩, ⟨rfl, trivial⟩⟩⟩
    · refine Ask.F rfl ?_
      refine Ask.F rfl ?_
      refine Ask.F rfl ?_
      refine Ask.F rfl ?_
      refine bindG h fun y5 hy6 h => ?_
      refine exM ([(.d (.p (.int .i64 y5)))], []) ?_ ?_
      · exact impl_namesOf.ev hy6
      refine Ask.F rfl ?_
      refine Ask.F rfl ?_
      refine bindG h fun y7 hy8 h => ?_
      refine exM ([(.d (.p (.bool y7)))], []) ?_ ?_
      · exact impl_nameFits.ev hy8
      refine Ask.F rfl ?_
      refine Ask.F rfl ?_
      refine ifB h (fun c9 h => ?_) (fun c9 h => ?_)
      · refine Ask.T rfl ?_
        refine Ask.T rfl ?_
        refine Ask.T rfl ?_
        refine Ask.T rfl ?_
        refine Ask.T rfl ?_
        refine Ask.T rfl ?_
        refine Ask.T rfl ?_
        refine Ask.T rfl ?_
        exact ⟨true, h, ⟨rfl, ⟨rfl, rfl, trivial⟩, ⟨rfl, trivial⟩⟩⟩
      · refine Ask.F rfl ?_
        refine Ask.F rfl ?_
        refine Ask.F rfl ?_
        refine Ask.F rfl ?_
        refine bindG h fun y10 hy11 h => ?_
        refine exM ([(.d (.p (.int .i64 y10)))], []) ?_ ?_
        · exact impl_namesOf.ev hy11
        refine Ask.F rfl ?_
        refine Ask.F rfl ?_
        refine bindG h fun y12 hy13 h => ?_
        refine exM ([(.d (.p (.bool y12)))], []) ?_ ?_
        · exact impl_nameFits.ev hy13
        refine Ask.F rfl ?_
        refine Ask.F rfl ?_
        exact ⟨(!y12), h, ⟨rfl, ⟨rfl, rfl, trivial⟩, ⟨rfl, trivial⟩⟩⟩
  · rintro v1 h e hp
    try ((with_reducible apply cdX); exact rfl)
    refine ifB h (fun c14 h => ?_) (fun c14 h => ?_)
    · exact retE (enc := impl_fieldsOk.enc) h rfl
    · refine seqJ h 67 (fun x => [(1, (.ptr 1 0 2 0))]) (fun x => [(1, 0, 2, (some (.box [(.d (.p (.int .i64 a0.Kind))), (.d (.p (.int .i64 a0.A))), (.d (.p (.int .i64 a0.B))), (.d (.p (.int .i64 a0.C))), (.d (.p (.int .i64 a0.N))), (.d (.p (.string a0.Name))), (.d (.p (.string a0.Other)))])))]) (fun J h => ?_) ?_
      · refine eqM (([a0.A, a0.B, a0.C] : List Int).map eI) rfl ?_
        refine eqM (3 : Int) rfl ?_
        refine loopB (α := Int) (a := 0) 67 (fun x => [(1, (.ptr 1 0 2 0)), (35, (.own 35 0 2)), (36, (.d (.p (.int .i64 3)))), (37, (.d (.p (.int .i64 x))))]) (fun x => [(1, 0, 2, (some (.box [(.d (.p (.int .i64 a0.Kind))), (.d (.p (.int .i64 a0.A))), (.d (.p (.int .i64 a0.B))), (.d (.p (.int .i64 a0.C))), (.d (.p (.int .i64 a0.N))), (.d (.p (.string a0.Name))), (.d (.p (.string a0.Other)))]))), (35, 0, 2, (some (.row true true 1 (([a0.A, a0.B, a0.C] : List Int).map eI))))]) (fun k x => impl_fieldsOk.l0 a0 K k x) (impl_fieldsOk.en a0) 0 (fun x => [(1, (.ptr 1 0 2 0))]) (fun x => [(1, 0, 2, (some (.box [(.d (.p (.int .i64 a0.Kind))), (.d (.p (.int .i64 a0.A))), (.d (.p (.int .i64 a0.B))), (.d (.p (.int .i64 a0.C))), (.d (.p (.int .i64 a0.N))), (.d (.p (.string a0.Name))), (.d (.p (.string a0.Other)))])))]) h (fun _ => rfl) ?_ ⟨rfl, ⟨rfl, rfl, rfl, rfl, trivial⟩, ⟨rfl, rfl, trivial⟩⟩ ?_ ?_
        · rintro k v15 r h e hp
          replace h : impl_fieldsOk.l0 a0 K (k + 1) v15 = some r := h
          unfold impl_fieldsOk.l0 at h
          refine goS ?_
          try ((with_reducible apply cdX); exact rfl)
          refine iteF h (fun c16 h => ?_) (fun c16 h => ?_)
          · refine goS ?_
            refine bindG h fun x17 hx17 h => ?_
            refine anM (at_ix rfl hx17) ?_
            refine exM (eI x17) (at_get rfl hx17) ?_
            refine seqJ h 67 (fun x => [(1, (.ptr 1 0 2 0)), (35, (.own 35 0 2)), (36, (.d (.p (.int .i64 3)))), (37, (.d (.p (.int .i64 v15)))), (50, (.d (.p (.bool x))))]) (fun x => [(1, 0, 2, (some (.box [(.d (.p (.int .i64 a0.Kind))), (.d (.p (.int .i64 a0.A))), (.d (.p (.int .i64 a0.B))), (.d (.p (.int .i64 a0.C))), (.d (.p (.int .i64 a0.N))), (.d (.p (.string a0.Name))), (.d (.p (.string a0.Other)))]))), (35, 0, 2, (some (.row true true 1 (([a0.A, a0.B, a0.C] : List Int).map eI))))]) (fun J h => ?_) ?_
            · refine bindG h fun y19 hy20 h => ?_
              refine exM ([(.d (.p (.int .i64 y19)))], []) ?_ ?_
              · exact impl_Arity.ev hy20
              refine iteF h (fun c21 h => ?_) (fun c21 h => ?_)
              · refine Ask.T rfl ?_
                refine Ask.T rfl ?_
                exact ⟨(!(decide (x17 = 0))), h, ⟨rfl, ⟨rfl, rfl, rfl, rfl, rfl, trivial⟩, ⟨rfl, rfl, trivial⟩⟩⟩
              · refine Ask.F rfl ?_
                refine Ask.F rfl ?_
                exact ⟨false, h, ⟨rfl, ⟨rfl, rfl, rfl, rfl, rfl, trivial⟩, ⟨rfl, rfl, trivial⟩⟩⟩
            · rintro v18 h e hp
              try ((with_reducible apply cdX); exact rfl)
              refine ifB h (fun c22 h => ?_) (fun c22 h => ?_)
              · exact lqL h rfl
              · exact ⟨(w64 (v15 + 1)), h, ⟨rfl, ⟨rfl, rfl, rfl, rfl, trivial⟩, ⟨rfl, rfl, trivial⟩⟩⟩
          · refine lqR h ?_
            exact ⟨rfl, ⟨rfl, trivial⟩, ⟨rfl, trivial⟩⟩
        · intro r' S' h q
          exact retE (enc := impl_fieldsOk.enc) h q
        · rintro _ S' h ⟨qn, ⟨qa0, _⟩, ⟨qb0, _⟩⟩
          exact ⟨(), h, ⟨qn, ⟨qa0, trivial⟩, ⟨qb0, trivial⟩⟩⟩
      · rintro _ h e hp
        refine goS ?_
        try ((with_reducible apply cdX); exact rfl)
        refine iteF h (fun c23 h => ?_) (fun c23 h => ?_)
        · refine bindG h fun y24 hy25 h => ?_
          refine exM ([(.d (.p (.bool y24)))], []) ?_ ?_
          · exact impl_in.ev hy25
          exact retE (enc := impl_fieldsOk.enc) h rfl
        · try ((with_reducible apply cdX); exact rfl)
          refine iteF h (fun c26 h => ?_) (fun c26 h => ?_)
          · refine bindG h fun y27 hy28 h => ?_
            refine exM ([(.d (.p (.bool y27)))], []) ?_ ?_
            · exact impl_in.ev hy28
            exact retE (enc := impl_fieldsOk.enc) h rfl
          · exact retE (enc := impl_fieldsOk.enc) h rfl
def impl_Kids.enc (r : List Int) : Res := ([(.d (.l true 1 (r.map eI)))], [])
def impl_Kids.f  (K : Nat) (a0 : impl_Node) : Option (List Int) := (impl_Arity.f K a0.Kind).bind fun y1 => ((impl_Arity.f K a0.Kind).bind fun y3 => (gd (0 ≤ y1 ∧ y1 ≤ y3 ∧ y3 ≤ (([a0.A, a0.B, a0.C] : List Int).length : Int)) (some (([a0.A, a0.B, a0.C] : List Int).take (y1).toNat))))
theorem impl_Kids.ev   {K : Nat} {a0 : impl_Node} {r : List Int} (h : impl_Kids.f  K a0 = some r) : E 17 [(.agg (a0.e.map .d))] = some ([(.d (.l true 1 (r.map eI)))], []) := by
  refine Ev_intro (fn := Tryd.f17) rfl (by kernel_rfl) (c := _) rfl ⟨rfl, by simp⟩ rfl (evP_spec _ ?_)
  unfold impl_Kids.f at h
  refine ⟨[[5, 6, 7, 8, 10, 11, 12, 13, 14, 15], [5, 6, 7, 8, 10, 11, 12, 13, 14, 15], [3, 4, 7, 8, 10, 11, 12, 13, 14, 15], [3, 4, 7, 8, 10, 11, 12, 13, 14, 15], [3, 4, 5, 6, 10, 11, 12, 13, 14, 15], [3, 4, 5, 6, 10, 11, 12, 13, 14, 15], [10, 11, 12, 13, 14, 15], [3, 4, 5, 6, 7, 8, 9, 13, 14], [3, 4, 5, 6, 7, 8, 9, 13, 14], [3, 4, 5, 6, 7, 8, 9, 13, 14], [3, 4, 5, 6, 7, 8, 9, 10, 11, 12], [3, 4, 5, 6, 7, 8, 9, 10, 11, 12], [3, 4, 5, 6, 7, 8, 9], [], []], [], by kernel_rfl, ?_⟩
  refine eqM (([a0.A, a0.B, a0.C] : List Int).map eI) rfl ?_
  refine bindG h fun y1 hy2 h => ?_
  refine exM ([(.d (.p (.int .i64 y1)))], []) ?_ ?_
  · exact impl_Arity.ev hy2
  refine bindG h fun y3 hy4 h => ?_
  refine exM ([(.d (.p (.int .i64 y3)))], []) ?_ ?_
  · exact impl_Arity.ev hy4
  refine gdG h fun hc h => ?_
  refine anM (slB hc) ?_
  refine eqM ((([a0.A, a0.B, a0.C] : List Int).take (y1).toNat).map eI) (mTake rfl) ?_
  exact retE (enc := impl_Kids.enc) h rfl
def impl_NodesOk.enc (r : Bool) : Res := ([(.d (.p (.bool r)))], [])
def impl_NodesOk.en (a0 : List impl_Node) (r : Bool) (S : St) : Prop := endV tb md 9 Tryd.f9 [(.d (.l true 7 (a0.map impl_Node.e)))] .ret S = some (impl_NodesOk.enc r)
def impl_NodesOk.l1 (v6 : List Int) (y13 : List Int) (K : Nat) : Nat → Int → Int → Option (Bool ⊕ Int)
  | 0, _, _ => none
  | k + 1, v16, v17 => if v17 ≥ 0 then (jn (fun (v20 : Bool) => if v20 = true then (some (.inl false)) else ((at_ v6 (w64 (v16 - 1))).bind fun x24 => (impl_NodesOk.l1 v6 y13 K k x24 (w64 (v17 - 1))))) (fun j => if v16 = 0 then (j true) else ((at_ y13 v17).bind fun x22 => (j (!(decide (x22 = (w64 (v16 - 1))))))))) else (some (.inr v16))
def impl_NodesOk.l0 (a0 : List impl_Node) (K : Nat) : Nat → Int → (List Int) → Option (Bool ⊕ (List Int))
  | 0, _, _ => none
  | k + 1, v5, v6 => if v5 < (a0.length : Int) then ((at_ a0 v5).bind fun x9 => ((impl_fieldsOk.f K x9).bind fun y10 => (if (!y10) = true then (some (.inl false)) else ((impl_Kids.f K x9).bind fun y13 => (jn (fun (v15 : Int) => (at_ v6 v5).bind fun x25 => (impl_NodesOk.l0 a0 K k (w64 (v5 + 1)) (v6.set (v5).toNat v15))) (fun j => lb (impl_NodesOk.l1 v6 y13 K K v5 (w64 ((y13.length : Int) - 1))) (fun r => some (.inl r)) (fun (v18 : Int) => j v18))))))) else (some (.inr v6))
def impl_NodesOk.f  (K : Nat) (a0 : List impl_Node) : Option (Bool) := (impl_in.f K (a0.length : Int) 1 150).bind fun y1 => (if (!y1) = true then (some false) else (gd (0 ≤ (a0.length : Int) ∧ 8 * (a0.length : Int) ≤ 140737488355328 ∧ (a0.length : Int) ≤ 140737488355328) (jn (fun (v4 : List Int) => (at_ v4 (w64 ((a0.length : Int) - 1))).bind fun x26 => (some (decide (x26 = 0)))) (fun j => lb (impl_NodesOk.l0 a0 K K 0 (List.replicate ((a0.length : Int)).toNat (0 : Int))) (fun r => some r) (fun (v7 : List Int) => j v7)))))
theorem impl_NodesOk.ev   {K : Nat} {a0 : List impl_Node} {r : Bool} (h : impl_NodesOk.f  K a0 = some r) : E 9 [(.d (.l true 7 (a0.map impl_Node.e)))] = some ([(.d (.p (.bool r)))], []) := by
  refine Ev_intro (fn := Tryd.f9) rfl (by kernel_rfl) (c := _) rfl ⟨rfl, by simp⟩ rfl (evP_spec _ ?_)
  unfold impl_NodesOk.f at h
  refine goS ?_
  refine eqM ((a0.length : Int) : Int) (mLen rfl) ?_
  refine bindG h fun y1 hy2 h => ?_
  refine exM ([(.d (.p (.bool y1)))], []) ?_ ?_
  · exact impl_in.ev hy2
  refine ifB h (fun c3 h => ?_) (fun c3 h => ?_)
  · exact retE (enc := impl_NodesOk.enc) h rfl
  · refine eqM ((a0.length : Int) : Int) (mLen rfl) ?_
    refine gdG h fun hc h => ?_
    refine anM ⟨rfl, hc⟩ ?_
    refine eqM ((List.replicate ((a0.length : Int)).toNat (0 : Int)).map eI) (mRep rfl) ?_
    refine seqJ h 64 (fun x => [(0, (.d (.l true 7 (a0.map impl_Node.e)))), (3, (.own 3 1 2))]) (fun x => [(3, 1, 2, (some (.row true true 1 (x.map eI))))]) (fun J h => ?_) ?_
    · refine eqM ((a0.length : Int) : Int) (mLen rfl) ?_
      refine loopB (α := Int × List Int) (a := (0, (List.replicate ((a0.length : Int)).toNat (0 : Int)))) 64 (fun x => [(0, (.d (.l true 7 (a0.map impl_Node.e)))), (3, (.own 3 1 2)), (16, (.d (.l true 7 (a0.map impl_Node.e)))), (17, (.d (.p (.int .i64 (a0.length : Int))))), (18, (.d (.p (.int .i64 x.1))))]) (fun x => [(3, 1, 2, (some (.row true true 1 (x.2.map eI))))]) (fun k x => impl_NodesOk.l0 a0 K k x.1 x.2) (impl_NodesOk.en a0) 0 (fun x => [(0, (.d (.l true 7 (a0.map impl_Node.e)))), (3, (.own 3 1 2))]) (fun x => [(3, 1, 2, (some (.row true true 1 (x.map eI))))]) h (fun _ => rfl) ?_ ⟨rfl, ⟨rfl, rfl, rfl, rfl, rfl, trivial⟩, ⟨rfl, trivial⟩⟩ ?_ ?_
      · rintro k ⟨v5, v6⟩ r h e hp
        replace h : impl_NodesOk.l0 a0 K (k + 1) v5 v6 = some r := h
        unfold impl_NodesOk.l0 at h
        refine goS ?_
        try ((with_reducible apply cdX); exact rfl)
        refine iteF h (fun c8 h => ?_) (fun c8 h => ?_)
        · refine goS ?_
          refine goS ?_
          refine bindG h fun x9 hx9 h => ?_
          refine anM (at_ix rfl hx9) ?_
          refine exM (impl_Node.e x9) (at_get rfl hx9) ?_
          refine goS ?_
          refine bindG h fun y10 hy11 h => ?_
          refine exM ([(.d (.p (.bool y10)))], []) ?_ ?_
          · exact impl_fieldsOk.ev hy11
          refine ifB h (fun c12 h => ?_) (fun c12 h => ?_)
          · exact lqL h rfl
          · refine bindG h fun y13 hy14 h => ?_
            refine exM ([(.d (.l true 1 (y13.map eI)))], []) ?_ ?_
            · exact impl_Kids.ev hy14
            refine seqJ h 64 (fun x => [(0, (.d (.l true 7 (a0.map impl_Node.e)))), (3, (.own 3 1 2)), (4, (.d (.p (.int .i64 v5)))), (7, (.d (.p (.int .i64 x)))), (16, (.d (.l true 7 (a0.map impl_Node.e)))), (17, (.d (.p (.int .i64 (a0.length : Int))))), (18, (.d (.p (.int .i64 v5))))]) (fun x => [(3, 1, 2, (some (.row true true 1 (v6.map eI))))]) (fun J h => ?_) ?_
            · refine eqM ((y13.length : Int) : Int) (mLen rfl) ?_
              refine loopB (α := Int × Int) (a := (v5, (w64 ((y13.length : Int) - 1)))) 64 (fun x => [(0, (.d (.l true 7 (a0.map impl_Node.e)))), (3, (.own 3 1 2)), (4, (.d (.p (.int .i64 v5)))), (6, (.d (.l true 1 (y13.map eI)))), (7, (.d (.p (.int .i64 x.1)))), (8, (.d (.p (.int .i64 x.2)))), (16, (.d (.l true 7 (a0.map impl_Node.e)))), (17, (.d (.p (.int .i64 (a0.length : Int))))), (18, (.d (.p (.int .i64 v5))))]) (fun x => [(3, 1, 2, (some (.row true true 1 (v6.map eI))))]) (fun k x => impl_NodesOk.l1 v6 y13 K k x.1 x.2) (impl_NodesOk.en a0) 2 (fun x => [(0, (.d (.l true 7 (a0.map impl_Node.e)))), (3, (.own 3 1 2)), (4, (.d (.p (.int .i64 v5)))), (7, (.d (.p (.int .i64 x)))), (16, (.d (.l true 7 (a0.map impl_Node.e)))), (17, (.d (.p (.int .i64 (a0.length : Int))))), (18, (.d (.p (.int .i64 v5))))]) (fun x => [(3, 1, 2, (some (.row true true 1 (v6.map eI))))]) h (fun _ => rfl) ?_ ⟨rfl, ⟨rfl, rfl, rfl, rfl, rfl, rfl, rfl, rfl, rfl, trivial⟩, ⟨rfl, trivial⟩⟩ ?_ ?_
              · rintro k ⟨v16, v17⟩ r h e hp
                replace h : impl_NodesOk.l1 v6 y13 K (k + 1) v16 v17 = some r := h
                unfold impl_NodesOk.l1 at h
                refine goS ?_
                try ((with_reducible apply cdX); exact rfl)
                refine iteF h (fun c19 h => ?_) (fun c19 h => ?_)
                · refine goS ?_
                  refine goS ?_
                  refine seqJ h 64 (fun x => [(0, (.d (.l true 7 (a0.map impl_Node.e)))), (3, (.own 3 1 2)), (4, (.d (.p (.int .i64 v5)))), (6, (.d (.l true 1 (y13.map eI)))), (7, (.d (.p (.int .i64 v16)))), (8, (.d (.p (.int .i64 v17)))), (16, (.d (.l true 7 (a0.map impl_Node.e)))), (17, (.d (.p (.int .i64 (a0.length : Int))))), (18, (.d (.p (.int .i64 v5)))), (46, (.d (.p (.bool x))))]) (fun x => [(3, 1, 2, (some (.row true true 1 (v6.map eI))))]) (fun J h => ?_) ?_
                  · try ((with_reducible apply cdX); exact rfl)
                    refine iteF h (fun c21 h => ?_) (fun c21 h => ?_)
                    · refine Ask.T rfl ?_
                      refine Ask.T rfl ?_
                      refine Ask.T rfl ?_
                      refine Ask.T rfl ?_
                      refine Ask.T rfl ?_
                      refine Ask.T rfl ?_
                      refine Ask.T rfl ?_
                      exact ⟨true, h, ⟨rfl, ⟨rfl, rfl, rfl, rfl, rfl, rfl, rfl, rfl, rfl, rfl, trivial⟩, ⟨rfl, trivial⟩⟩⟩
                    · refine Ask.F rfl ?_
                      refine Ask.F rfl ?_
                      refine bindG h fun x22 hx22 h => ?_
                      refine anM (at_ix rfl hx22) ?_
                      refine Ask.F rfl ?_
                      refine exM (eI x22) (at_get rfl hx22) ?_
                      refine Ask.F rfl ?_
                      refine Ask.F rfl ?_
                      refine Ask.F rfl ?_
                      refine Ask.F rfl ?_
                      exact ⟨(!(decide (x22 = (w64 (v16 - 1))))), h, ⟨rfl, ⟨rfl, rfl, rfl, rfl, rfl, rfl, rfl, rfl, rfl, rfl, trivial⟩, ⟨rfl, trivial⟩⟩⟩
                  · rintro v20 h e hp
                    try ((with_reducible apply cdX); exact rfl)
                    refine ifB h (fun c23 h => ?_) (fun c23 h => ?_)
                    · exact lqL h rfl
                    · refine bindG h fun x24 hx24 h => ?_
                      refine anM (at_ix rfl hx24) ?_
                      refine exM (eI x24) (at_get rfl hx24) ?_
                      exact ⟨(x24, (w64 (v17 - 1))), h, ⟨rfl, ⟨rfl, rfl, rfl, rfl, rfl, rfl, rfl, rfl, rfl, trivial⟩, ⟨rfl, trivial⟩⟩⟩
                · refine lqR h ?_
                  exact ⟨rfl, ⟨rfl, rfl, rfl, rfl, rfl, rfl, rfl, trivial⟩, ⟨rfl, trivial⟩⟩
              · intro r' S' h q
                exact lqL h q
              · rintro v18 S' h ⟨qn, ⟨qa0, qa1, qa2, qa3, qa4, qa5, qa6, _⟩, ⟨qb0, _⟩⟩
                exact ⟨v18, h, ⟨qn, ⟨qa0, qa1, qa2, qa3, qa4, qa5, qa6, trivial⟩, ⟨qb0, trivial⟩⟩⟩
            · rintro v15 h e hp
              refine bindG h fun x25 hx25 h => ?_
              refine anM (at_ix rfl hx25) ?_
              refine exM (eI x25) (at_get rfl hx25) ?_
              refine eqM ((v6.set (v5).toNat v15).map eI) (mSet rfl rfl) ?_
              exact ⟨((w64 (v5 + 1)), (v6.set (v5).toNat v15)), h, ⟨rfl, ⟨rfl, rfl, rfl, rfl, rfl, trivial⟩, ⟨rfl, trivial⟩⟩⟩
        · refine lqR h ?_
          exact ⟨rfl, ⟨rfl, rfl, trivial⟩, ⟨rfl, trivial⟩⟩
      · intro r' S' h q
        exact retE (enc := impl_NodesOk.enc) h q
      · rintro v7 S' h ⟨qn, ⟨qa0, qa1, _⟩, ⟨qb0, _⟩⟩
        exact ⟨v7, h, ⟨qn, ⟨qa0, qa1, trivial⟩, ⟨qb0, trivial⟩⟩⟩
    · rintro v4 h e hp
      refine eqM ((a0.length : Int) : Int) (mLen rfl) ?_
      refine bindG h fun x26 hx26 h => ?_
      refine anM (at_ix rfl hx26) ?_
      refine exM (eI x26) (at_get rfl hx26) ?_
      exact retE (enc := impl_NodesOk.enc) h rfl
def impl_isFun.enc (r : Bool) : Res := ([(.d (.p (.bool r)))], [])
def impl_isFun.f  (K : Nat) (a0 : List impl_Node) (a1 : Int) : Option (Bool) := (at_ a0 a1).bind fun x1 => (if x1.Kind = 3 then (some true) else (some (decide (x1.Kind = 6))))
theorem impl_isFun.ev   {K : Nat} {a0 : List impl_Node} {a1 : Int} {r : Bool} (h : impl_isFun.f  K a0 a1 = some r) : E 46 [(.d (.l true 7 (a0.map impl_Node.e))), (.d (.p (.int .i64 a1)))] = some ([(.d (.p (.bool r)))], []) := by
  refine Ev_intro (fn := Tryd.f46) rfl (by kernel_rfl) (c := _) rfl ⟨rfl, by simp⟩ rfl (evP_spec _ ?_)
  unfold impl_isFun.f at h
  refine goS ?_
  refine bindG h fun x1 hx1 h => ?_
  refine anM (at_ix rfl hx1) ?_
  refine exM (impl_Node.e x1) (at_get rfl hx1) ?_
  refine iteF h (fun c2 h => ?_) (fun c2 h => ?_)
  · refine Ask.T rfl ?_
    refine Ask.T rfl ?_
    refine Ask.T rfl ?_
    refine Ask.T rfl ?_
    refine Ask.T rfl ?_
    refine Ask.T rfl ?_
    exact retE (enc := impl_isFun.enc) h rfl
  · refine Ask.F rfl ?_
    refine Ask.F rfl ?_
    refine anM (at_ix rfl hx1) ?_
    refine Ask.F rfl ?_
    refine Ask.F rfl ?_
    refine exM (impl_Node.e x1) (at_get rfl hx1) ?_
    refine Ask.F rfl ?_
    refine Ask.F rfl ?_
    exact retE (enc := impl_isFun.enc) h rfl
def impl_parents.enc (r : List Int) : Res := ([(.own true 1 (r.map eI))], [])
def impl_parents.l0 (a0 : List impl_Node) (K : Nat) : Nat → Int → (List Int) → Option (List Int)
  | 0, _, _ => none
  | k + 1, v2, v3 => if v2 < ((List.replicate ((a0.length : Int)).toNat (0 : Int)).length : Int) then ((at_ v3 v2).bind fun x6 => (impl_parents.l0 a0 K k (w64 (v2 + 1)) (v3.set (v2).toNat (-1)))) else (some v3)
def impl_parents.l2 (v8 : Int) (y14 : List Int) (K : Nat) : Nat → Int → (List Int) → Option (List Int)
  | 0, _, _ => none
  | k + 1, v16, v17 => if v16 < (y14.length : Int) then ((at_ y14 v16).bind fun x20 => ((at_ v17 x20).bind fun x21 => (impl_parents.l2 v8 y14 K k (w64 (v16 + 1)) (v17.set (x20).toNat v8)))) else (some v17)
def impl_parents.l1 (a0 : List impl_Node) (K : Nat) : Nat → Int → (List Int) → Option (List Int)
  | 0, _, _ => none
  | k + 1, v8, v9 => if v8 < (a0.length : Int) then (jn (fun (v12 : List Int) => impl_parents.l1 a0 K k (w64 (v8 + 1)) v12) (fun j => (at_ a0 v8).bind fun x13 => ((impl_Kids.f K x13).bind fun y14 => ((impl_parents.l2 v8 y14 K K 0 v9).bind fun (v18 : List Int) => j v18)))) else (some v9)
def impl_parents.f  (K : Nat) (a0 : List impl_Node) : Option (List Int) := gd (0 ≤ (a0.length : Int) ∧ 8 * (a0.length : Int) ≤ 140737488355328 ∧ (a0.length : Int) ≤ 140737488355328) (jn (fun (v1 : List Int) => jn (fun (v7 : List Int) => some v7) (fun j => (impl_parents.l1 a0 K K 0 v1).bind fun (v10 : List Int) => j v10)) (fun j => (impl_parents.l0 a0 K K 0 (List.replicate ((a0.length : Int)).toNat (0 : Int))).bind fun (v4 : List Int) => j v4))
theorem impl_parents.ev   {K : Nat} {a0 : List impl_Node} {r : List Int} (h : impl_parents.f  K a0 = some r) : E 43 [(.d (.l true 7 (a0.map impl_Node.e)))] = some ([(.own true 1 (r.map eI))], []) := by
  refine Ev_intro (fn := Tryd.f43) rfl (by kernel_rfl) (c := _) rfl ⟨rfl, by simp⟩ rfl (evP_spec _ ?_)
  unfold impl_parents.f at h
  refine eqM ((a0.length : Int) : Int) (mLen rfl) ?_
  refine gdG h fun hc h => ?_
  refine anM ⟨rfl, hc⟩ ?_
  refine eqM ((List.replicate ((a0.length : Int)).toNat (0 : Int)).map eI) (mRep rfl) ?_
  refine seqJ h 42 (fun x => [(0, (.d (.l true 7 (a0.map impl_Node.e)))), (3, (.own 3 1 2))]) (fun x => [(3, 1, 2, (some (.row true true 1 (x.map eI))))]) (fun J h => ?_) ?_
  · refine eqM (((List.replicate ((a0.length : Int)).toNat (0 : Int)).length : Int) : Int) (mLen rfl) ?_
    refine loopX (α := Int × List Int) (a := (0, (List.replicate ((a0.length : Int)).toNat (0 : Int)))) 42 (fun x => [(0, (.d (.l true 7 (a0.map impl_Node.e)))), (3, (.own 3 1 2)), (13, (.d (.p (.int .i64 ((List.replicate ((a0.length : Int)).toNat (0 : Int)).length : Int))))), (14, (.d (.p (.int .i64 x.1))))]) (fun x => [(3, 1, 2, (some (.row true true 1 (x.2.map eI))))]) (fun k x => impl_parents.l0 a0 K k x.1 x.2) 0 (fun x => [(0, (.d (.l true 7 (a0.map impl_Node.e)))), (3, (.own 3 1 2))]) (fun x => [(3, 1, 2, (some (.row true true 1 (x.map eI))))]) h (fun _ => rfl) ?_ ⟨rfl, ⟨rfl, rfl, rfl, rfl, trivial⟩, ⟨rfl, trivial⟩⟩ ?_
    · rintro k ⟨v2, v3⟩ r h e hp
      replace h : impl_parents.l0 a0 K (k + 1) v2 v3 = some r := h
      unfold impl_parents.l0 at h
      refine goS ?_
      try ((with_reducible apply cdX); exact rfl)
      refine iteF h (fun c5 h => ?_) (fun c5 h => ?_)
      · refine goS ?_
        refine bindG h fun x6 hx6 h => ?_
        refine anM (at_ix rfl hx6) ?_
        refine exM (eI x6) (at_get rfl hx6) ?_
        refine eqM ((v3.set (v2).toNat (-1)).map eI) (mSet rfl rfl) ?_
        exact ⟨((w64 (v2 + 1)), (v3.set (v2).toNat (-1))), h, ⟨rfl, ⟨rfl, rfl, rfl, rfl, trivial⟩, ⟨rfl, trivial⟩⟩⟩
      · refine exQ h ?_
        exact ⟨rfl, ⟨rfl, rfl, trivial⟩, ⟨rfl, trivial⟩⟩
    · rintro v4 S' h ⟨qn, ⟨qa0, qa1, _⟩, ⟨qb0, _⟩⟩
      exact ⟨v4, h, ⟨qn, ⟨qa0, qa1, trivial⟩, ⟨qb0, trivial⟩⟩⟩
  · rintro v1 h e hp
    refine seqJ h 42 (fun x => [(3, (.own 3 1 2))]) (fun x => [(3, 1, 2, (some (.row true true 1 (x.map eI))))]) (fun J h => ?_) ?_
    · refine eqM ((a0.length : Int) : Int) (mLen rfl) ?_
      refine loopX (α := Int × List Int) (a := (0, v1)) 42 (fun x => [(3, (.own 3 1 2)), (21, (.d (.l true 7 (a0.map impl_Node.e)))), (22, (.d (.p (.int .i64 (a0.length : Int))))), (23, (.d (.p (.int .i64 x.1))))]) (fun x => [(3, 1, 2, (some (.row true true 1 (x.2.map eI))))]) (fun k x => impl_parents.l1 a0 K k x.1 x.2) 2 (fun x => [(3, (.own 3 1 2))]) (fun x => [(3, 1, 2, (some (.row true true 1 (x.map eI))))]) h (fun _ => rfl) ?_ ⟨rfl, ⟨rfl, rfl, rfl, rfl, trivial⟩, ⟨rfl, trivial⟩⟩ ?_
      · rintro k ⟨v8, v9⟩ r h e hp
        replace h : impl_parents.l1 a0 K (k + 1) v8 v9 = some r := h
        unfold impl_parents.l1 at h
        refine goS ?_
        try ((with_reducible apply cdX); exact rfl)
        refine iteF h (fun c11 h => ?_) (fun c11 h => ?_)
        · refine seqJ h 42 (fun x => [(3, (.own 3 1 2)), (21, (.d (.l true 7 (a0.map impl_Node.e)))), (22, (.d (.p (.int .i64 (a0.length : Int))))), (23, (.d (.p (.int .i64 v8))))]) (fun x => [(3, 1, 2, (some (.row true true 1 (x.map eI))))]) (fun J h => ?_) ?_
          · refine goS ?_
            refine bindG h fun x13 hx13 h => ?_
            refine anM (at_ix rfl hx13) ?_
            refine exM (impl_Node.e x13) (at_get rfl hx13) ?_
            refine bindG h fun y14 hy15 h => ?_
            refine exM ([(.d (.l true 1 (y14.map eI)))], []) ?_ ?_
            · exact impl_Kids.ev hy15
            refine eqM ((y14.length : Int) : Int) (mLen rfl) ?_
            refine loopX (α := Int × List Int) (a := (0, v9)) 42 (fun x => [(3, (.own 3 1 2)), (5, (.d (.p (.int .i64 v8)))), (21, (.d (.l true 7 (a0.map impl_Node.e)))), (22, (.d (.p (.int .i64 (a0.length : Int))))), (23, (.d (.p (.int .i64 v8)))), (29, (.d (.l true 1 (y14.map eI)))), (30, (.d (.p (.int .i64 (y14.length : Int))))), (31, (.d (.p (.int .i64 x.1))))]) (fun x => [(3, 1, 2, (some (.row true true 1 (x.2.map eI))))]) (fun k x => impl_parents.l2 v8 y14 K k x.1 x.2) 4 (fun x => [(3, (.own 3 1 2)), (21, (.d (.l true 7 (a0.map impl_Node.e)))), (22, (.d (.p (.int .i64 (a0.length : Int))))), (23, (.d (.p (.int .i64 v8))))]) (fun x => [(3, 1, 2, (some (.row true true 1 (x.map eI))))]) h (fun _ => rfl) ?_ ⟨rfl, ⟨rfl, rfl, rfl, rfl, rfl, rfl, rfl, rfl, trivial⟩, ⟨rfl, trivial⟩⟩ ?_
            · rintro k ⟨v16, v17⟩ r h e hp
              replace h : impl_parents.l2 v8 y14 K (k + 1) v16 v17 = some r := h
              unfold impl_parents.l2 at h
              refine goS ?_
              try ((with_reducible apply cdX); exact rfl)
              refine iteF h (fun c19 h => ?_) (fun c19 h => ?_)
              · refine goS ?_
                refine bindG h fun x20 hx20 h => ?_
                refine anM (at_ix rfl hx20) ?_
                refine exM (eI x20) (at_get rfl hx20) ?_
                refine bindG h fun x21 hx21 h => ?_
                refine anM (at_ix rfl hx21) ?_
                refine exM (eI x21) (at_get rfl hx21) ?_
                refine eqM ((v17.set (x20).toNat v8).map eI) (mSet rfl rfl) ?_
                exact ⟨((w64 (v16 + 1)), (v17.set (x20).toNat v8)), h, ⟨rfl, ⟨rfl, rfl, rfl, rfl, rfl, rfl, rfl, rfl, trivial⟩, ⟨rfl, trivial⟩⟩⟩
              · refine exQ h ?_
                exact ⟨rfl, ⟨rfl, rfl, rfl, rfl, trivial⟩, ⟨rfl, trivial⟩⟩
            · rintro v18 S' h ⟨qn, ⟨qa0, qa1, qa2, qa3, _⟩, ⟨qb0, _⟩⟩
              exact ⟨v18, h, ⟨qn, ⟨qa0, qa1, qa2, qa3, trivial⟩, ⟨qb0, trivial⟩⟩⟩
          · rintro v12 h e hp
            exact ⟨((w64 (v8 + 1)), v12), h, ⟨rfl, ⟨rfl, rfl, rfl, rfl, trivial⟩, ⟨rfl, trivial⟩⟩⟩
        · refine exQ h ?_
          exact ⟨rfl, ⟨rfl, trivial⟩, ⟨rfl, trivial⟩⟩
      · rintro v10 S' h ⟨qn, ⟨qa0, _⟩, ⟨qb0, _⟩⟩
        exact ⟨v10, h, ⟨qn, ⟨qa0, trivial⟩, ⟨qb0, trivial⟩⟩⟩
    · rintro v7 h e hp
      exact retE (enc := impl_parents.enc) h rfl
def impl_bindsIn.enc (r : List ByteArray × List Int) : Res := ([(.own true 1 (r.1.map eS)), (.own true 1 (r.2.map eI))], [])
def impl_bindsIn.f  (K : Nat) (a0 : impl_Node) (a1 : Int) : Option (List ByteArray × List Int) := jn (fun (v1 : Bool) => if v1 = true then (some (([a0.Name] : List ByteArray), ([0] : List Int))) else (jn (fun (v6 : Bool) => if v6 = true then (some (([a0.Other, a0.Name] : List ByteArray), ([1, 0] : List Int))) else (if a0.Kind = 6 then (some (([a0.Name] : List ByteArray), ([0] : List Int))) else (some (([] : List ByteArray), ([] : List Int))))) (fun j => jn (fun (v7 : Bool) => if v7 = true then (j true) else (if a0.Kind = 14 then (j (decide (a1 = a0.C))) else (j false))) (fun j => if a0.Kind = 6 then (j (decide (a1 = a0.A))) else (j false))))) (fun j => if a0.Kind = 3 then (j true) else (if a0.Kind = 5 then (j (decide (a1 = a0.B))) else (if a0.Kind = 19 then (j (decide (a1 = a0.B))) else (j false))))
theorem impl_bindsIn.ev   {K : Nat} {a0 : impl_Node} {a1 : Int} {r : List ByteArray × List Int} (h : impl_bindsIn.f  K a0 a1 = some r) : E 109 [(.agg (a0.e.map .d)), (.d (.p (.int .i64 a1)))] = some ([(.own true 1 (r.1.map eS)), (.own true 1 (r.2.map eI))], []) := by
  refine Ev_intro (fn := Tryd.f109) rfl (by kernel_rfl) (c := _) rfl ⟨rfl, by simp⟩ rfl (evP_spec _ ?_)
  unfold impl_bindsIn.f at h
  refine goS ?_
  refine seqJ h 61 (fun x => [(1, (.d (.p (.int .i64 a1)))), (2, (.ptr 2 0 2 0)), (6, (.d (.p (.bool x))))]) (fun x => [(2, 0, 2, (some (.box [(.d (.p (.int .i64 a0.Kind))), (.d (.p (.int .i64 a0.A))), (.d (.p (.int .i64 a0.B))), (.d (.p (.int .i64 a0.C))), (.d (.p (.int .i64 a0.N))), (.d (.p (.string a0.Name))), (.d (.p (.string a0.Other)))])))]) (fun J h => ?_) ?_
  · try ((with_reducible apply cdX); exact rfl)
    refine iteF h (fun c2 h => ?_) (fun c2 h => ?_)
    · exact ⟨true, h, ⟨rfl, ⟨rfl, rfl, rfl, trivial⟩, ⟨rfl, trivial⟩⟩⟩
    · try ((with_reducible apply cdX); exact rfl)
      refine iteF h (fun c3 h => ?_) (fun c3 h => ?_)
      · refine Ask.T rfl ?_
        refine Ask.T rfl ?_
        refine Ask.T rfl ?_
        refine Ask.T rfl ?_
        refine Ask.T rfl ?_
        refine Ask.T rfl ?_
        refine Ask.T rfl ?_
        refine Ask.T rfl ?_
        exact ⟨(decide (a1 = a0.B)), h, ⟨rfl, ⟨rfl, rfl, rfl, trivial⟩, ⟨rfl, trivial⟩⟩⟩
      · refine Ask.F rfl ?_
        refine Ask.F rfl ?_
        refine Ask.F rfl ?_
        refine iteF h (fun c4 h => ?_) (fun c4 h => ?_)
        · refine Ask.T rfl ?_
          refine Ask.T rfl ?_
          refine Ask.T rfl ?_
          refine Ask.T rfl ?_
          exact ⟨(decide (a1 = a0.B)), h, ⟨rfl, ⟨rfl, rfl, rfl, trivial⟩, ⟨rfl, trivial⟩⟩⟩
        · refine Ask.F rfl ?_
          refine Ask.F rfl ?_
          refine Ask.F rfl ?_
          refine Ask.F rfl ?_
          exact ⟨false, h, ⟨rfl, ⟨rfl, rfl, rfl, trivial⟩, ⟨rfl, trivial⟩⟩⟩
  · rintro v1 h e hp
    try ((with_reducible apply cdX); exact rfl)
    refine ifB h (fun c5 h => ?_) (fun c5 h => ?_)
    · refine eqM (([a0.Name] : List ByteArray).map eS) rfl ?_
      refine eqM (([0] : List Int).map eI) rfl ?_
      exact retE (enc := impl_bindsIn.enc) h rfl
    · refine seqJ h 61 (fun x => [(2, (.ptr 2 0 2 0)), (28, (.d (.p (.bool x))))]) (fun x => [(2, 0, 2, (some (.box [(.d (.p (.int .i64 a0.Kind))), (.d (.p (.int .i64 a0.A))), (.d (.p (.int .i64 a0.B))), (.d (.p (.int .i64 a0.C))), (.d (.p (.int .i64 a0.N))), (.d (.p (.string a0.Name))), (.d (.p (.string a0.Other)))])))]) (fun J h => ?_) ?_
      · refine seqJ h 61 (fun x => [(1, (.d (.p (.int .i64 a1)))), (2, (.ptr 2 0 2 0)), (28, (.d (.p (.bool x))))]) (fun x => [(2, 0, 2, (some (.box [(.d (.p (.int .i64 a0.Kind))), (.d (.p (.int .i64 a0.A))), (.d (.p (.int .i64 a0.B))), (.d (.p (.int .i64 a0.C))), (.d (.p (.int .i64 a0.N))), (.d (.p (.string a0.Name))), (.d (.p (.string a0.Other)))])))]) (fun J h => ?_) ?_
        · try ((with_reducible apply cdX); exact rfl)
          refine iteF h (fun c8 h => ?_) (fun c8 h => ?_)
          · refine Ask.T rfl ?_
            refine Ask.T rfl ?_
            refine Ask.T rfl ?_
            refine Ask.T rfl ?_
            exact ⟨(decide (a1 = a0.A)), h, ⟨rfl, ⟨rfl, rfl, rfl, trivial⟩, ⟨rfl, trivial⟩⟩⟩
          · refine Ask.F rfl ?_
            refine Ask.F rfl ?_
            refine Ask.F rfl ?_
            refine Ask.F rfl ?_
            exact ⟨false, h, ⟨rfl, ⟨rfl, rfl, rfl, trivial⟩, ⟨rfl, trivial⟩⟩⟩
        · rintro v7 h e hp
          try ((with_reducible apply cdX); exact rfl)
          refine ifB h (fun c9 h => ?_) (fun c9 h => ?_)
          · exact ⟨true, h, ⟨rfl, ⟨rfl, rfl, trivial⟩, ⟨rfl, trivial⟩⟩⟩
          · try ((with_reducible apply cdX); exact rfl)
            refine iteF h (fun c10 h => ?_) (fun c10 h => ?_)
            · refine Ask.T rfl ?_
              refine Ask.T rfl ?_
              refine Ask.T rfl ?_
              refine Ask.T rfl ?_
              exact ⟨(decide (a1 = a0.C)), h, ⟨rfl, ⟨rfl, rfl, trivial⟩, ⟨rfl, trivial⟩⟩⟩
            · refine Ask.F rfl ?_
              refine Ask.F rfl ?_
              refine Ask.F rfl ?_
              refine Ask.F rfl ?_
              exact ⟨false, h, ⟨rfl, ⟨rfl, rfl, trivial⟩, ⟨rfl, trivial⟩⟩⟩
      · rintro v6 h e hp
        try ((with_reducible apply cdX); exact rfl)
        refine ifB h (fun c11 h => ?_) (fun c11 h => ?_)
        · refine eqM (([a0.Other, a0.Name] : List ByteArray).map eS) rfl ?_
          refine eqM (([1, 0] : List Int).map eI) rfl ?_
          exact retE (enc := impl_bindsIn.enc) h rfl
        · try ((with_reducible apply cdX); exact rfl)
          refine iteF h (fun c12 h => ?_) (fun c12 h => ?_)
          · refine eqM (([a0.Name] : List ByteArray).map eS) rfl ?_
            refine eqM (([0] : List Int).map eI) rfl ?_
            exact retE (enc := impl_bindsIn.enc) h rfl
          · exact retE (enc := impl_bindsIn.enc) h rfl
def impl_binderOf.enc (r : impl_Bind) : Res := ([(.agg (r.e.map .d))], [])
def impl_binderOf.en (a0 : List impl_Node) (a1 : List Int) (a2 : Int) (a3 : ByteArray) (r : impl_Bind) (S : St) : Prop := endV tb md 77 Tryd.f77 [(.d (.l true 7 (a0.map impl_Node.e))), (.d (.l true 1 (a1.map eI))), (.d (.p (.int .i64 a2))), (.d (.p (.string a3)))] .ret S = some (impl_binderOf.enc r)
def impl_binderOf.l1 (a1 : List Int) (a3 : ByteArray) (v1 : Int) (y5 : List ByteArray) (y6 : List Int) (K : Nat) : Nat → Int → Option (impl_Bind ⊕ Unit)
  | 0, _ => none
  | k + 1, v8 => if v8 < (y5.length : Int) then ((at_ y5 v8).bind fun x10 => (if (x10.toList == a3.toList) = true then ((at_ a1 v1).bind fun x12 => ((at_ y6 v8).bind fun x13 => (some (.inl (⟨x12, x13⟩ : impl_Bind))))) else (impl_binderOf.l1 a1 a3 v1 y5 y6 K k (w64 (v8 + 1))))) else (some (.inr ()))
def impl_binderOf.l0 (a0 : List impl_Node) (a1 : List Int) (a3 : ByteArray) (K : Nat) : Nat → Int → Option (impl_Bind ⊕ Unit)
  | 0, _ => none
  | k + 1, v1 => (at_ a1 v1).bind fun x2 => (if x2 ≥ 0 then ((at_ a0 x2).bind fun x4 => ((impl_bindsIn.f K x4 v1).bind fun (y5, y6) => (jn (fun (_ : Unit) => impl_binderOf.l0 a0 a1 a3 K k x2) (fun j => lb (impl_binderOf.l1 a1 a3 v1 y5 y6 K K 0) (fun r => some (.inl r)) (fun (_ : Unit) => j ()))))) else (some (.inr ())))
def impl_binderOf.f  (K : Nat) (a0 : List impl_Node) (a1 : List Int) (a2 : Int) (a3 : ByteArray) : Option (impl_Bind) := jn (fun (_ : Unit) => some (⟨(-1), (-1)⟩ : impl_Bind)) (fun j => lb (impl_binderOf.l0 a0 a1 a3 K K a2) (fun r => some r) (fun (_ : Unit) => j ()))
theorem impl_binderOf.ev   {K : Nat} {a0 : List impl_Node} {a1 : List Int} {a2 : Int} {a3 : ByteArray} {r : impl_Bind} (h : impl_binderOf.f  K a0 a1 a2 a3 = some r) : E 77 [(.d (.l true 7 (a0.map impl_Node.e))), (.d (.l true 1 (a1.map eI))), (.d (.p (.int .i64 a2))), (.d (.p (.string a3)))] = some ([(.agg (r.e.map .d))], []) := by
  refine Ev_intro (fn := Tryd.f77) rfl (by kernel_rfl) (c := _) rfl ⟨rfl, by simp⟩ rfl (evP_spec _ ?_)
  unfold impl_binderOf.f at h
  refine seqJ h 55 (fun x => [(8, (.ptr 8 0 2 0))]) (fun x => [(8, 0, 2, (some (.box [(.d (.p (.int .i64 0))), (.d (.p (.int .i64 0)))])))]) (fun J h => ?_) ?_
  · refine loopB (α := Int) (a := a2) 55 (fun x => [(0, (.d (.l true 7 (a0.map impl_Node.e)))), (1, (.d (.l true 1 (a1.map eI)))), (2, (.d (.p (.int .i64 x)))), (3, (.d (.p (.string a3)))), (8, (.ptr 8 0 2 0))]) (fun x => [(8, 0, 2, (some (.box [(.d (.p (.int .i64 0))), (.d (.p (.int .i64 0)))])))]) (fun k x => impl_binderOf.l0 a0 a1 a3 K k x) (impl_binderOf.en a0 a1 a2 a3) 0 (fun x => [(8, (.ptr 8 0 2 0))]) (fun x => [(8, 0, 2, (some (.box [(.d (.p (.int .i64 0))), (.d (.p (.int .i64 0)))])))]) h (fun _ => rfl) ?_ ⟨rfl, ⟨rfl, rfl, rfl, rfl, rfl, trivial⟩, ⟨rfl, trivial⟩⟩ ?_ ?_
    · rintro k v1 r h e hp
      replace h : impl_binderOf.l0 a0 a1 a3 K (k + 1) v1 = some r := h
      unfold impl_binderOf.l0 at h
      refine goS ?_
      refine bindG h fun x2 hx2 h => ?_
      refine anM (at_ix rfl hx2) ?_
      refine exM (eI x2) (at_get rfl hx2) ?_
      refine iteF h (fun c3 h => ?_) (fun c3 h => ?_)
      · refine anM (at_ix rfl hx2) ?_
        refine exM (eI x2) (at_get rfl hx2) ?_
        refine bindG h fun x4 hx4 h => ?_
        refine anM (at_ix rfl hx4) ?_
        refine exM (impl_Node.e x4) (at_get rfl hx4) ?_
        refine bindG h ?_
        rintro ⟨y5, y6⟩ hy7 h
        refine exM ([(.own true 1 (y5.map eS)), (.own true 1 (y6.map eI))], []) ?_ ?_
        · exact impl_bindsIn.ev hy7
        refine seqJ h 55 (fun x => [(0, (.d (.l true 7 (a0.map impl_Node.e)))), (1, (.d (.l true 1 (a1.map eI)))), (2, (.d (.p (.int .i64 v1)))), (3, (.d (.p (.string a3)))), (8, (.ptr 8 0 2 0))]) (fun x => [(8, 0, 2, (some (.box [(.d (.p (.int .i64 0))), (.d (.p (.int .i64 0)))])))]) (fun J h => ?_) ?_
        · refine eqM ((y5.length : Int) : Int) (mLen rfl) ?_
          refine loopB (α := Int) (a := 0) 55 (fun x => [(0, (.d (.l true 7 (a0.map impl_Node.e)))), (1, (.d (.l true 1 (a1.map eI)))), (2, (.d (.p (.int .i64 v1)))), (3, (.d (.p (.string a3)))), (8, (.ptr 8 0 2 0)), (10, (.own 10 1 2)), (30, (.own 9 1 2)), (31, (.d (.p (.int .i64 (y5.length : Int))))), (32, (.d (.p (.int .i64 x))))]) (fun x => [(8, 0, 2, (some (.box [(.d (.p (.int .i64 0))), (.d (.p (.int .i64 0)))]))), (9, 1, 2, (some (.row true true 1 (y5.map eS)))), (10, 1, 2, (some (.row true true 1 (y6.map eI))))]) (fun k x => impl_binderOf.l1 a1 a3 v1 y5 y6 K k x) (impl_binderOf.en a0 a1 a2 a3) 2 (fun x => [(0, (.d (.l true 7 (a0.map impl_Node.e)))), (1, (.d (.l true 1 (a1.map eI)))), (2, (.d (.p (.int .i64 v1)))), (3, (.d (.p (.string a3)))), (8, (.ptr 8 0 2 0))]) (fun x => [(8, 0, 2, (some (.box [(.d (.p (.int .i64 0))), (.d (.p (.int .i64 0)))])))]) h (fun _ => rfl) ?_ ⟨rfl, ⟨rfl, rfl, rfl, rfl, rfl, rfl, rfl, rfl, rfl, trivial⟩, ⟨rfl, rfl, rfl, trivial⟩⟩ ?_ ?_
          · rintro k v8 r h e hp
            replace h : impl_binderOf.l1 a1 a3 v1 y5 y6 K (k + 1) v8 = some r := h
            unfold impl_binderOf.l1 at h
            refine goS ?_
            try ((with_reducible apply cdX); exact rfl)
            refine iteF h (fun c9 h => ?_) (fun c9 h => ?_)
            · refine goS ?_
              refine bindG h fun x10 hx10 h => ?_
              refine anM (at_ix rfl hx10) ?_
              refine exM (eS x10) (at_get rfl hx10) ?_
              refine ifB h (fun c11 h => ?_) (fun c11 h => ?_)
              · refine goS ?_
                refine ⟨[[], [], [46, 47], [46, 47], [], [], [42, 43], [42, 43], [], []], [], by kernel_rfl, ?_⟩
                refine bindG h fun x12 hx12 h => ?_
                refine anM (at_ix rfl hx12) ?_
                refine exM (eI x12) (at_get rfl hx12) ?_
                refine bindG h fun x13 hx13 h => ?_
                refine anM (at_ix rfl hx13) ?_
                refine exM (eI x13) (at_get rfl hx13) ?_
                exact lqL h rfl
              · exact ⟨(w64 (v8 + 1)), h, ⟨rfl, ⟨rfl, rfl, rfl, rfl, rfl, rfl, rfl, rfl, rfl, trivial⟩, ⟨rfl, rfl, rfl, trivial⟩⟩⟩
            · refine lqR h ?_
              exact ⟨rfl, ⟨rfl, rfl, rfl, rfl, rfl, trivial⟩, ⟨rfl, trivial⟩⟩
          · intro r' S' h q
            exact lqL h q
          · rintro _ S' h ⟨qn, ⟨qa0, qa1, qa2, qa3, qa4, _⟩, ⟨qb0, _⟩⟩
            exact ⟨(), h, ⟨qn, ⟨qa0, qa1, qa2, qa3, qa4, trivial⟩, ⟨qb0, trivial⟩⟩⟩
        · rintro _ h e hp
          refine anM (at_ix rfl hx2) ?_
          refine exM (eI x2) (at_get rfl hx2) ?_
          exact ⟨x2, h, ⟨rfl, ⟨rfl, rfl, rfl, rfl, rfl, trivial⟩, ⟨rfl, trivial⟩⟩⟩
      · refine lqR h ?_
        exact ⟨rfl, ⟨rfl, trivial⟩, ⟨rfl, trivial⟩⟩
    · intro r' S' h q
      exact retE (enc := impl_binderOf.enc) h q
    · rintro _ S' h ⟨qn, ⟨qa0, _⟩, ⟨qb0, _⟩⟩
      exact ⟨(), h, ⟨qn, ⟨qa0, trivial⟩, ⟨qb0, trivial⟩⟩⟩
  · rintro _ h e hp
    refine goS ?_
    exact retE (enc := impl_binderOf.enc) h rfl
def impl_binders.enc (r : List impl_Bind) : Res := ([(.own true 2 (r.map impl_Bind.e))], [])
def impl_binders.l0 (a0 : List impl_Node) (y1 : List Int) (K : Nat) : Nat → Int → (List impl_Bind) → Option (List impl_Bind)
  | 0, _, _ => none
  | k + 1, v4, v5 => if v4 < (a0.length : Int) then ((at_ a0 v4).bind fun x8 => (jn (fun (v9 : impl_Bind) => gd ((v5.length + 1) * 16 ≤ 140737488355328) (impl_binders.l0 a0 y1 K k (w64 (v4 + 1)) (v5 ++ ([v9] : List impl_Bind)))) (fun j => if x8.Kind = 1 then ((impl_binderOf.f K a0 y1 v4 x8.Name).bind fun y11 => (j y11)) else (j (⟨(-1), (-1)⟩ : impl_Bind))))) else (some v5)
def impl_binders.f  (K : Nat) (a0 : List impl_Node) : Option (List impl_Bind) := (impl_parents.f K a0).bind fun y1 => (jn (fun (v3 : List impl_Bind) => some v3) (fun j => (impl_binders.l0 a0 y1 K K 0 ([] : List impl_Bind)).bind fun (v6 : List impl_Bind) => j v6))
theorem impl_binders.ev   {K : Nat} {a0 : List impl_Node} {r : List impl_Bind} (h : impl_binders.f  K a0 = some r) : E 48 [(.d (.l true 7 (a0.map impl_Node.e)))] = some ([(.own true 2 (r.map impl_Bind.e))], []) := by
  refine Ev_intro (fn := Tryd.f48) rfl (by kernel_rfl) (c := _) rfl ⟨rfl, by simp⟩ rfl (evP_spec _ ?_)
  unfold impl_binders.f at h
  refine bindG h fun y1 hy2 h => ?_
  refine exM ([(.own true 1 (y1.map eI))], []) ?_ ?_
  · exact impl_parents.ev hy2
  refine seqJ h 33 (fun x => [(4, (.own 4 1 2))]) (fun x => [(4, 1, 2, (some (.row true true 2 (x.map impl_Bind.e))))]) (fun J h => ?_) ?_
  · refine eqM ((a0.length : Int) : Int) (mLen rfl) ?_
    refine loopX (α := Int × List impl_Bind) (a := (0, ([] : List impl_Bind))) 33 (fun x => [(0, (.d (.l true 7 (a0.map impl_Node.e)))), (3, (.own 3 1 2)), (4, (.own 4 1 2)), (10, (.d (.l true 7 (a0.map impl_Node.e)))), (11, (.d (.p (.int .i64 (a0.length : Int))))), (12, (.d (.p (.int .i64 x.1))))]) (fun x => [(3, 1, 2, (some (.row true true 1 (y1.map eI)))), (4, 1, 2, (some (.row true true 2 (x.2.map impl_Bind.e))))]) (fun k x => impl_binders.l0 a0 y1 K k x.1 x.2) 0 (fun x => [(4, (.own 4 1 2))]) (fun x => [(4, 1, 2, (some (.row true true 2 (x.map impl_Bind.e))))]) h (fun _ => rfl) ?_ ⟨rfl, ⟨rfl, rfl, rfl, rfl, rfl, rfl, trivial⟩, ⟨rfl, rfl, trivial⟩⟩ ?_
    · rintro k ⟨v4, v5⟩ r h e hp
      replace h : impl_binders.l0 a0 y1 K (k + 1) v4 v5 = some r := h
      unfold impl_binders.l0 at h
      refine goS ?_
      try ((with_reducible apply cdX); exact rfl)
      refine iteF h (fun c7 h => ?_) (fun c7 h => ?_)
      · refine goS ?_
        refine goS ?_
        refine bindG h fun x8 hx8 h => ?_
        refine anM (at_ix rfl hx8) ?_
        refine exM (impl_Node.e x8) (at_get rfl hx8) ?_
        refine goS ?_
        refine seqJ h 33 (fun x => [(0, (.d (.l true 7 (a0.map impl_Node.e)))), (3, (.own 3 1 2)), (4, (.own 4 1 2)), (7, (.ptr 7 0 2 0)), (10, (.d (.l true 7 (a0.map impl_Node.e)))), (11, (.d (.p (.int .i64 (a0.length : Int))))), (12, (.d (.p (.int .i64 v4))))]) (fun x => [(3, 1, 2, (some (.row true true 1 (y1.map eI)))), (4, 1, 2, (some (.row true true 2 (v5.map impl_Bind.e)))), (7, 0, 2, (some (.box [(.d (.p (.int .i64 x.Node))), (.d (.p (.int .i64 x.Role)))])))]) (fun J h => ?_) ?_
        · try ((with_reducible apply cdX); exact rfl)
          refine iteF h (fun c10 h => ?_) (fun c10 h => ?_)
          · refine bindG h fun y11 hy12 h => ?_
            refine exM ([(.agg (y11.e.map .d))], []) ?_ ?_
            · exact impl_binderOf.ev hy12
            exact ⟨y11, h, ⟨rfl, ⟨rfl, rfl, rfl, rfl, rfl, rfl, rfl, trivial⟩, ⟨rfl, rfl, rfl, trivial⟩⟩⟩
          · exact ⟨(⟨(-1), (-1)⟩ : impl_Bind), h, ⟨rfl, ⟨rfl, rfl, rfl, rfl, rfl, rfl, rfl, trivial⟩, ⟨rfl, rfl, rfl, trivial⟩⟩⟩
        · rintro v9 h e hp
          refine eqM (([v9] : List impl_Bind).map impl_Bind.e) rfl ?_
          refine gdG h fun hc h => ?_
          refine anM (apB hc) ?_
          refine eqM ((v5 ++ ([v9] : List impl_Bind)).map impl_Bind.e) (mApp rfl rfl) ?_
          exact ⟨((w64 (v4 + 1)), (v5 ++ ([v9] : List impl_Bind))), h, ⟨rfl, ⟨rfl, rfl, rfl, rfl, rfl, rfl, trivial⟩, ⟨rfl, rfl, trivial⟩⟩⟩
      · refine exQ h ?_
        exact ⟨rfl, ⟨rfl, trivial⟩, ⟨rfl, trivial⟩⟩
    · rintro v6 S' h ⟨qn, ⟨qa0, _⟩, ⟨qb0, _⟩⟩
      exact ⟨v6, h, ⟨qn, ⟨qa0, trivial⟩, ⟨qb0, trivial⟩⟩⟩
  · rintro v3 h e hp
    exact retE (enc := impl_binders.enc) h rfl
def impl_startOf.enc (r : Int) : Res := ([(.d (.p (.int .i64 r)))], [])
def impl_startOf.l0 (a0 : List impl_Node) (K : Nat) : Nat → Int → Option (Int)
  | 0, _ => none
  | k + 1, v2 => (at_ a0 v2).bind fun x4 => ((impl_Arity.f K x4.Kind).bind fun y5 => (if y5 > 0 then (impl_startOf.l0 a0 K k x4.A) else (some v2)))
def impl_startOf.f  (K : Nat) (a0 : List impl_Node) (a1 : Int) : Option (Int) := jn (fun (v1 : Int) => some v1) (fun j => (impl_startOf.l0 a0 K K a1).bind fun (v3 : Int) => j v3)
theorem impl_startOf.ev   {K : Nat} {a0 : List impl_Node} {a1 : Int} {r : Int} (h : impl_startOf.f  K a0 a1 = some r) : E 41 [(.d (.l true 7 (a0.map impl_Node.e))), (.d (.p (.int .i64 a1)))] = some ([(.d (.p (.int .i64 r)))], []) := by
  refine Ev_intro (fn := Tryd.f41) rfl (by kernel_rfl) (c := _) rfl ⟨rfl, by simp⟩ rfl (evP_spec _ ?_)
  unfold impl_startOf.f at h
  refine seqJ h 18 (fun x => [(1, (.d (.p (.int .i64 x))))]) (fun x => []) (fun J h => ?_) ?_
  · refine loopX (α := Int) (a := a1) 18 (fun x => [(0, (.d (.l true 7 (a0.map impl_Node.e)))), (1, (.d (.p (.int .i64 x))))]) (fun x => []) (fun k x => impl_startOf.l0 a0 K k x) 0 (fun x => [(1, (.d (.p (.int .i64 x))))]) (fun x => []) h (fun _ => rfl) ?_ ⟨rfl, ⟨rfl, rfl, trivial⟩, trivial⟩ ?_
    · rintro k v2 r h e hp
      replace h : impl_startOf.l0 a0 K (k + 1) v2 = some r := h
      unfold impl_startOf.l0 at h
      refine goS ?_
      refine bindG h fun x4 hx4 h => ?_
      refine anM (at_ix rfl hx4) ?_
      refine exM (impl_Node.e x4) (at_get rfl hx4) ?_
      refine bindG h fun y5 hy6 h => ?_
      refine exM ([(.d (.p (.int .i64 y5)))], []) ?_ ?_
      · exact impl_Arity.ev hy6
      refine iteF h (fun c7 h => ?_) (fun c7 h => ?_)
      · refine anM (at_ix rfl hx4) ?_
        refine exM (impl_Node.e x4) (at_get rfl hx4) ?_
        exact ⟨x4.A, h, ⟨rfl, ⟨rfl, rfl, trivial⟩, trivial⟩⟩
      · refine exQ h ?_
        exact ⟨rfl, ⟨rfl, trivial⟩, trivial⟩
    · rintro v3 S' h ⟨qn, ⟨qa0, _⟩, ⟨_⟩⟩
      exact ⟨v3, h, ⟨qn, ⟨qa0, trivial⟩, trivial⟩⟩
  · rintro v1 h e hp
    exact retE (enc := impl_startOf.enc) h rfl
def impl_bodyOf.enc (r : Int × Int) : Res := ([(.d (.p (.int .i64 r.1))), (.d (.p (.int .i64 r.2)))], [])
def impl_bodyOf.f  (K : Nat) (a0 : List impl_Node) (a1 : Int) : Option (Int × Int) := (at_ a0 a1).bind fun x1 => ((impl_startOf.f K a0 x1.A).bind fun y2 => (some (y2, x1.A)))
theorem impl_bodyOf.ev   {K : Nat} {a0 : List impl_Node} {a1 : Int} {r : Int × Int} (h : impl_bodyOf.f  K a0 a1 = some r) : E 75 [(.d (.l true 7 (a0.map impl_Node.e))), (.d (.p (.int .i64 a1)))] = some ([(.d (.p (.int .i64 r.1))), (.d (.p (.int .i64 r.2)))], []) := by
  refine Ev_intro (fn := Tryd.f75) rfl (by kernel_rfl) (c := _) rfl ⟨rfl, by simp⟩ rfl (evP_spec _ ?_)
  unfold impl_bodyOf.f at h
  refine ⟨[[], [], [], [15, 16, 17], [15, 16, 17], [15, 16, 17], [15, 16, 17], [], [], [9, 10, 11, 12, 4], [9, 10, 11, 12, 4], [9, 10, 11, 12, 4], [15, 999999, 0, 1, 16, 999999, 0, 17, 999999, 0], []], [[], [], [], [], [], [], [], [], [], [999999, 0, 1], [999999, 0], [999999, 0], [], []], by kernel_rfl, ?_⟩
  refine bindG h fun x1 hx1 h => ?_
  refine anM (at_ix rfl hx1) ?_
  refine exM (impl_Node.e x1) (at_get rfl hx1) ?_
  refine bindG h fun y2 hy3 h => ?_
  refine exM ([(.d (.p (.int .i64 y2)))], []) ?_ ?_
  · exact impl_startOf.ev hy3
  refine anM (at_ix rfl hx1) ?_
  refine exM (impl_Node.e x1) (at_get rfl hx1) ?_
  exact retE (enc := impl_bodyOf.enc) h rfl
def impl_given.enc (r : impl_Bind) : Res := ([(.agg (r.e.map .d))], [])
def impl_given.f  (K : Nat) (a0 : List impl_Node) (a1 : Int) : Option (impl_Bind) := (at_ a0 a1).bind fun x1 => (if x1.Kind = 6 then (some (⟨a1, 1⟩ : impl_Bind)) else (some (⟨a1, 0⟩ : impl_Bind)))
theorem impl_given.ev   {K : Nat} {a0 : List impl_Node} {a1 : Int} {r : impl_Bind} (h : impl_given.f  K a0 a1 = some r) : E 76 [(.d (.l true 7 (a0.map impl_Node.e))), (.d (.p (.int .i64 a1)))] = some ([(.agg (r.e.map .d))], []) := by
  refine Ev_intro (fn := Tryd.f76) rfl (by kernel_rfl) (c := _) rfl ⟨rfl, by simp⟩ rfl (evP_spec _ ?_)
  unfold impl_given.f at h
  refine goS ?_
  refine bindG h fun x1 hx1 h => ?_
  refine anM (at_ix rfl hx1) ?_
  refine exM (impl_Node.e x1) (at_get rfl hx1) ?_
  refine iteF h (fun c2 h => ?_) (fun c2 h => ?_)
  · refine goS ?_
    exact retE (enc := impl_given.enc) h rfl
  · refine goS ?_
    exact retE (enc := impl_given.enc) h rfl
def impl_outerOf.enc (r : List impl_Bind) : Res := ([(.own true 2 (r.map impl_Bind.e))], [])
def impl_outerOf.l1 (v6 : List impl_Bind) (x10 : impl_Bind) (K : Nat) : Nat → Bool → Int → Option (Bool)
  | 0, _, _ => none
  | k + 1, v19, v20 => if v20 < (v6.length : Int) then (jn (fun (v23 : Bool) => impl_outerOf.l1 v6 x10 K k v23 (w64 (v20 + 1))) (fun j => (at_ v6 v20).bind fun x24 => (if v19 = true then (j true) else (j ((decide (x24.Node = x10.Node)) && ((decide (x24.Role = x10.Role)) && true)))))) else (some v19)
def impl_outerOf.l0 (a0 : List impl_Node) (a1 : List impl_Bind) (a2 : Int) (y1 : Int) (y2 : Int) (K : Nat) : Nat → Int → (List impl_Bind) → Option (List impl_Bind)
  | 0, _, _ => none
  | k + 1, v5, v6 => if v5 ≤ y2 then (jn (fun (v9 : List impl_Bind) => impl_outerOf.l0 a0 a1 a2 y1 y2 K k (w64 (v5 + 1)) v9) (fun j => (at_ a1 v5).bind fun x10 => (jn (fun (v11 : Bool) => jn (fun (v18 : Bool) => if (!v18) = true then (gd ((v6.length + 1) * 16 ≤ 140737488355328) (j (v6 ++ ([x10] : List impl_Bind)))) else (j v6)) (fun j => (impl_outerOf.l1 v6 x10 K K v11 0).bind fun (v21 : Bool) => j v21)) (fun j => if x10.Node < 0 then (j true) else ((impl_in.f K x10.Node y1 y2).bind fun y13 => (if y13 = true then (j true) else ((impl_given.f K a0 a2).bind fun y16 => (j ((decide (x10.Node = y16.Node)) && ((decide (x10.Role = y16.Role)) && true)))))))))) else (some v6)
def impl_outerOf.f  (K : Nat) (a0 : List impl_Node) (a1 : List impl_Bind) (a2 : Int) : Option (List impl_Bind) := (impl_bodyOf.f K a0 a2).bind fun (y1, y2) => (jn (fun (v4 : List impl_Bind) => some v4) (fun j => (impl_outerOf.l0 a0 a1 a2 y1 y2 K K y1 ([] : List impl_Bind)).bind fun (v7 : List impl_Bind) => j v7))
theorem impl_outerOf.ev   {K : Nat} {a0 : List impl_Node} {a1 : List impl_Bind} {a2 : Int} {r : List impl_Bind} (h : impl_outerOf.f  K a0 a1 a2 = some r) : E 47 [(.d (.l true 7 (a0.map impl_Node.e))), (.d (.l true 2 (a1.map impl_Bind.e))), (.d (.p (.int .i64 a2)))] = some ([(.own true 2 (r.map impl_Bind.e))], []) := by
  refine Ev_intro (fn := Tryd.f47) rfl (by kernel_rfl) (c := _) rfl ⟨rfl, by simp⟩ rfl (evP_spec _ ?_)
  unfold impl_outerOf.f at h
  refine bindG h ?_
  rintro ⟨y1, y2⟩ hy3 h
  refine exM ([(.d (.p (.int .i64 y1))), (.d (.p (.int .i64 y2)))], []) ?_ ?_
  · exact impl_bodyOf.ev hy3
  refine seqJ h 68 (fun x => [(9, (.own 9 1 2))]) (fun x => [(9, 1, 2, (some (.row true true 2 (x.map impl_Bind.e))))]) (fun J h => ?_) ?_
  · refine loopX (α := Int × List impl_Bind) (a := (y1, ([] : List impl_Bind))) 68 (fun x => [(0, (.d (.l true 7 (a0.map impl_Node.e)))), (1, (.d (.l true 2 (a1.map impl_Bind.e)))), (2, (.d (.p (.int .i64 a2)))), (7, (.d (.p (.int .i64 y1)))), (8, (.d (.p (.int .i64 y2)))), (9, (.own 9 1 2)), (10, (.d (.p (.int .i64 x.1))))]) (fun x => [(9, 1, 2, (some (.row true true 2 (x.2.map impl_Bind.e))))]) (fun k x => impl_outerOf.l0 a0 a1 a2 y1 y2 K k x.1 x.2) 0 (fun x => [(9, (.own 9 1 2))]) (fun x => [(9, 1, 2, (some (.row true true 2 (x.map impl_Bind.e))))]) h (fun _ => rfl) ?_ ⟨rfl, ⟨rfl, rfl, rfl, rfl, rfl, rfl, rfl, trivial⟩, ⟨rfl, trivial⟩⟩ ?_
    · rintro k ⟨v5, v6⟩ r h e hp
      replace h : impl_outerOf.l0 a0 a1 a2 y1 y2 K (k + 1) v5 v6 = some r := h
      unfold impl_outerOf.l0 at h
      refine goS ?_
      try ((with_reducible apply cdX); exact rfl)
      refine iteF h (fun c8 h => ?_) (fun c8 h => ?_)
      · refine seqJ h 68 (fun x => [(0, (.d (.l true 7 (a0.map impl_Node.e)))), (1, (.d (.l true 2 (a1.map impl_Bind.e)))), (2, (.d (.p (.int .i64 a2)))), (7, (.d (.p (.int .i64 y1)))), (8, (.d (.p (.int .i64 y2)))), (9, (.own 9 1 2)), (10, (.d (.p (.int .i64 v5))))]) (fun x => [(9, 1, 2, (some (.row true true 2 (x.map impl_Bind.e))))]) (fun J h => ?_) ?_
        · refine goS ?_
          refine bindG h fun x10 hx10 h => ?_
          refine anM (at_ix rfl hx10) ?_
          refine exM (impl_Bind.e x10) (at_get rfl hx10) ?_
          refine seqJ h 68 (fun x => [(0, (.d (.l true 7 (a0.map impl_Node.e)))), (1, (.d (.l true 2 (a1.map impl_Bind.e)))), (2, (.d (.p (.int .i64 a2)))), (7, (.d (.p (.int .i64 y1)))), (8, (.d (.p (.int .i64 y2)))), (9, (.own 9 1 2)), (10, (.d (.p (.int .i64 v5)))), (11, (.ptr 11 0 2 0)), (12, (.d (.p (.bool x))))]) (fun x => [(9, 1, 2, (some (.row true true 2 (v6.map impl_Bind.e)))), (11, 0, 2, (some (.box [(.d (.p (.int .i64 x10.Node))), (.d (.p (.int .i64 x10.Role)))])))]) (fun J h => ?_) ?_
          · refine ⟨[[], [], [], [], [], [], [], [], [], [], [], [45], [], [], [42], [], [], []], [], by kernel_rfl, ?_⟩
            refine iteF h (fun c12 h => ?_) (fun c12 h => ?_)
            · refine Ask.T rfl ?_
              refine Ask.T rfl ?_
              refine Ask.T rfl ?_
              refine Ask.T rfl ?_
              refine Ask.T rfl ?_
              refine Ask.T rfl ?_
              refine Ask.T rfl ?_
              refine Ask.T rfl ?_
              refine Ask.T rfl ?_
              refine Ask.T rfl ?_
              refine Ask.T rfl ?_
              exact ⟨true, h, ⟨rfl, ⟨rfl, rfl, rfl, rfl, rfl, rfl, rfl, rfl, rfl, trivial⟩, ⟨rfl, rfl, trivial⟩⟩⟩
            · refine Ask.F rfl ?_
              refine Ask.F rfl ?_
              refine Ask.F rfl ?_
              refine Ask.F rfl ?_
              refine bindG h fun y13 hy14 h => ?_
              refine exM ([(.d (.p (.bool y13)))], []) ?_ ?_
              · exact impl_in.ev hy14
              refine Ask.F rfl ?_
              refine ifB h (fun c15 h => ?_) (fun c15 h => ?_)
              · refine Ask.T rfl ?_
                refine Ask.T rfl ?_
                refine Ask.T rfl ?_
                refine Ask.T rfl ?_
                refine Ask.T rfl ?_
                exact ⟨true, h, ⟨rfl, ⟨rfl, rfl, rfl, rfl, rfl, rfl, rfl, rfl, rfl, trivial⟩, ⟨rfl, rfl, trivial⟩⟩⟩
              · refine Ask.F rfl ?_
                refine Ask.F rfl ?_
                refine Ask.F rfl ?_
                refine bindG h fun y16 hy17 h => ?_
                refine exM ([(.agg (y16.e.map .d))], []) ?_ ?_
                · exact impl_given.ev hy17
                refine Ask.F rfl ?_
                refine anM eqT43 ?_
                refine Ask.F rfl ?_
                exact ⟨((decide (x10.Node = y16.Node)) && ((decide (x10.Role = y16.Role)) && true)), h, ⟨rfl, ⟨rfl, rfl, rfl, rfl, rfl, rfl, rfl, rfl, rfl, trivial⟩, ⟨rfl, rfl, trivial⟩⟩⟩
          · rintro v11 h e hp
            refine seqJ h 68 (fun x => [(0, (.d (.l true 7 (a0.map impl_Node.e)))), (1, (.d (.l true 2 (a1.map impl_Bind.e)))), (2, (.d (.p (.int .i64 a2)))), (7, (.d (.p (.int .i64 y1)))), (8, (.d (.p (.int .i64 y2)))), (9, (.own 9 1 2)), (10, (.d (.p (.int .i64 v5)))), (11, (.ptr 11 0 2 0)), (12, (.d (.p (.bool x))))]) (fun x => [(9, 1, 2, (some (.row true true 2 (v6.map impl_Bind.e)))), (11, 0, 2, (some (.box [(.d (.p (.int .i64 x10.Node))), (.d (.p (.int .i64 x10.Role)))])))]) (fun J h => ?_) ?_
            · refine eqM ((v6.length : Int) : Int) (mLen rfl) ?_
              refine loopX (α := Bool × Int) (a := (v11, 0)) 68 (fun x => [(0, (.d (.l true 7 (a0.map impl_Node.e)))), (1, (.d (.l true 2 (a1.map impl_Bind.e)))), (2, (.d (.p (.int .i64 a2)))), (7, (.d (.p (.int .i64 y1)))), (8, (.d (.p (.int .i64 y2)))), (9, (.own 9 1 2)), (10, (.d (.p (.int .i64 v5)))), (11, (.ptr 11 0 2 0)), (12, (.d (.p (.bool x.1)))), (48, (.own 9 1 2)), (49, (.d (.p (.int .i64 (v6.length : Int))))), (50, (.d (.p (.int .i64 x.2))))]) (fun x => [(9, 1, 2, (some (.row true true 2 (v6.map impl_Bind.e)))), (11, 0, 2, (some (.box [(.d (.p (.int .i64 x10.Node))), (.d (.p (.int .i64 x10.Role)))])))]) (fun k x => impl_outerOf.l1 v6 x10 K k x.1 x.2) 2 (fun x => [(0, (.d (.l true 7 (a0.map impl_Node.e)))), (1, (.d (.l true 2 (a1.map impl_Bind.e)))), (2, (.d (.p (.int .i64 a2)))), (7, (.d (.p (.int .i64 y1)))), (8, (.d (.p (.int .i64 y2)))), (9, (.own 9 1 2)), (10, (.d (.p (.int .i64 v5)))), (11, (.ptr 11 0 2 0)), (12, (.d (.p (.bool x))))]) (fun x => [(9, 1, 2, (some (.row true true 2 (v6.map impl_Bind.e)))), (11, 0, 2, (some (.box [(.d (.p (.int .i64 x10.Node))), (.d (.p (.int .i64 x10.Role)))])))]) h (fun _ => rfl) ?_ ⟨rfl, ⟨rfl, rfl, rfl, rfl, rfl, rfl, rfl, rfl, rfl, rfl, rfl, rfl, trivial⟩, ⟨rfl, rfl, trivial⟩⟩ ?_
              · rintro k ⟨v19, v20⟩ r h e hp
                replace h : impl_outerOf.l1 v6 x10 K (k + 1) v19 v20 = some r := h
                unfold impl_outerOf.l1 at h
                refine goS ?_
                try ((with_reducible apply cdX); exact rfl)
                refine iteF h (fun c22 h => ?_) (fun c22 h => ?_)
                · refine seqJ h 68 (fun x => [(0, (.d (.l true 7 (a0.map impl_Node.e)))), (1, (.d (.l true 2 (a1.map impl_Bind.e)))), (2, (.d (.p (.int .i64 a2)))), (7, (.d (.p (.int .i64 y1)))), (8, (.d (.p (.int .i64 y2)))), (9, (.own 9 1 2)), (10, (.d (.p (.int .i64 v5)))), (11, (.ptr 11 0 2 0)), (12, (.d (.p (.bool x)))), (48, (.own 9 1 2)), (49, (.d (.p (.int .i64 (v6.length : Int))))), (50, (.d (.p (.int .i64 v20))))]) (fun x => [(9, 1, 2, (some (.row true true 2 (v6.map impl_Bind.e)))), (11, 0, 2, (some (.box [(.d (.p (.int .i64 x10.Node))), (.d (.p (.int .i64 x10.Role)))])))]) (fun J h => ?_) ?_
                  · refine goS ?_
                    refine bindG h fun x24 hx24 h => ?_
                    refine anM (at_ix rfl hx24) ?_
                    refine exM (impl_Bind.e x24) (at_get rfl hx24) ?_
                    refine ifB h (fun c25 h => ?_) (fun c25 h => ?_)
                    · refine Ask.T rfl ?_
                      refine Ask.T rfl ?_
                      refine Ask.T rfl ?_
                      exact ⟨true, h, ⟨rfl, ⟨rfl, rfl, rfl, rfl, rfl, rfl, rfl, rfl, rfl, rfl, rfl, rfl, trivial⟩, ⟨rfl, rfl, trivial⟩⟩⟩
                    · refine Ask.F rfl ?_
                      refine Ask.F rfl ?_
                      refine anM eqT43 ?_
                      refine Ask.F rfl ?_
                      exact ⟨((decide (x24.Node = x10.Node)) && ((decide (x24.Role = x10.Role)) && true)), h, ⟨rfl, ⟨rfl, rfl, rfl, rfl, rfl, rfl, rfl, rfl, rfl, rfl, rfl, rfl, trivial⟩, ⟨rfl, rfl, trivial⟩⟩⟩
                  · rintro v23 h e hp
                    exact ⟨(v23, (w64 (v20 + 1))), h, ⟨rfl, ⟨rfl, rfl, rfl, rfl, rfl, rfl, rfl, rfl, rfl, rfl, rfl, rfl, trivial⟩, ⟨rfl, rfl, trivial⟩⟩⟩
                · refine exQ h ?_
                  exact ⟨rfl, ⟨rfl, rfl, rfl, rfl, rfl, rfl, rfl, rfl, rfl, trivial⟩, ⟨rfl, rfl, trivial⟩⟩
              · rintro v21 S' h ⟨qn, ⟨qa0, qa1, qa2, qa3, qa4, qa5, qa6, qa7, qa8, _⟩, ⟨qb0, qb1, _⟩⟩
                exact ⟨v21, h, ⟨qn, ⟨qa0, qa1, qa2, qa3, qa4, qa5, qa6, qa7, qa8, trivial⟩, ⟨qb0, qb1, trivial⟩⟩⟩
            · rintro v18 h e hp
              try ((with_reducible apply cdX); exact rfl)
              refine ifB h (fun c26 h => ?_) (fun c26 h => ?_)
              · refine eqM (([x10] : List impl_Bind).map impl_Bind.e) rfl ?_
                refine gdG h fun hc h => ?_
                refine anM (apB hc) ?_
                refine eqM ((v6 ++ ([x10] : List impl_Bind)).map impl_Bind.e) (mApp rfl rfl) ?_
                exact ⟨(v6 ++ ([x10] : List impl_Bind)), h, ⟨rfl, ⟨rfl, rfl, rfl, rfl, rfl, rfl, rfl, trivial⟩, ⟨rfl, trivial⟩⟩⟩
              · exact ⟨v6, h, ⟨rfl, ⟨rfl, rfl, rfl, rfl, rfl, rfl, rfl, trivial⟩, ⟨rfl, trivial⟩⟩⟩
        · rintro v9 h e hp
          exact ⟨((w64 (v5 + 1)), v9), h, ⟨rfl, ⟨rfl, rfl, rfl, rfl, rfl, rfl, rfl, trivial⟩, ⟨rfl, trivial⟩⟩⟩
      · refine exQ h ?_
        exact ⟨rfl, ⟨rfl, trivial⟩, ⟨rfl, trivial⟩⟩
    · rintro v7 S' h ⟨qn, ⟨qa0, _⟩, ⟨qb0, _⟩⟩
      exact ⟨v7, h, ⟨qn, ⟨qa0, trivial⟩, ⟨qb0, trivial⟩⟩⟩
  · rintro v4 h e hp
    exact retE (enc := impl_outerOf.enc) h rfl
def impl_OuterOf.enc (r : List impl_Bind) : Res := ([(.own true 2 (r.map impl_Bind.e))], [])
def impl_OuterOf.f  (K : Nat) (a0 : List impl_Node) (a1 : Int) : Option (List impl_Bind) := jn (fun (v1 : Bool) => if v1 = true then (some ([] : List impl_Bind)) else ((impl_binders.f K a0).bind fun y11 => ((impl_outerOf.f K a0 y11 a1).bind fun y13 => (some y13)))) (fun j => (impl_NodesOk.f K a0).bind fun y2 => (if (!y2) = true then (j true) else ((impl_in.f K a1 0 (w64 ((a0.length : Int) - 1))).bind fun y5 => (if (!y5) = true then (j true) else ((impl_isFun.f K a0 a1).bind fun y8 => (j (!y8)))))))
theorem impl_OuterOf.ev   {K : Nat} {a0 : List impl_Node} {a1 : Int} {r : List impl_Bind} (h : impl_OuterOf.f  K a0 a1 = some r) : E 20 [(.d (.l true 7 (a0.map impl_Node.e))), (.d (.p (.int .i64 a1)))] = some ([(.own true 2 (r.map impl_Bind.e))], []) := by
  refine Ev_intro (fn := Tryd.f20) rfl (by kernel_rfl) (c := _) rfl ⟨rfl, by simp⟩ rfl (evP_spec _ ?_)
  unfold impl_OuterOf.f at h
  refine goS ?_
  refine seqJ h 27 (fun x => [(0, (.d (.l true 7 (a0.map impl_Node.e)))), (1, (.d (.p (.int .i64 a1)))), (21, (.d (.p (.bool x))))]) (fun x => []) (fun J h => ?_) ?_
  · refine bindG h fun y2 hy3 h => ?_
    refine exM ([(.d (.p (.bool y2)))], []) ?_ ?_
    · exact impl_NodesOk.ev hy3
    refine ifB h (fun c4 h => ?_) (fun c4 h => ?_)
    · refine Ask.T rfl ?_
      refine Ask.T rfl ?_
      refine Ask.T rfl ?_
      refine Ask.T rfl ?_
      refine Ask.T rfl ?_
      refine Ask.T rfl ?_
      refine Ask.T rfl ?_
      refine Ask.T rfl ?_
      refine Ask.T rfl ?_
      refine Ask.T rfl ?_
      refine Ask.T rfl ?_
      exact ⟨true, h, ⟨rfl, ⟨rfl, rfl, rfl, trivial⟩, trivial⟩⟩
    · refine Ask.F rfl ?_
      refine Ask.F rfl ?_
      refine eqM ((a0.length : Int) : Int) (mLen rfl) ?_
      refine Ask.F rfl ?_
      refine Ask.F rfl ?_
      refine bindG h fun y5 hy6 h => ?_
      refine exM ([(.d (.p (.bool y5)))], []) ?_ ?_
      · exact impl_in.ev hy6
      refine Ask.F rfl ?_
      refine Ask.F rfl ?_
      refine ifB h (fun c7 h => ?_) (fun c7 h => ?_)
      · refine Ask.T rfl ?_
        refine Ask.T rfl ?_
        refine Ask.T rfl ?_
        refine Ask.T rfl ?_
        exact ⟨true, h, ⟨rfl, ⟨rfl, rfl, rfl, trivial⟩, trivial⟩⟩
      · refine Ask.F rfl ?_
        refine Ask.F rfl ?_
        refine bindG h fun y8 hy9 h => ?_
        refine exM ([(.d (.p (.bool y8)))], []) ?_ ?_
        · exact impl_isFun.ev hy9
        refine Ask.F rfl ?_
        refine Ask.F rfl ?_
        exact ⟨(!y8), h, ⟨rfl, ⟨rfl, rfl, rfl, trivial⟩, trivial⟩⟩
  · rintro v1 h e hp
    try ((with_reducible apply cdX); exact rfl)
    refine ifB h (fun c10 h => ?_) (fun c10 h => ?_)
    · exact retE (enc := impl_OuterOf.enc) h rfl
    · refine bindG h fun y11 hy12 h => ?_
      refine exM ([(.own true 2 (y11.map impl_Bind.e))], []) ?_ ?_
      · exact impl_binders.ev hy12
      refine bindG h fun y13 hy14 h => ?_
      refine exM ([(.own true 2 (y13.map impl_Bind.e))], []) ?_ ?_
      · exact impl_outerOf.ev hy14
      exact retE (enc := impl_OuterOf.enc) h rfl
def spec_l3Name.enc (r : Bool) : Res := ([(.d (.p (.bool r)))], [])
def spec_l3Name.f  (K : Nat) (a0 : ByteArray) : Option (Bool) := (spec_IsWord.f K a0).bind fun y1 => (if y1 = true then ((spec_IsKey.f K a0).bind fun y4 => (some (!y4))) else (some false))
theorem spec_l3Name.ev   {K : Nat} {a0 : ByteArray} {r : Bool} (h : spec_l3Name.f  K a0 = some r) : E 101 [(.d (.p (.string a0)))] = some ([(.d (.p (.bool r)))], []) := by
  refine Ev_intro (fn := Tryd.f101) rfl (by kernel_rfl) (c := _) rfl ⟨rfl, by simp⟩ rfl (evP_spec _ ?_)
  unfold spec_l3Name.f at h
  refine goS ?_
  refine bindG h fun y1 hy2 h => ?_
  refine exM ([(.d (.p (.bool y1)))], []) ?_ ?_
  · exact spec_IsWord.ev hy2
  refine ifB h (fun c3 h => ?_) (fun c3 h => ?_)
  · refine Ask.T rfl ?_
    refine bindG h fun y4 hy5 h => ?_
    refine exM ([(.d (.p (.bool y4)))], []) ?_ ?_
    · exact spec_IsKey.ev hy5
    refine Ask.T rfl ?_
    refine Ask.T rfl ?_
    exact retE (enc := spec_l3Name.enc) h rfl
  · refine Ask.F rfl ?_
    refine Ask.F rfl ?_
    refine Ask.F rfl ?_
    exact retE (enc := spec_l3Name.enc) h rfl
def spec_l3Fields.enc (r : Bool) : Res := ([(.d (.p (.bool r)))], [])
def spec_l3Fields.f  (K : Nat) (a0 : impl_Node) : Option (Bool) := (spec_l1In.f K a0.Kind 1 19).bind fun y1 => (if (!y1) = true then (some false) else ((spec_Arity.f K a0.Kind).bind fun y4 => (jn (fun (v6 : Bool) => if v6 = true then (some false) else ((spec_l3Names.f K a0.Kind).bind fun y18 => (jn (fun (v20 : Bool) => if v20 = true then (some false) else (if a0.Kind = 2 then ((spec_l1In.f K a0.N 0 65535).bind fun y36 => (some y36)) else (if a0.Kind = 8 then ((spec_l1In.f K a0.N 0 3).bind fun y39 => (some y39)) else (some (decide (a0.N = 0)))))) (fun j => (spec_l3Name.f K a0.Name).bind fun y21 => (if ((decide (y18 > 0)) != y21) = true then (j true) else (if y18 = 0 then (if (!(a0.Name.toList == (⟨#[]⟩ : ByteArray).toList)) = true then (j true) else ((spec_l3Name.f K a0.Other).bind fun y26 => (if ((decide (y18 > 1)) != y26) = true then (j true) else (if y18 < 2 then (j (!(a0.Other.toList == (⟨#[]⟩ : ByteArray).toList))) else (j false))))) else ((spec_l3Name.f K a0.Other).bind fun y30 => (if ((decide (y18 > 1)) != y30) = true then (j true) else (if y18 < 2 then (j (!(a0.Other.toList == (⟨#[]⟩ : ByteArray).toList))) else (j false)))))))))) (fun j => if y4 < 1 then (if (!(decide (a0.A = 0))) = true then (j true) else (if y4 < 2 then (if (!(decide (a0.B = 0))) = true then (j true) else (if y4 < 3 then (j (!(decide (a0.C = 0)))) else (j false))) else (if y4 < 3 then (j (!(decide (a0.C = 0)))) else (j false)))) else (if y4 < 2 then (if (!(decide (a0.B = 0))) = true then (j true) else (if y4 < 3 then (j (!(decide (a0.C = 0)))) else (j false))) else (if y4 < 3 then (j (!(decide (a0.C = 0)))) else (j false)))))))
theorem spec_l3Fields.ev   {K : Nat} {a0 : impl_Node} {r : Bool} (h : spec_l3Fields.f  K a0 = some r) : E 68 [(.agg (a0.e.map .d))] = some ([(.d (.p (.bool r)))], []) := by
  refine Ev_intro (fn := Tryd.f68) rfl (by kernel_rfl) (c := _) rfl ⟨rfl, by simp⟩ rfl (evP_spec _ ?_)
  unfold spec_l3Fields.f at h
  refine goS ?_
  refine bindG h fun y1 hy2 h => ?_
  refine exM ([(.d (.p (.bool y1)))], []) ?_ ?_
  · exact spec_l1In.ev hy2
  refine ifB h (fun c3 h => ?_) (fun c3 h => ?_)
  · exact retE (enc := spec_l3Fields.enc) h rfl
  · refine bindG h fun y4 hy5 h => ?_
    refine exM ([(.d (.p (.int .i64 y4)))], []) ?_ ?_
    · exact spec_Arity.ev hy5
    refine goS ?_
    refine seqJ h 87 (fun x => [(1, (.ptr 1 0 2 0)), (36, (.d (.p (.bool x))))]) (fun x => [(1, 0, 2, (some (.box [(.d (.p (.int .i64 a0.Kind))), (.d (.p (.int .i64 a0.A))), (.d (.p (.int .i64 a0.B))), (.d (.p (.int .i64 a0.C))), (.d (.p (.int .i64 a0.N))), (.d (.p (.string a0.Name))), (.d (.p (.string a0.Other)))])))]) (fun J h => ?_) ?_
    · try ((with_reducible apply cdX); exact rfl)
      refine iteF h (fun c7 h => ?_) (fun c7 h => ?_)
      · refine Ask.T rfl ?_
        refine Ask.T rfl ?_
        refine Ask.T rfl ?_
        refine ifB h (fun c8 h => ?_) (fun c8 h => ?_)
        · refine Ask.T rfl ?_
          refine Ask.T rfl ?_
          refine Ask.T rfl ?_
          refine Ask.T rfl ?_
          refine Ask.T rfl ?_
          refine Ask.T rfl ?_
          refine Ask.T rfl ?_
          refine Ask.T rfl ?_
          refine Ask.T rfl ?_
          exact ⟨true, h, ⟨rfl, ⟨rfl, rfl, trivial⟩, ⟨rfl, trivial⟩⟩⟩
        · refine Ask.F rfl ?_
          refine Ask.F rfl ?_
          refine iteF h (fun c9 h => ?_) (fun c9 h => ?_)
          · refine Ask.T rfl ?_
            refine Ask.T rfl ?_
            refine Ask.F rfl ?_
            refine Ask.T rfl ?_
            refine Ask.F rfl ?_
            refine ifB h (fun c10 h => ?_) (fun c10 h => ?_)
            · refine Ask.T rfl ?_
              refine Ask.T rfl ?_
              refine Ask.T rfl ?_
              refine Ask.T rfl ?_
              exact ⟨true, h, ⟨rfl, ⟨rfl, rfl, trivial⟩, ⟨rfl, trivial⟩⟩⟩
            · refine Ask.F rfl ?_
              refine Ask.F rfl ?_
              refine iteF h (fun c11 h => ?_) (fun c11 h => ?_)
              · refine Ask.T rfl ?_
                refine Ask.T rfl ?_
                refine Ask.F rfl ?_
                refine Ask.T rfl ?_
                refine Ask.F rfl ?_
                exact ⟨(!(decide (a0.C = 0))), h, ⟨rfl, ⟨rfl, rfl, trivial⟩, ⟨rfl, trivial⟩⟩⟩
              · refine Ask.F rfl ?_
                refine Ask.F rfl ?_
                refine Ask.F rfl ?_
                refine Ask.F rfl ?_
                refine Ask.F rfl ?_
                exact ⟨false, h, ⟨rfl, ⟨rfl, rfl, trivial⟩, ⟨rfl, trivial⟩⟩⟩
          · refine Ask.F rfl ?_
            refine Ask.F rfl ?_
            refine Ask.F rfl ?_
            refine Ask.F rfl ?_
            refine Ask.F rfl ?_
            refine Ask.F rfl ?_
            refine Ask.F rfl ?_
            refine Ask.F rfl ?_
            refine iteF h (fun c12 h => ?_) (fun c12 h => ?_)
            · refine Ask.T rfl ?_
              refine Ask.T rfl ?_
              refine Ask.F rfl ?_
              refine Ask.T rfl ?_
              refine Ask.F rfl ?_
              exact ⟨(!(decide (a0.C = 0))), h, ⟨rfl, ⟨rfl, rfl, trivial⟩, ⟨rfl, trivial⟩⟩⟩
            · refine Ask.F rfl ?_
              refine Ask.F rfl ?_
              refine Ask.F rfl ?_
              refine Ask.F rfl ?_
              refine Ask.F rfl ?_
              exact ⟨false, h, ⟨rfl, ⟨rfl, rfl, trivial⟩, ⟨rfl, trivial⟩⟩⟩
      · refine Ask.F rfl ?_
        refine Ask.F rfl ?_
        refine Ask.F rfl ?_
        refine Ask.F rfl ?_
        refine Ask.F rfl ?_
        refine Ask.F rfl ?_
        refine iteF h (fun c13 h => ?_) (fun c13 h => ?_)
        · refine Ask.T rfl ?_
          refine Ask.T rfl ?_
          refine Ask.F rfl ?_
          refine Ask.T rfl ?_
          refine Ask.F rfl ?_
          refine ifB h (fun c14 h => ?_) (fun c14 h => ?_)
          · refine Ask.T rfl ?_
            refine Ask.T rfl ?_
            refine Ask.T rfl ?_
            refine Ask.T rfl ?_
            exact ⟨true, h, ⟨rfl, ⟨rfl, rfl, trivial⟩, ⟨rfl, trivial⟩⟩⟩
          · refine Ask.F rfl ?_
            refine Ask.F rfl ?_
            refine iteF h (fun c15 h => ?_) (fun c15 h => ?_)
            · refine Ask.T rfl ?_
              refine Ask.T rfl ?_
              refine Ask.F rfl ?_
              refine Ask.T rfl ?_
              refine Ask.F rfl ?_
              exact ⟨(!(decide (a0.C = 0))), h, ⟨rfl, ⟨rfl, rfl, trivial⟩, ⟨rfl, trivial⟩⟩⟩
            · refine Ask.F rfl ?_
              refine Ask.F rfl ?_
              refine Ask.F rfl ?_
              refine Ask.F rfl ?_
              refine Ask.F rfl ?_
              exact ⟨false, h, ⟨rfl, ⟨rfl, rfl, trivial⟩, ⟨rfl, trivial⟩⟩⟩
        · refine Ask.F rfl ?_
          refine Ask.F rfl ?_
          refine Ask.F rfl ?_
          refine Ask.F rfl ?_
          refine Ask.F rfl ?_
          refine Ask.F rfl ?_
          refine Ask.F rfl ?_
          refine Ask.F rfl ?_
          refine iteF h (fun c16 h => ?_) (fun c16 h => ?_)
          · refine Ask.T rfl ?_
            refine Ask.T rfl ?_
            refine Ask.F rfl ?_
            refine Ask.T rfl ?_
            refine Ask.F rfl ?_
            exact ⟨(!(decide (a0.C = 0))), h, ⟨rfl, ⟨rfl, rfl, trivial⟩, ⟨rfl, trivial⟩⟩⟩
          · refine Ask.F rfl ?_
            refine Ask.F rfl ?_
            refine Ask.F rfl ?_
            refine Ask.F rfl ?_
            refine Ask.F rfl ?_
            exact ⟨false, h, ⟨rfl, ⟨rfl, rfl, trivial⟩, ⟨rfl, trivial⟩⟩⟩
    · rintro v6 h e hp
      try ((with_reducible apply cdX); exact rfl)
      refine ifB h (fun c17 h => ?_) (fun c17 h => ?_)
      · exact retE (enc := spec_l3Fields.enc) h rfl
      · refine bindG h fun y18 hy19 h => ?_
        refine exM ([(.d (.p (.int .i64 y18)))], []) ?_ ?_
        · exact spec_l3Names.ev hy19
        refine goS ?_
        refine seqJ h 87 (fun x => [(1, (.ptr 1 0 2 0)), (71, (.d (.p (.bool x))))]) (fun x => [(1, 0, 2, (some (.box [(.d (.p (.int .i64 a0.Kind))), (.d (.p (.int .i64 a0.A))), (.d (.p (.int .i64 a0.B))), (.d (.p (.int .i64 a0.C))), (.d (.p (.int .i64 a0.N))), (.d (.p (.string a0.Name))), (.d (.p (.string a0.Other)))])))]) (fun J h => ?_) ?_
        · refine bindG h fun y21 hy22 h => ?_
          refine exM ([(.d (.p (.bool y21)))], []) ?_ ?_
          · exact spec_l3Name.ev hy22
          refine ifB h (fun c23 h => ?_) (fun c23 h => ?_)
          · refine Ask.T rfl ?_
            refine Ask.T rfl ?_
            refine Ask.T rfl ?_
            refine Ask.T rfl ?_
            refine Ask.T rfl ?_
            refine Ask.T rfl ?_
            refine Ask.T rfl ?_
            refine Ask.T rfl ?_
            refine Ask.T rfl ?_
            refine Ask.T rfl ?_
            refine Ask.T rfl ?_
            refine Ask.T rfl ?_
            refine Ask.T rfl ?_
            refine Ask.T rfl ?_
            refine Ask.T rfl ?_
            refine Ask.T rfl ?_
            exact ⟨true, h, ⟨rfl, ⟨rfl, rfl, trivial⟩, ⟨rfl, trivial⟩⟩⟩
          · refine Ask.F rfl ?_
            refine Ask.F rfl ?_
            refine iteF h (fun c24 h => ?_) (fun c24 h => ?_)
            · refine Ask.T rfl ?_
              refine Ask.T rfl ?_
              refine Ask.F rfl ?_
              refine Ask.T rfl ?_
              refine Ask.F rfl ?_
              refine ifB h (fun c25 h => ?_) (fun c25 h => ?_)
              · refine Ask.T rfl ?_
                refine Ask.T rfl ?_
                refine Ask.T rfl ?_
                refine Ask.T rfl ?_
                refine Ask.T rfl ?_
                refine Ask.T rfl ?_
                refine Ask.T rfl ?_
                refine Ask.T rfl ?_
                refine Ask.T rfl ?_
                refine Ask.T rfl ?_
                refine Ask.T rfl ?_
                exact ⟨true, h, ⟨rfl, ⟨rfl, rfl, trivial⟩, ⟨rfl, trivial⟩⟩⟩
              · refine Ask.F rfl ?_
                refine Ask.F rfl ?_
                refine Ask.F rfl ?_
                refine Ask.F rfl ?_
                refine bindG h fun y26 hy27 h => ?_
                refine exM ([(.d (.p (.bool y26)))], []) ?_ ?_
                · exact spec_l3Name.ev hy27
                refine Ask.F rfl ?_
                refine Ask.F rfl ?_
                refine ifB h (fun c28 h => ?_) (fun c28 h => ?_)
                · refine Ask.T rfl ?_
                  refine Ask.T rfl ?_
                  refine Ask.T rfl ?_
                  refine Ask.T rfl ?_
                  exact ⟨true, h, ⟨rfl, ⟨rfl, rfl, trivial⟩, ⟨rfl, trivial⟩⟩⟩
                · refine Ask.F rfl ?_
                  refine Ask.F rfl ?_
                  refine iteF h (fun c29 h => ?_) (fun c29 h => ?_)
                  · refine Ask.T rfl ?_
                    refine Ask.T rfl ?_
                    refine Ask.F rfl ?_
                    refine Ask.T rfl ?_
                    refine Ask.F rfl ?_
                    exact ⟨(!(a0.Other.toList == (⟨#[]⟩ : ByteArray).toList)), h, ⟨rfl, ⟨rfl, rfl, trivial⟩, ⟨rfl, trivial⟩⟩⟩
                  · refine Ask.F rfl ?_
                    refine Ask.F rfl ?_
                    refine Ask.F rfl ?_
                    refine Ask.F rfl ?_
                    refine Ask.F rfl ?_
                    exact ⟨false, h, ⟨rfl, ⟨rfl, rfl, trivial⟩, ⟨rfl, trivial⟩⟩⟩
            · refine Ask.F rfl ?_
              refine Ask.F rfl ?_
              refine Ask.F rfl ?_
              refine Ask.F rfl ?_
              refine Ask.F rfl ?_
              refine Ask.F rfl ?_
              refine Ask.F rfl ?_
              refine Ask.F rfl ?_
              refine Ask.F rfl ?_
              refine Ask.F rfl ?_
              refine bindG h fun y30 hy31 h => ?_
              refine exM ([(.d (.p (.bool y30)))], []) ?_ ?_
              · exact spec_l3Name.ev hy31
              refine Ask.F rfl ?_
              refine Ask.F rfl ?_
              refine ifB h (fun c32 h => ?_) (fun c32 h => ?_)
              · refine Ask.T rfl ?_
                refine Ask.T rfl ?_
                refine Ask.T rfl ?_
                refine Ask.T rfl ?_
                exact ⟨true, h, ⟨rfl, ⟨rfl, rfl, trivial⟩, ⟨rfl, trivial⟩⟩⟩
              · refine Ask.F rfl ?_
                refine Ask.F rfl ?_
                refine iteF h (fun c33 h => ?_) (fun c33 h => ?_)
                · refine Ask.T rfl ?_
                  refine Ask.T rfl ?_
                  refine Ask.F rfl ?_
                  refine Ask.T rfl ?_
                  refine Ask.F rfl ?_
                  exact ⟨(!(a0.Other.toList == (⟨#[]⟩ : ByteArray).toList)), h, ⟨rfl, ⟨rfl, rfl, trivial⟩, ⟨rfl, trivial⟩⟩⟩
                · refine Ask.F rfl ?_
                  refine Ask.F rfl ?_
                  refine Ask.F rfl ?_
                  refine Ask.F rfl ?_
                  refine Ask.F rfl ?_
                  exact ⟨false, h, ⟨rfl, ⟨rfl, rfl, trivial⟩, ⟨rfl, trivial⟩⟩⟩
        · rintro v20 h e hp
          try ((with_reducible apply cdX); exact rfl)
          refine ifB h (fun c34 h => ?_) (fun c34 h => ?_)
          · exact retE (enc := spec_l3Fields.enc) h rfl
          · refine goS ?_
            try ((with_reducible apply cdX); exact rfl)
            refine iteF h (fun c35 h => ?_) (fun c35 h => ?_)
            · refine bindG h fun y36 hy37 h => ?_
              refine exM ([(.d (.p (.bool y36)))], []) ?_ ?_
              · exact spec_l1In.ev hy37
              exact retE (enc := spec_l3Fields.enc) h rfl
            · try ((with_reducible apply cdX); exact rfl)
              refine iteF h (fun c38 h => ?_) (fun c38 h => ?_)
              · refine bindG h fun y39 hy40 h => ?_
                refine exM ([(.d (.p (.bool y39)))], []) ?_ ?_
                · exact spec_l1In.ev hy40
                exact retE (enc := spec_l3Fields.enc) h rfl
              · exact retE (enc := spec_l3Fields.enc) h rfl
def spec_Kids.enc (r : List Int) : Res := ([(.own true 1 (r.map eI))], [])
def spec_Kids.f  (K : Nat) (a0 : impl_Node) : Option (List Int) := (spec_Arity.f K a0.Kind).bind fun y1 => (gd (0 ≤ (0 : Int) ∧ (0 : Int) ≤ y1 ∧ y1 ≤ (([a0.A, a0.B, a0.C] : List Int).length : Int)) (some (([a0.A, a0.B, a0.C] : List Int).take (y1).toNat)))
theorem spec_Kids.ev   {K : Nat} {a0 : impl_Node} {r : List Int} (h : spec_Kids.f  K a0 = some r) : E 69 [(.agg (a0.e.map .d))] = some ([(.own true 1 (r.map eI))], []) := by
  refine Ev_intro (fn := Tryd.f69) rfl (by kernel_rfl) (c := _) rfl ⟨rfl, by simp⟩ rfl (evP_spec _ ?_)
  unfold spec_Kids.f at h
  refine ⟨[[5, 6, 7, 8, 10, 11, 12], [5, 6, 7, 8, 10, 11, 12], [3, 4, 7, 8, 10, 11, 12], [3, 4, 7, 8, 10, 11, 12], [3, 4, 5, 6, 10, 11, 12], [3, 4, 5, 6, 10, 11, 12], [10, 11, 12], [3, 4, 5, 6, 7, 8, 9], [3, 4, 5, 6, 7, 8, 9], [3, 4, 5, 6, 7, 8, 9], [], []], [], by kernel_rfl, ?_⟩
  refine eqM (([a0.A, a0.B, a0.C] : List Int).map eI) rfl ?_
  refine bindG h fun y1 hy2 h => ?_
  refine exM ([(.d (.p (.int .i64 y1)))], []) ?_ ?_
  · exact spec_Arity.ev hy2
  refine gdG h fun hc h => ?_
  refine anM (slB hc) ?_
  refine eqM ((([a0.A, a0.B, a0.C] : List Int).take (y1).toNat).map eI) (mTake rfl) ?_
  exact retE (enc := spec_Kids.enc) h rfl
def spec_l3Starts.enc (r : List Int × Bool) : Res := ([(.own true 1 (r.1.map eI)), (.d (.p (.bool r.2)))], [])
def spec_l3Starts.en (a0 : List impl_Node) (r : List Int × Bool) (S : St) : Prop := endV tb md 39 Tryd.f39 [(.d (.l true 7 (a0.map impl_Node.e)))] .ret S = some (spec_l3Starts.enc r)
def spec_l3Starts.l1 (v3 : List Int) (y10 : List Int) (K : Nat) : Nat → Int → Int → Option ((List Int × Bool) ⊕ Int)
  | 0, _, _ => none
  | k + 1, v13, v14 => if v14 ≥ 0 then (jn (fun (v17 : Bool) => if v17 = true then (some (.inl (([] : List Int), false))) else ((at_ y10 v14).bind fun x21 => ((at_ v3 x21).bind fun x22 => (spec_l3Starts.l1 v3 y10 K k x22 (w64 (v14 - 1)))))) (fun j => (at_ y10 v14).bind fun x18 => (if (!(decide (x18 = (w64 (v13 - 1))))) = true then (j true) else (j (decide (x18 < 0)))))) else (some (.inr v13))
def spec_l3Starts.l0 (a0 : List impl_Node) (K : Nat) : Nat → Int → (List Int) → Option ((List Int × Bool) ⊕ (List Int))
  | 0, _, _ => none
  | k + 1, v2, v3 => if v2 < (a0.length : Int) then ((at_ a0 v2).bind fun x6 => ((spec_l3Fields.f K x6).bind fun y7 => (if (!y7) = true then (some (.inl (([] : List Int), false))) else ((spec_Kids.f K x6).bind fun y10 => (jn (fun (v12 : Int) => gd ((v3.length + 1) * 8 ≤ 140737488355328) (spec_l3Starts.l0 a0 K k (w64 (v2 + 1)) (v3 ++ ([v12] : List Int)))) (fun j => lb (spec_l3Starts.l1 v3 y10 K K v2 (w64 ((y10.length : Int) - 1))) (fun r => some (.inl r)) (fun (v15 : Int) => j v15))))))) else (some (.inr v3))
def spec_l3Starts.f  (K : Nat) (a0 : List impl_Node) : Option (List Int × Bool) := jn (fun (v1 : List Int) => some (v1, true)) (fun j => lb (spec_l3Starts.l0 a0 K K 0 ([] : List Int)) (fun r => some r) (fun (v4 : List Int) => j v4))
theorem spec_l3Starts.ev   {K : Nat} {a0 : List impl_Node} {r : List Int × Bool} (h : spec_l3Starts.f  K a0 = some r) : E 39 [(.d (.l true 7 (a0.map impl_Node.e)))] = some ([(.own true 1 (r.1.map eI)), (.d (.p (.bool r.2)))], []) := by
  refine Ev_intro (fn := Tryd.f39) rfl (by kernel_rfl) (c := _) rfl ⟨rfl, by simp⟩ rfl (evP_spec _ ?_)
  unfold spec_l3Starts.f at h
  refine eqM (([] : List Int).map eI) rfl ?_
  refine seqJ h 63 (fun x => [(4, (.own 4 1 2))]) (fun x => [(4, 1, 2, (some (.row true true 1 (x.map eI))))]) (fun J h => ?_) ?_
  · refine loopB (α := Int × List Int) (a := (0, ([] : List Int))) 63 (fun x => [(0, (.d (.l true 7 (a0.map impl_Node.e)))), (4, (.own 4 1 2)), (5, (.d (.p (.int .i64 x.1))))]) (fun x => [(4, 1, 2, (some (.row true true 1 (x.2.map eI))))]) (fun k x => spec_l3Starts.l0 a0 K k x.1 x.2) (spec_l3Starts.en a0) 0 (fun x => [(4, (.own 4 1 2))]) (fun x => [(4, 1, 2, (some (.row true true 1 (x.map eI))))]) h (fun _ => rfl) ?_ ⟨rfl, ⟨rfl, rfl, rfl, trivial⟩, ⟨rfl, trivial⟩⟩ ?_ ?_
    · rintro k ⟨v2, v3⟩ r h e hp
      replace h : spec_l3Starts.l0 a0 K (k + 1) v2 v3 = some r := h
      unfold spec_l3Starts.l0 at h
      refine goS ?_
      refine eqM ((a0.length : Int) : Int) (mLen rfl) ?_
      refine iteF h (fun c5 h => ?_) (fun c5 h => ?_)
      · refine goS ?_
        refine goS ?_
        refine bindG h fun x6 hx6 h => ?_
        refine anM (at_ix rfl hx6) ?_
        refine exM (impl_Node.e x6) (at_get rfl hx6) ?_
        refine bindG h fun y7 hy8 h => ?_
        refine exM ([(.d (.p (.bool y7)))], []) ?_ ?_
        · exact spec_l3Fields.ev hy8
        refine ifB h (fun c9 h => ?_) (fun c9 h => ?_)
        · refine eqM (([] : List Int).map eI) rfl ?_
          exact lqL h rfl
        · refine anM (at_ix rfl hx6) ?_
          refine exM (impl_Node.e x6) (at_get rfl hx6) ?_
          refine bindG h fun y10 hy11 h => ?_
          refine exM ([(.own true 1 (y10.map eI))], []) ?_ ?_
          · exact spec_Kids.ev hy11
          refine seqJ h 63 (fun x => [(0, (.d (.l true 7 (a0.map impl_Node.e)))), (4, (.own 4 1 2)), (5, (.d (.p (.int .i64 v2)))), (6, (.d (.p (.int .i64 x))))]) (fun x => [(4, 1, 2, (some (.row true true 1 (v3.map eI))))]) (fun J h => ?_) ?_
          · refine eqM ((y10.length : Int) : Int) (mLen rfl) ?_
            refine loopB (α := Int × Int) (a := (v2, (w64 ((y10.length : Int) - 1)))) 63 (fun x => [(0, (.d (.l true 7 (a0.map impl_Node.e)))), (4, (.own 4 1 2)), (5, (.d (.p (.int .i64 v2)))), (6, (.d (.p (.int .i64 x.1)))), (7, (.own 7 1 2)), (8, (.d (.p (.int .i64 x.2))))]) (fun x => [(4, 1, 2, (some (.row true true 1 (v3.map eI)))), (7, 1, 2, (some (.row true true 1 (y10.map eI))))]) (fun k x => spec_l3Starts.l1 v3 y10 K k x.1 x.2) (spec_l3Starts.en a0) 2 (fun x => [(0, (.d (.l true 7 (a0.map impl_Node.e)))), (4, (.own 4 1 2)), (5, (.d (.p (.int .i64 v2)))), (6, (.d (.p (.int .i64 x))))]) (fun x => [(4, 1, 2, (some (.row true true 1 (v3.map eI))))]) h (fun _ => rfl) ?_ ⟨rfl, ⟨rfl, rfl, rfl, rfl, rfl, rfl, trivial⟩, ⟨rfl, rfl, trivial⟩⟩ ?_ ?_
            · rintro k ⟨v13, v14⟩ r h e hp
              replace h : spec_l3Starts.l1 v3 y10 K (k + 1) v13 v14 = some r := h
              unfold spec_l3Starts.l1 at h
              refine goS ?_
              try ((with_reducible apply cdX); exact rfl)
              refine iteF h (fun c16 h => ?_) (fun c16 h => ?_)
              · refine goS ?_
                refine goS ?_
                refine seqJ h 63 (fun x => [(0, (.d (.l true 7 (a0.map impl_Node.e)))), (4, (.own 4 1 2)), (5, (.d (.p (.int .i64 v2)))), (7, (.own 7 1 2)), (8, (.d (.p (.int .i64 v14)))), (49, (.d (.p (.bool x))))]) (fun x => [(4, 1, 2, (some (.row true true 1 (v3.map eI)))), (7, 1, 2, (some (.row true true 1 (y10.map eI))))]) (fun J h => ?_) ?_
                · refine bindG h fun x18 hx18 h => ?_
                  refine anM (at_ix rfl hx18) ?_
                  refine exM (eI x18) (at_get rfl hx18) ?_
                  refine ifB h (fun c19 h => ?_) (fun c19 h => ?_)
                  · refine Ask.T rfl ?_
                    refine Ask.T rfl ?_
                    refine Ask.T rfl ?_
                    refine Ask.T rfl ?_
                    refine Ask.T rfl ?_
                    exact ⟨true, h, ⟨rfl, ⟨rfl, rfl, rfl, rfl, rfl, rfl, trivial⟩, ⟨rfl, rfl, trivial⟩⟩⟩
                  · refine Ask.F rfl ?_
                    refine Ask.F rfl ?_
                    refine anM (at_ix rfl hx18) ?_
                    refine Ask.F rfl ?_
                    refine exM (eI x18) (at_get rfl hx18) ?_
                    refine Ask.F rfl ?_
                    refine Ask.F rfl ?_
                    exact ⟨(decide (x18 < 0)), h, ⟨rfl, ⟨rfl, rfl, rfl, rfl, rfl, rfl, trivial⟩, ⟨rfl, rfl, trivial⟩⟩⟩
                · rintro v17 h e hp
                  try ((with_reducible apply cdX); exact rfl)
                  refine ifB h (fun c20 h => ?_) (fun c20 h => ?_)
                  · refine eqM (([] : List Int).map eI) rfl ?_
                    exact lqL h rfl
                  · refine bindG h fun x21 hx21 h => ?_
                    refine anM (at_ix rfl hx21) ?_
                    refine exM (eI x21) (at_get rfl hx21) ?_
                    refine bindG h fun x22 hx22 h => ?_
                    refine anM (at_ix rfl hx22) ?_
                    refine exM (eI x22) (at_get rfl hx22) ?_
                    exact ⟨(x22, (w64 (v14 - 1))), h, ⟨rfl, ⟨rfl, rfl, rfl, rfl, rfl, rfl, trivial⟩, ⟨rfl, rfl, trivial⟩⟩⟩
              · refine lqR h ?_
                exact ⟨rfl, ⟨rfl, rfl, rfl, rfl, trivial⟩, ⟨rfl, trivial⟩⟩
            · intro r' S' h q
              exact lqL h q
            · rintro v15 S' h ⟨qn, ⟨qa0, qa1, qa2, qa3, _⟩, ⟨qb0, _⟩⟩
              exact ⟨v15, h, ⟨qn, ⟨qa0, qa1, qa2, qa3, trivial⟩, ⟨qb0, trivial⟩⟩⟩
          · rintro v12 h e hp
            refine eqM (([v12] : List Int).map eI) rfl ?_
            refine gdG h fun hc h => ?_
            refine anM (apB hc) ?_
            refine eqM ((v3 ++ ([v12] : List Int)).map eI) (mApp rfl rfl) ?_
            exact ⟨((w64 (v2 + 1)), (v3 ++ ([v12] : List Int))), h, ⟨rfl, ⟨rfl, rfl, rfl, trivial⟩, ⟨rfl, trivial⟩⟩⟩
      · refine lqR h ?_
        exact ⟨rfl, ⟨rfl, trivial⟩, ⟨rfl, trivial⟩⟩
    · intro r' S' h q
      exact retE (enc := spec_l3Starts.enc) h q
    · rintro v4 S' h ⟨qn, ⟨qa0, _⟩, ⟨qb0, _⟩⟩
      exact ⟨v4, h, ⟨qn, ⟨qa0, trivial⟩, ⟨qb0, trivial⟩⟩⟩
  · rintro v1 h e hp
    exact retE (enc := spec_l3Starts.enc) h rfl
def spec_NodesOk.enc (r : Bool) : Res := ([(.d (.p (.bool r)))], [])
def spec_NodesOk.f  (K : Nat) (a0 : List impl_Node) : Option (Bool) := (spec_l1In.f K (a0.length : Int) 1 150).bind fun y1 => (if (!y1) = true then (some false) else ((spec_l3Starts.f K a0).bind fun (y4, y5) => (if y5 = true then ((at_ y4 (w64 ((a0.length : Int) - 1))).bind fun x8 => (some (decide (x8 = 0)))) else (some false))))
theorem spec_NodesOk.ev   {K : Nat} {a0 : List impl_Node} {r : Bool} (h : spec_NodesOk.f  K a0 = some r) : E 10 [(.d (.l true 7 (a0.map impl_Node.e)))] = some ([(.d (.p (.bool r)))], []) := by
  refine Ev_intro (fn := Tryd.f10) rfl (by kernel_rfl) (c := _) rfl ⟨rfl, by simp⟩ rfl (evP_spec _ ?_)
  unfold spec_NodesOk.f at h
  refine goS ?_
  refine eqM ((a0.length : Int) : Int) (mLen rfl) ?_
  refine bindG h fun y1 hy2 h => ?_
  refine exM ([(.d (.p (.bool y1)))], []) ?_ ?_
  · exact spec_l1In.ev hy2
  refine ifB h (fun c3 h => ?_) (fun c3 h => ?_)
  · exact retE (enc := spec_NodesOk.enc) h rfl
  · refine bindG h ?_
    rintro ⟨y4, y5⟩ hy6 h
    refine exM ([(.own true 1 (y4.map eI)), (.d (.p (.bool y5)))], []) ?_ ?_
    · exact spec_l3Starts.ev hy6
    refine goS ?_
    try ((with_reducible apply cdX); exact rfl)
    refine ifB h (fun c7 h => ?_) (fun c7 h => ?_)
    · refine Ask.T rfl ?_
      refine Ask.T rfl ?_
      refine eqM ((a0.length : Int) : Int) (mLen rfl) ?_
      refine Ask.T rfl ?_
      refine Ask.T rfl ?_
      refine bindG h fun x8 hx8 h => ?_
      refine anM (at_ix rfl hx8) ?_
      refine Ask.T rfl ?_
      refine exM (eI x8) (at_get rfl hx8) ?_
      refine Ask.T rfl ?_
      refine Ask.T rfl ?_
      exact retE (enc := spec_NodesOk.enc) h rfl
    · refine Ask.F rfl ?_
      refine Ask.F rfl ?_
      refine Ask.F rfl ?_
      refine Ask.F rfl ?_
      refine Ask.F rfl ?_
      refine Ask.F rfl ?_
      refine Ask.F rfl ?_
      exact retE (enc := spec_NodesOk.enc) h rfl
def spec_StartOf.enc (r : Int) : Res := ([(.d (.p (.int .i64 r)))], [])
def spec_StartOf.f  (K : Nat) (a0 : List impl_Node) (a1 : Int) : Option (Int) := jn (fun (v1 : Bool) => if v1 = true then (some (-1)) else ((spec_l3Starts.f K a0).bind fun (y8, y9) => ((at_ y8 a1).bind fun x11 => (some x11)))) (fun j => (spec_NodesOk.f K a0).bind fun y2 => (if (!y2) = true then (j true) else ((spec_l1In.f K a1 0 (w64 ((a0.length : Int) - 1))).bind fun y5 => (j (!y5)))))
theorem spec_StartOf.ev   {K : Nat} {a0 : List impl_Node} {a1 : Int} {r : Int} (h : spec_StartOf.f  K a0 a1 = some r) : E 25 [(.d (.l true 7 (a0.map impl_Node.e))), (.d (.p (.int .i64 a1)))] = some ([(.d (.p (.int .i64 r)))], []) := by
  refine Ev_intro (fn := Tryd.f25) rfl (by kernel_rfl) (c := _) rfl ⟨rfl, by simp⟩ rfl (evP_spec _ ?_)
  unfold spec_StartOf.f at h
  refine goS ?_
  refine seqJ h 27 (fun x => [(0, (.d (.l true 7 (a0.map impl_Node.e)))), (1, (.d (.p (.int .i64 a1)))), (17, (.d (.p (.bool x))))]) (fun x => []) (fun J h => ?_) ?_
  · refine bindG h fun y2 hy3 h => ?_
    refine exM ([(.d (.p (.bool y2)))], []) ?_ ?_
    · exact spec_NodesOk.ev hy3
    refine ifB h (fun c4 h => ?_) (fun c4 h => ?_)
    · refine Ask.T rfl ?_
      refine Ask.T rfl ?_
      refine Ask.T rfl ?_
      refine Ask.T rfl ?_
      refine Ask.T rfl ?_
      refine Ask.T rfl ?_
      exact ⟨true, h, ⟨rfl, ⟨rfl, rfl, rfl, trivial⟩, trivial⟩⟩
    · refine Ask.F rfl ?_
      refine Ask.F rfl ?_
      refine eqM ((a0.length : Int) : Int) (mLen rfl) ?_
      refine Ask.F rfl ?_
      refine Ask.F rfl ?_
      refine bindG h fun y5 hy6 h => ?_
      refine exM ([(.d (.p (.bool y5)))], []) ?_ ?_
      · exact spec_l1In.ev hy6
      refine Ask.F rfl ?_
      refine Ask.F rfl ?_
      exact ⟨(!y5), h, ⟨rfl, ⟨rfl, rfl, rfl, trivial⟩, trivial⟩⟩
  · rintro v1 h e hp
    try ((with_reducible apply cdX); exact rfl)
    refine ifB h (fun c7 h => ?_) (fun c7 h => ?_)
    · exact retE (enc := spec_StartOf.enc) h rfl
    · refine bindG h ?_
      rintro ⟨y8, y9⟩ hy10 h
      refine exM ([(.own true 1 (y8.map eI)), (.d (.p (.bool y9)))], []) ?_ ?_
      · exact spec_l3Starts.ev hy10
      refine bindG h fun x11 hx11 h => ?_
      refine anM (at_ix rfl hx11) ?_
      refine exM (eI x11) (at_get rfl hx11) ?_
      exact retE (enc := spec_StartOf.enc) h rfl
def spec_l4Has.enc (r : Bool) : Res := ([(.d (.p (.bool r)))], [])
def spec_l4Has.en (a0 : List Int) (a1 : Int) (r : Bool) (S : St) : Prop := endV tb md 110 Tryd.f110 [(.d (.l true 1 (a0.map eI))), (.d (.p (.int .i64 a1)))] .ret S = some (spec_l4Has.enc r)
def spec_l4Has.l0 (a0 : List Int) (a1 : Int) (K : Nat) : Nat → Int → Option (Bool ⊕ Unit)
  | 0, _ => none
  | k + 1, v1 => if v1 < (a0.length : Int) then ((at_ a0 v1).bind fun x3 => (if x3 = a1 then (some (.inl true)) else (spec_l4Has.l0 a0 a1 K k (w64 (v1 + 1))))) else (some (.inr ()))
def spec_l4Has.f  (K : Nat) (a0 : List Int) (a1 : Int) : Option (Bool) := jn (fun (_ : Unit) => some false) (fun j => lb (spec_l4Has.l0 a0 a1 K K 0) (fun r => some r) (fun (_ : Unit) => j ()))
theorem spec_l4Has.ev   {K : Nat} {a0 : List Int} {a1 : Int} {r : Bool} (h : spec_l4Has.f  K a0 a1 = some r) : E 110 [(.d (.l true 1 (a0.map eI))), (.d (.p (.int .i64 a1)))] = some ([(.d (.p (.bool r)))], []) := by
  refine Ev_intro (fn := Tryd.f110) rfl (by kernel_rfl) (c := _) rfl ⟨rfl, by simp⟩ rfl (evP_spec _ ?_)
  unfold spec_l4Has.f at h
  refine seqJ h 18 (fun x => []) (fun x => []) (fun J h => ?_) ?_
  · refine loopB (α := Int) (a := 0) 18 (fun x => [(0, (.d (.l true 1 (a0.map eI)))), (1, (.d (.p (.int .i64 a1)))), (5, (.d (.p (.int .i64 x))))]) (fun x => []) (fun k x => spec_l4Has.l0 a0 a1 K k x) (spec_l4Has.en a0 a1) 0 (fun x => []) (fun x => []) h (fun _ => rfl) ?_ ⟨rfl, ⟨rfl, rfl, rfl, trivial⟩, trivial⟩ ?_ ?_
    · rintro k v1 r h e hp
      replace h : spec_l4Has.l0 a0 a1 K (k + 1) v1 = some r := h
      unfold spec_l4Has.l0 at h
      refine goS ?_
      refine eqM ((a0.length : Int) : Int) (mLen rfl) ?_
      refine iteF h (fun c2 h => ?_) (fun c2 h => ?_)
      · refine goS ?_
        refine bindG h fun x3 hx3 h => ?_
        refine anM (at_ix rfl hx3) ?_
        refine exM (eI x3) (at_get rfl hx3) ?_
        refine iteF h (fun c4 h => ?_) (fun c4 h => ?_)
        · exact lqL h rfl
        · exact ⟨(w64 (v1 + 1)), h, ⟨rfl, ⟨rfl, rfl, rfl, trivial⟩, trivial⟩⟩
      · refine lqR h ?_
        exact ⟨rfl, trivial, trivial⟩
    · intro r' S' h q
      exact retE (enc := spec_l4Has.enc) h q
    · rintro _ S' h ⟨qn, ⟨_⟩, ⟨_⟩⟩
      exact ⟨(), h, ⟨qn, trivial, trivial⟩⟩
  · rintro _ h e hp
    exact retE (enc := spec_l4Has.enc) h rfl
def spec_ParentOf.enc (r : Int) : Res := ([(.d (.p (.int .i64 r)))], [])
def spec_ParentOf.en (a0 : List impl_Node) (a1 : Int) (r : Int) (S : St) : Prop := endV tb md 78 Tryd.f78 [(.d (.l true 7 (a0.map impl_Node.e))), (.d (.p (.int .i64 a1)))] .ret S = some (spec_ParentOf.enc r)
def spec_ParentOf.l0 (a0 : List impl_Node) (a1 : Int) (K : Nat) : Nat → Int → Option (Int ⊕ Unit)
  | 0, _ => none
  | k + 1, v4 => if v4 < (a0.length : Int) then ((at_ a0 v4).bind fun x6 => ((spec_Kids.f K x6).bind fun y7 => ((spec_l4Has.f K y7 a1).bind fun y9 => (if y9 = true then (some (.inl v4)) else (spec_ParentOf.l0 a0 a1 K k (w64 (v4 + 1))))))) else (some (.inr ()))
def spec_ParentOf.f  (K : Nat) (a0 : List impl_Node) (a1 : Int) : Option (Int) := (spec_NodesOk.f K a0).bind fun y1 => (if (!y1) = true then (some (-1)) else (jn (fun (_ : Unit) => some (-1)) (fun j => lb (spec_ParentOf.l0 a0 a1 K K 0) (fun r => some r) (fun (_ : Unit) => j ()))))
theorem spec_ParentOf.ev   {K : Nat} {a0 : List impl_Node} {a1 : Int} {r : Int} (h : spec_ParentOf.f  K a0 a1 = some r) : E 78 [(.d (.l true 7 (a0.map impl_Node.e))), (.d (.p (.int .i64 a1)))] = some ([(.d (.p (.int .i64 r)))], []) := by
  refine Ev_intro (fn := Tryd.f78) rfl (by kernel_rfl) (c := _) rfl ⟨rfl, by simp⟩ rfl (evP_spec _ ?_)
  unfold spec_ParentOf.f at h
  refine goS ?_
  refine bindG h fun y1 hy2 h => ?_
  refine exM ([(.d (.p (.bool y1)))], []) ?_ ?_
  · exact spec_NodesOk.ev hy2
  refine ifB h (fun c3 h => ?_) (fun c3 h => ?_)
  · exact retE (enc := spec_ParentOf.enc) h rfl
  · refine seqJ h 23 (fun x => []) (fun x => []) (fun J h => ?_) ?_
    · refine loopB (α := Int) (a := 0) 23 (fun x => [(0, (.d (.l true 7 (a0.map impl_Node.e)))), (1, (.d (.p (.int .i64 a1)))), (5, (.d (.p (.int .i64 x))))]) (fun x => []) (fun k x => spec_ParentOf.l0 a0 a1 K k x) (spec_ParentOf.en a0 a1) 0 (fun x => []) (fun x => []) h (fun _ => rfl) ?_ ⟨rfl, ⟨rfl, rfl, rfl, trivial⟩, trivial⟩ ?_ ?_
      · rintro k v4 r h e hp
        replace h : spec_ParentOf.l0 a0 a1 K (k + 1) v4 = some r := h
        unfold spec_ParentOf.l0 at h
        refine goS ?_
        refine eqM ((a0.length : Int) : Int) (mLen rfl) ?_
        refine iteF h (fun c5 h => ?_) (fun c5 h => ?_)
        · refine goS ?_
          refine bindG h fun x6 hx6 h => ?_
          refine anM (at_ix rfl hx6) ?_
          refine exM (impl_Node.e x6) (at_get rfl hx6) ?_
          refine bindG h fun y7 hy8 h => ?_
          refine exM ([(.own true 1 (y7.map eI))], []) ?_ ?_
          · exact spec_Kids.ev hy8
          refine bindG h fun y9 hy10 h => ?_
          refine exM ([(.d (.p (.bool y9)))], []) ?_ ?_
          · exact spec_l4Has.ev hy10
          refine ifB h (fun c11 h => ?_) (fun c11 h => ?_)
          · exact lqL h rfl
          · exact ⟨(w64 (v4 + 1)), h, ⟨rfl, ⟨rfl, rfl, rfl, trivial⟩, trivial⟩⟩
        · refine lqR h ?_
          exact ⟨rfl, trivial, trivial⟩
      · intro r' S' h q
        exact retE (enc := spec_ParentOf.enc) h q
      · rintro _ S' h ⟨qn, ⟨_⟩, ⟨_⟩⟩
        exact ⟨(), h, ⟨qn, trivial, trivial⟩⟩
    · rintro _ h e hp
      exact retE (enc := spec_ParentOf.enc) h rfl
def spec_l6Bound.enc (r : List ByteArray × List Int) : Res := ([(.own true 1 (r.1.map eS)), (.own true 1 (r.2.map eI))], [])
def spec_l6Bound.f  (K : Nat) (a0 : impl_Node) (a1 : Int) : Option (List ByteArray × List Int) := jn (fun (_ : Unit) => some (([] : List ByteArray), ([] : List Int))) (fun j => if a0.Kind = 3 then (some (([a0.Name] : List ByteArray), ([0] : List Int))) else (jn (fun (v2 : Bool) => if v2 = true then (if a1 = a0.B then (some (([a0.Name] : List ByteArray), ([0] : List Int))) else (j ())) else (if a0.Kind = 6 then (if a1 = a0.A then (some (([a0.Other, a0.Name] : List ByteArray), ([1, 0] : List Int))) else (some (([a0.Name] : List ByteArray), ([0] : List Int)))) else (if a0.Kind = 14 then (if a1 = a0.C then (some (([a0.Other, a0.Name] : List ByteArray), ([1, 0] : List Int))) else (j ())) else (j ())))) (fun j => if a0.Kind = 5 then (j true) else (j (decide (a0.Kind = 19))))))
theorem spec_l6Bound.ev   {K : Nat} {a0 : impl_Node} {a1 : Int} {r : List ByteArray × List Int} (h : spec_l6Bound.f  K a0 a1 = some r) : E 79 [(.agg (a0.e.map .d)), (.d (.p (.int .i64 a1)))] = some ([(.own true 1 (r.1.map eS)), (.own true 1 (r.2.map eI))], []) := by
  refine Ev_intro (fn := Tryd.f79) rfl (by kernel_rfl) (c := _) rfl ⟨rfl, by simp⟩ rfl (evP_spec _ ?_)
  unfold spec_l6Bound.f at h
  refine seqJ h 55 (fun x => []) (fun x => []) (fun J h => ?_) ?_
  · try ((with_reducible apply cdX); exact rfl)
    refine iteF h (fun c1 h => ?_) (fun c1 h => ?_)
    · refine eqM (([a0.Name] : List ByteArray).map eS) rfl ?_
      refine eqM (([0] : List Int).map eI) rfl ?_
      exact retE (enc := spec_l6Bound.enc) h rfl
    · refine seqJ h 55 (fun x => [(1, (.d (.p (.int .i64 a1)))), (2, (.ptr 2 0 2 0)), (7, (.d (.p (.int .i64 a0.Kind)))), (14, (.d (.p (.bool x))))]) (fun x => [(2, 0, 2, (some (.box [(.d (.p (.int .i64 a0.Kind))), (.d (.p (.int .i64 a0.A))), (.d (.p (.int .i64 a0.B))), (.d (.p (.int .i64 a0.C))), (.d (.p (.int .i64 a0.N))), (.d (.p (.string a0.Name))), (.d (.p (.string a0.Other)))])))]) (fun J h => ?_) ?_
      · try ((with_reducible apply cdX); exact rfl)
        refine iteF h (fun c3 h => ?_) (fun c3 h => ?_)
        · exact ⟨true, h, ⟨rfl, ⟨rfl, rfl, rfl, rfl, trivial⟩, ⟨rfl, trivial⟩⟩⟩
        · exact ⟨(decide (a0.Kind = 19)), h, ⟨rfl, ⟨rfl, rfl, rfl, rfl, trivial⟩, ⟨rfl, trivial⟩⟩⟩
      · rintro v2 h e hp
        try ((with_reducible apply cdX); exact rfl)
        refine ifB h (fun c4 h => ?_) (fun c4 h => ?_)
        · try ((with_reducible apply cdX); exact rfl)
          refine iteF h (fun c5 h => ?_) (fun c5 h => ?_)
          · refine eqM (([a0.Name] : List ByteArray).map eS) rfl ?_
            refine eqM (([0] : List Int).map eI) rfl ?_
            exact retE (enc := spec_l6Bound.enc) h rfl
          · exact ⟨(), h, ⟨rfl, trivial, trivial⟩⟩
        · try ((with_reducible apply cdX); exact rfl)
          refine iteF h (fun c6 h => ?_) (fun c6 h => ?_)
          · refine goS ?_
            try ((with_reducible apply cdX); exact rfl)
            refine iteF h (fun c7 h => ?_) (fun c7 h => ?_)
            · refine eqM (([a0.Other, a0.Name] : List ByteArray).map eS) rfl ?_
              refine eqM (([1, 0] : List Int).map eI) rfl ?_
              exact retE (enc := spec_l6Bound.enc) h rfl
            · refine eqM (([a0.Name] : List ByteArray).map eS) rfl ?_
              refine eqM (([0] : List Int).map eI) rfl ?_
              exact retE (enc := spec_l6Bound.enc) h rfl
          · try ((with_reducible apply cdX); exact rfl)
            refine iteF h (fun c8 h => ?_) (fun c8 h => ?_)
            · try ((with_reducible apply cdX); exact rfl)
              refine iteF h (fun c9 h => ?_) (fun c9 h => ?_)
              · refine eqM (([a0.Other, a0.Name] : List ByteArray).map eS) rfl ?_
                refine eqM (([1, 0] : List Int).map eI) rfl ?_
                exact retE (enc := spec_l6Bound.enc) h rfl
              · exact ⟨(), h, ⟨rfl, trivial, trivial⟩⟩
            · exact ⟨(), h, ⟨rfl, trivial, trivial⟩⟩
  · rintro _ h e hp
    refine eqM (([] : List ByteArray).map eS) rfl ?_
    refine eqM (([] : List Int).map eI) rfl ?_
    exact retE (enc := spec_l6Bound.enc) h rfl
def spec_BinderOf.enc (r : impl_Bind) : Res := ([(.agg (r.e.map .d))], [])
def spec_BinderOf.en (a0 : List impl_Node) (a1 : Int) (r : impl_Bind) (S : St) : Prop := endV tb md 50 Tryd.f50 [(.d (.l true 7 (a0.map impl_Node.e))), (.d (.p (.int .i64 a1)))] .ret S = some (spec_BinderOf.enc r)
def spec_BinderOf.l1 (a0 : List impl_Node) (a1 : Int) (v13 : Int) (y16 : List ByteArray) (y17 : List Int) (K : Nat) : Nat → Int → Option (impl_Bind ⊕ Unit)
  | 0, _ => none
  | k + 1, v19 => if v19 < (y16.length : Int) then ((at_ y16 v19).bind fun x21 => ((at_ a0 a1).bind fun x22 => (if (x21.toList == x22.Name.toList) = true then ((at_ y17 v19).bind fun x24 => (some (.inl (⟨v13, x24⟩ : impl_Bind)))) else (spec_BinderOf.l1 a0 a1 v13 y16 y17 K k (w64 (v19 + 1)))))) else (some (.inr ()))
def spec_BinderOf.l0 (a0 : List impl_Node) (a1 : Int) (K : Nat) : Nat → Int → Int → Option (impl_Bind ⊕ Unit)
  | 0, _, _ => none
  | k + 1, v12, v13 => if v13 ≥ 0 then ((at_ a0 v13).bind fun x15 => ((spec_l6Bound.f K x15 v12).bind fun (y16, y17) => (jn (fun (_ : Unit) => (spec_ParentOf.f K a0 v13).bind fun y25 => (spec_BinderOf.l0 a0 a1 K k v13 y25)) (fun j => lb (spec_BinderOf.l1 a0 a1 v13 y16 y17 K K 0) (fun r => some (.inl r)) (fun (_ : Unit) => j ()))))) else (some (.inr ()))
def spec_BinderOf.f  (K : Nat) (a0 : List impl_Node) (a1 : Int) : Option (impl_Bind) := jn (fun (v1 : Bool) => if v1 = true then (some (⟨(-1), (-1)⟩ : impl_Bind)) else (jn (fun (_ : Unit) => some (⟨(-1), (-1)⟩ : impl_Bind)) (fun j => (spec_ParentOf.f K a0 a1).bind fun y10 => (lb (spec_BinderOf.l0 a0 a1 K K a1 y10) (fun r => some r) (fun (_ : Unit) => j ()))))) (fun j => (spec_NodesOk.f K a0).bind fun y2 => (if (!y2) = true then (j true) else ((spec_l1In.f K a1 0 (w64 ((a0.length : Int) - 1))).bind fun y5 => (if (!y5) = true then (j true) else ((at_ a0 a1).bind fun x8 => (j (!(decide (x8.Kind = 1)))))))))
theorem spec_BinderOf.ev   {K : Nat} {a0 : List impl_Node} {a1 : Int} {r : impl_Bind} (h : spec_BinderOf.f  K a0 a1 = some r) : E 50 [(.d (.l true 7 (a0.map impl_Node.e))), (.d (.p (.int .i64 a1)))] = some ([(.agg (r.e.map .d))], []) := by
  refine Ev_intro (fn := Tryd.f50) rfl (by kernel_rfl) (c := _) rfl ⟨rfl, by simp⟩ rfl (evP_spec _ ?_)
  unfold spec_BinderOf.f at h
  refine goS ?_
  refine goS ?_
  refine seqJ h 74 (fun x => [(0, (.d (.l true 7 (a0.map impl_Node.e)))), (1, (.d (.p (.int .i64 a1)))), (4, (.ptr 4 0 2 0)), (5, (.ptr 5 0 2 0)), (30, (.d (.p (.bool x))))]) (fun x => [(4, 0, 2, (some (.box [(.d (.p (.int .i64 0))), (.d (.p (.int .i64 0)))]))), (5, 0, 2, (some (.box [(.d (.p (.int .i64 (-1)))), (.d (.p (.int .i64 (-1))))])))]) (fun J h => ?_) ?_
  · refine bindG h fun y2 hy3 h => ?_
    refine exM ([(.d (.p (.bool y2)))], []) ?_ ?_
    · exact spec_NodesOk.ev hy3
    refine ifB h (fun c4 h => ?_) (fun c4 h => ?_)
    · refine Ask.T rfl ?_
      refine Ask.T rfl ?_
      refine Ask.T rfl ?_
      refine Ask.T rfl ?_
      refine Ask.T rfl ?_
      refine Ask.T rfl ?_
      refine Ask.T rfl ?_
      refine Ask.T rfl ?_
      refine Ask.T rfl ?_
      refine Ask.T rfl ?_
      refine Ask.T rfl ?_
      refine Ask.T rfl ?_
      refine Ask.T rfl ?_
      exact ⟨true, h, ⟨rfl, ⟨rfl, rfl, rfl, rfl, rfl, trivial⟩, ⟨rfl, rfl, trivial⟩⟩⟩
    · refine Ask.F rfl ?_
      refine Ask.F rfl ?_
      refine eqM ((a0.length : Int) : Int) (mLen rfl) ?_
      refine Ask.F rfl ?_
      refine Ask.F rfl ?_
      refine bindG h fun y5 hy6 h => ?_
      refine exM ([(.d (.p (.bool y5)))], []) ?_ ?_
      · exact spec_l1In.ev hy6
      refine Ask.F rfl ?_
      refine Ask.F rfl ?_
      refine ifB h (fun c7 h => ?_) (fun c7 h => ?_)
      · refine Ask.T rfl ?_
        refine Ask.T rfl ?_
        refine Ask.T rfl ?_
        refine Ask.T rfl ?_
        refine Ask.T rfl ?_
        refine Ask.T rfl ?_
        exact ⟨true, h, ⟨rfl, ⟨rfl, rfl, rfl, rfl, rfl, trivial⟩, ⟨rfl, rfl, trivial⟩⟩⟩
      · refine Ask.F rfl ?_
        refine Ask.F rfl ?_
        refine bindG h fun x8 hx8 h => ?_
        refine anM (at_ix rfl hx8) ?_
        refine Ask.F rfl ?_
        refine Ask.F rfl ?_
        refine exM (impl_Node.e x8) (at_get rfl hx8) ?_
        refine Ask.F rfl ?_
        refine Ask.F rfl ?_
        exact ⟨(!(decide (x8.Kind = 1))), h, ⟨rfl, ⟨rfl, rfl, rfl, rfl, rfl, trivial⟩, ⟨rfl, rfl, trivial⟩⟩⟩
  · rintro v1 h e hp
    try ((with_reducible apply cdX); exact rfl)
    refine ifB h (fun c9 h => ?_) (fun c9 h => ?_)
    · refine goS ?_
      exact retE (enc := spec_BinderOf.enc) h rfl
    · refine seqJ h 74 (fun x => [(4, (.ptr 4 0 2 0)), (5, (.ptr 5 0 2 0))]) (fun x => [(4, 0, 2, (some (.box [(.d (.p (.int .i64 0))), (.d (.p (.int .i64 0)))]))), (5, 0, 2, (some (.box [(.d (.p (.int .i64 (-1)))), (.d (.p (.int .i64 (-1))))])))]) (fun J h => ?_) ?_
      · refine bindG h fun y10 hy11 h => ?_
        refine exM ([(.d (.p (.int .i64 y10)))], []) ?_ ?_
        · exact spec_ParentOf.ev hy11
        refine loopB (α := Int × Int) (a := (a1, y10)) 74 (fun x => [(0, (.d (.l true 7 (a0.map impl_Node.e)))), (1, (.d (.p (.int .i64 a1)))), (4, (.ptr 4 0 2 0)), (5, (.ptr 5 0 2 0)), (6, (.d (.p (.int .i64 x.1)))), (7, (.d (.p (.int .i64 x.2))))]) (fun x => [(4, 0, 2, (some (.box [(.d (.p (.int .i64 0))), (.d (.p (.int .i64 0)))]))), (5, 0, 2, (some (.box [(.d (.p (.int .i64 (-1)))), (.d (.p (.int .i64 (-1))))])))]) (fun k x => spec_BinderOf.l0 a0 a1 K k x.1 x.2) (spec_BinderOf.en a0 a1) 0 (fun x => [(4, (.ptr 4 0 2 0)), (5, (.ptr 5 0 2 0))]) (fun x => [(4, 0, 2, (some (.box [(.d (.p (.int .i64 0))), (.d (.p (.int .i64 0)))]))), (5, 0, 2, (some (.box [(.d (.p (.int .i64 (-1)))), (.d (.p (.int .i64 (-1))))])))]) h (fun _ => rfl) ?_ ⟨rfl, ⟨rfl, rfl, rfl, rfl, rfl, rfl, trivial⟩, ⟨rfl, rfl, trivial⟩⟩ ?_ ?_
        · rintro k ⟨v12, v13⟩ r h e hp
          replace h : spec_BinderOf.l0 a0 a1 K (k + 1) v12 v13 = some r := h
          unfold spec_BinderOf.l0 at h
          refine goS ?_
          try ((with_reducible apply cdX); exact rfl)
          refine iteF h (fun c14 h => ?_) (fun c14 h => ?_)
          · refine goS ?_
            refine bindG h fun x15 hx15 h => ?_
            refine anM (at_ix rfl hx15) ?_
            refine exM (impl_Node.e x15) (at_get rfl hx15) ?_
            refine bindG h ?_
            rintro ⟨y16, y17⟩ hy18 h
            refine exM ([(.own true 1 (y16.map eS)), (.own true 1 (y17.map eI))], []) ?_ ?_
            · exact spec_l6Bound.ev hy18
            refine seqJ h 74 (fun x => [(0, (.d (.l true 7 (a0.map impl_Node.e)))), (1, (.d (.p (.int .i64 a1)))), (4, (.ptr 4 0 2 0)), (5, (.ptr 5 0 2 0)), (7, (.d (.p (.int .i64 v13))))]) (fun x => [(4, 0, 2, (some (.box [(.d (.p (.int .i64 0))), (.d (.p (.int .i64 0)))]))), (5, 0, 2, (some (.box [(.d (.p (.int .i64 (-1)))), (.d (.p (.int .i64 (-1))))])))]) (fun J h => ?_) ?_
            · refine loopB (α := Int) (a := 0) 74 (fun x => [(0, (.d (.l true 7 (a0.map impl_Node.e)))), (1, (.d (.p (.int .i64 a1)))), (4, (.ptr 4 0 2 0)), (5, (.ptr 5 0 2 0)), (7, (.d (.p (.int .i64 v13)))), (8, (.own 8 1 2)), (9, (.own 9 1 2)), (10, (.d (.p (.int .i64 x))))]) (fun x => [(4, 0, 2, (some (.box [(.d (.p (.int .i64 0))), (.d (.p (.int .i64 0)))]))), (5, 0, 2, (some (.box [(.d (.p (.int .i64 (-1)))), (.d (.p (.int .i64 (-1))))]))), (8, 1, 2, (some (.row true true 1 (y16.map eS)))), (9, 1, 2, (some (.row true true 1 (y17.map eI))))]) (fun k x => spec_BinderOf.l1 a0 a1 v13 y16 y17 K k x) (spec_BinderOf.en a0 a1) 2 (fun x => [(0, (.d (.l true 7 (a0.map impl_Node.e)))), (1, (.d (.p (.int .i64 a1)))), (4, (.ptr 4 0 2 0)), (5, (.ptr 5 0 2 0)), (7, (.d (.p (.int .i64 v13))))]) (fun x => [(4, 0, 2, (some (.box [(.d (.p (.int .i64 0))), (.d (.p (.int .i64 0)))]))), (5, 0, 2, (some (.box [(.d (.p (.int .i64 (-1)))), (.d (.p (.int .i64 (-1))))])))]) h (fun _ => rfl) ?_ ⟨rfl, ⟨rfl, rfl, rfl, rfl, rfl, rfl, rfl, rfl, trivial⟩, ⟨rfl, rfl, rfl, rfl, trivial⟩⟩ ?_ ?_
              · rintro k v19 r h e hp
                replace h : spec_BinderOf.l1 a0 a1 v13 y16 y17 K (k + 1) v19 = some r := h
                unfold spec_BinderOf.l1 at h
                refine goS ?_
                refine eqM ((y16.length : Int) : Int) (mLen rfl) ?_
                refine iteF h (fun c20 h => ?_) (fun c20 h => ?_)
                · refine goS ?_
                  refine ⟨[[], [], [62, 63, 64], [62, 63, 64], [], [], [58, 59], [58, 59], [58, 59], []], [], by kernel_rfl, ?_⟩
                  refine bindG h fun x21 hx21 h => ?_
                  refine anM (at_ix rfl hx21) ?_
                  refine exM (eS x21) (at_get rfl hx21) ?_
                  refine bindG h fun x22 hx22 h => ?_
                  refine anM (at_ix rfl hx22) ?_
                  refine exM (impl_Node.e x22) (at_get rfl hx22) ?_
                  refine ifB h (fun c23 h => ?_) (fun c23 h => ?_)
                  · refine goS ?_
                    refine bindG h fun x24 hx24 h => ?_
                    refine anM (at_ix rfl hx24) ?_
                    refine exM (eI x24) (at_get rfl hx24) ?_
                    exact lqL h rfl
                  · exact ⟨(w64 (v19 + 1)), h, ⟨rfl, ⟨rfl, rfl, rfl, rfl, rfl, rfl, rfl, rfl, trivial⟩, ⟨rfl, rfl, rfl, rfl, trivial⟩⟩⟩
                · refine lqR h ?_
                  exact ⟨rfl, ⟨rfl, rfl, rfl, rfl, rfl, trivial⟩, ⟨rfl, rfl, trivial⟩⟩
              · intro r' S' h q
                exact lqL h q
              · rintro _ S' h ⟨qn, ⟨qa0, qa1, qa2, qa3, qa4, _⟩, ⟨qb0, qb1, _⟩⟩
                exact ⟨(), h, ⟨qn, ⟨qa0, qa1, qa2, qa3, qa4, trivial⟩, ⟨qb0, qb1, trivial⟩⟩⟩
            · rintro _ h e hp
              refine bindG h fun y25 hy26 h => ?_
              refine exM ([(.d (.p (.int .i64 y25)))], []) ?_ ?_
              · exact spec_ParentOf.ev hy26
              exact ⟨(v13, y25), h, ⟨rfl, ⟨rfl, rfl, rfl, rfl, rfl, rfl, trivial⟩, ⟨rfl, rfl, trivial⟩⟩⟩
          · refine lqR h ?_
            exact ⟨rfl, ⟨rfl, rfl, trivial⟩, ⟨rfl, rfl, trivial⟩⟩
        · intro r' S' h q
          exact retE (enc := spec_BinderOf.enc) h q
        · rintro _ S' h ⟨qn, ⟨qa0, qa1, _⟩, ⟨qb0, qb1, _⟩⟩
          exact ⟨(), h, ⟨qn, ⟨qa0, qa1, trivial⟩, ⟨qb0, qb1, trivial⟩⟩⟩
      · rintro _ h e hp
        refine goS ?_
        exact retE (enc := spec_BinderOf.enc) h rfl
def spec_l16Param.enc (r : Int) : Res := ([(.d (.p (.int .i64 r)))], [])
def spec_l16Param.f  (K : Nat) (a0 : impl_Node) : Option (Int) := if a0.Kind = 6 then (some 1) else (some 0)
theorem spec_l16Param.ev   {K : Nat} {a0 : impl_Node} {r : Int} (h : spec_l16Param.f  K a0 = some r) : E 51 [(.agg (a0.e.map .d))] = some ([(.d (.p (.int .i64 r)))], []) := by
  refine Ev_intro (fn := Tryd.f51) rfl (by kernel_rfl) (c := _) rfl ⟨rfl, by simp⟩ rfl (evP_spec _ ?_)
  unfold spec_l16Param.f at h
  refine goS ?_
  try ((with_reducible apply cdX); exact rfl)
  refine iteF h (fun c1 h => ?_) (fun c1 h => ?_)
  · exact retE (enc := spec_l16Param.enc) h rfl
  · exact retE (enc := spec_l16Param.enc) h rfl
end Go.Proofs.YtfkanjgfjejgiaaDoorE
