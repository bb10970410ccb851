/- For Go functions of the program: their Lean functions, and that Go answers as these do. Written by a program of the session (evprint.py). -/
import Derived.Test.YtfkanjgfjejgiaaDoorZEvPr
import Derived.Test.YtfkanjgfjejgiaaDoorEvG
set_option linter.unusedSimpArgs false
set_option linter.unusedVariables false
namespace Go.Proofs.YtfkanjgfjejgiaaDoorE
open Go.Ev
set_option linter.unusedVariables false
set_option maxRecDepth 100000
set_option maxHeartbeats 4000000
def md : Md := fun f => match f with
  | 29 => ([], [true, false, false])
  | 30 => ([], [true, false, false])
  | 32 => ([2], [false])
  | 55 => ([], [true, false])
  | 56 => ([0, 1], [false, true])
  | 124 => ([], [true])
  | 1000004 => ([700020], [])
  | 1000003 => ([100020], [])
  | _ => ([], [])
noncomputable abbrev E := Go.Ev.Ev Tryd.prog tb md prim
theorem strings_Split.ev {a b : ByteArray} {r : List ByteArray} (h : strings_Split.f a b = some r) : E 103 [(.d (.p (.string a))), (.d (.p (.string b)))] = some ([(.own true 1 (r.map eS))], []) := Ev_prim rfl (by show (strings_Split.f a b).map _ = _; rw [h]; rfl)
theorem impl_ReadDec.ev {s : ByteArray} {n : Int} {b : Bool} (h : impl_ReadDec.f s = some (n, b)) : E 115 [(.d (.p (.string s)))] = some ([(.d (.p (.int .i64 n))), (.d (.p (.bool b)))], []) := Ev_prim rfl (by show (impl_ReadDec.f s).map _ = _; rw [h]; rfl)
structure impl_Node where
  Kind : Int
  A : Int
  B : Int
  C : Int
  N : Int
  Name : ByteArray
  Other : ByteArray
def impl_Node.e (x : impl_Node) : List D := [(.p (.int .i64 x.Kind)), (.p (.int .i64 x.A)), (.p (.int .i64 x.B)), (.p (.int .i64 x.C)), (.p (.int .i64 x.N)), (.p (.string x.Name)), (.p (.string x.Other))]
structure impl_Token where
  Kind : Int
  Text : ByteArray
  N : Int
  At : Int
def impl_Token.e (x : impl_Token) : List D := [(.p (.int .i64 x.Kind)), (.p (.string x.Text)), (.p (.int .i64 x.N)), (.p (.int .i64 x.At))]
structure spec_l4State where
  toks : List impl_Token
  i : Int
  code : Int
  at_ : Int
  end_ : Int
def spec_l4State.e (x : spec_l4State) : List D := [(.l true 4 (x.toks.map impl_Token.e)), (.p (.int .i64 x.i)), (.p (.int .i64 x.code)), (.p (.int .i64 x.at_)), (.p (.int .i64 x.end_))]
structure impl_parser where
  l : List impl_Token
  at_ : Int
  end_ : Int
  code : Int
  spot : Int
  out : List impl_Node
def impl_parser.e (x : impl_parser) : List D := [(.l true 4 (x.l.map impl_Token.e)), (.p (.int .i64 x.at_)), (.p (.int .i64 x.end_)), (.p (.int .i64 x.code)), (.p (.int .i64 x.spot)), (.l true 7 (x.out.map impl_Node.e))]
def spec_l2Letter.enc (r : Bool) : Res := ([(.d (.p (.bool r)))], [])
def spec_l2Letter.f  (K : Nat) (a0 : Int) : Option (Bool) := if a0 ≥ 97 then (some (decide (a0 ≤ 122))) else (some false)
theorem spec_l2Letter.ev   {K : Nat} {a0 : Int} {r : Bool} (h : spec_l2Letter.f  K a0 = some r) : E 80 [(.d (.p (.int .u8 a0)))] = some ([(.d (.p (.bool r)))], []) := by
  refine Ev_intro (fn := Tryd.f80) rfl (by kernel_rfl) (c := _) rfl ⟨rfl, by simp⟩ rfl (evP_spec _ ?_)
  unfold spec_l2Letter.f at h
  refine goS ?_
  refine iteF h (fun c1 h => ?_) (fun c1 h => ?_)
  · refine Ask.T rfl ?_
    refine Ask.T rfl ?_
    exact retE (enc := spec_l2Letter.enc) h rfl
  · refine Ask.F rfl ?_
    refine Ask.F rfl ?_
    exact retE (enc := spec_l2Letter.enc) h rfl
def spec_l2Digit.enc (r : Bool) : Res := ([(.d (.p (.bool r)))], [])
def spec_l2Digit.f  (K : Nat) (a0 : Int) : Option (Bool) := if a0 ≥ 48 then (some (decide (a0 ≤ 57))) else (some false)
theorem spec_l2Digit.ev   {K : Nat} {a0 : Int} {r : Bool} (h : spec_l2Digit.f  K a0 = some r) : E 83 [(.d (.p (.int .u8 a0)))] = some ([(.d (.p (.bool r)))], []) := by
  refine Ev_intro (fn := Tryd.f83) rfl (by kernel_rfl) (c := _) rfl ⟨rfl, by simp⟩ rfl (evP_spec _ ?_)
  unfold spec_l2Digit.f at h
  refine goS ?_
  refine iteF h (fun c1 h => ?_) (fun c1 h => ?_)
  · refine Ask.T rfl ?_
    refine Ask.T rfl ?_
    exact retE (enc := spec_l2Digit.enc) h rfl
  · refine Ask.F rfl ?_
    refine Ask.F rfl ?_
    exact retE (enc := spec_l2Digit.enc) h rfl
def spec_l2Run.enc (r : Int) : Res := ([(.d (.p (.int .i64 r)))], [])
def spec_l2Run.l0 (a0 : ByteArray) (a2 : Bool) (K : Nat) : Nat → Int → Option (Int)
  | 0, _ => none
  | k + 1, v2 => jn (fun (v4 : Bool) => if v4 = true then (spec_l2Run.l0 a0 a2 K k (w64 (v2 + 1))) else (some v2)) (fun j => if v2 < (a0.size : Int) then (if a2 = true then ((atS a0 v2).bind fun x7 => ((spec_l2Letter.f K (x7.toNat : Int)).bind fun y8 => (if y8 = true then (j true) else (if (!a2) = true then ((atS a0 v2).bind fun x12 => ((spec_l2Digit.f K (x12.toNat : Int)).bind fun y13 => (j y13))) else (j false))))) else (if (!a2) = true then ((atS a0 v2).bind fun x16 => ((spec_l2Digit.f K (x16.toNat : Int)).bind fun y17 => (j y17))) else (j false))) else (j false))
def spec_l2Run.f  (K : Nat) (a0 : ByteArray) (a1 : Int) (a2 : Bool) : Option (Int) := jn (fun (v1 : Int) => some v1) (fun j => (spec_l2Run.l0 a0 a2 K K a1).bind fun (v3 : Int) => j v3)
theorem spec_l2Run.ev   {K : Nat} {a0 : ByteArray} {a1 : Int} {a2 : Bool} {r : Int} (h : spec_l2Run.f  K a0 a1 a2 = some r) : E 81 [(.d (.p (.string a0))), (.d (.p (.int .i64 a1))), (.d (.p (.bool a2)))] = some ([(.d (.p (.int .i64 r)))], []) := by
  refine Ev_intro (fn := Tryd.f81) rfl (by kernel_rfl) (c := _) rfl ⟨rfl, by simp⟩ rfl (evP_spec _ ?_)
  unfold spec_l2Run.f at h
  refine seqJ h 33 (fun x => [(1, (.d (.p (.int .i64 x))))]) (fun x => []) (fun J h => ?_) ?_
  · refine loopX (α := Int) (a := a1) 33 (fun x => [(0, (.d (.p (.string a0)))), (1, (.d (.p (.int .i64 x)))), (2, (.d (.p (.bool a2))))]) (fun x => []) (fun k x => spec_l2Run.l0 a0 a2 K k x) 0 (fun x => [(1, (.d (.p (.int .i64 x))))]) (fun x => []) h (fun _ => rfl) ?_ ⟨rfl, ⟨rfl, rfl, rfl, trivial⟩, trivial⟩ ?_
    · rintro k v2 r h e hp
      replace h : spec_l2Run.l0 a0 a2 K (k + 1) v2 = some r := h
      unfold spec_l2Run.l0 at h
      refine goS ?_
      refine seqJ h 33 (fun x => [(0, (.d (.p (.string a0)))), (1, (.d (.p (.int .i64 v2)))), (2, (.d (.p (.bool a2)))), (29, (.d (.p (.bool x))))]) (fun x => []) (fun J h => ?_) ?_
      · refine iteF h (fun c5 h => ?_) (fun c5 h => ?_)
        · refine Ask.T rfl ?_
          refine ifB h (fun c6 h => ?_) (fun c6 h => ?_)
          · refine Ask.T rfl ?_
            refine Ask.T rfl ?_
            refine bindG h fun x7 hx7 h => ?_
            refine exM x7 hx7 ?_
            refine Ask.T rfl ?_
            refine bindG h fun y8 hy9 h => ?_
            refine exM ([(.d (.p (.bool y8)))], []) ?_ ?_
            · exact spec_l2Letter.ev hy9
            refine Ask.T rfl ?_
            refine Ask.T rfl ?_
            refine Ask.T rfl ?_
            refine ifB h (fun c10 h => ?_) (fun c10 h => ?_)
            · refine Ask.T rfl ?_
              refine Ask.T rfl ?_
              refine Ask.T rfl ?_
              refine Ask.T rfl ?_
              refine Ask.T rfl ?_
              refine Ask.T rfl ?_
              exact ⟨true, h, ⟨rfl, ⟨rfl, rfl, rfl, rfl, trivial⟩, trivial⟩⟩
            · refine Ask.F rfl ?_
              refine Ask.F rfl ?_
              refine ifB h (fun c11 h => ?_) (fun c11 h => ?_)
              · refine Ask.T rfl ?_
                refine Ask.T rfl ?_
                refine bindG h fun x12 hx12 h => ?_
                refine exM x12 hx12 ?_
                refine Ask.T rfl ?_
                refine bindG h fun y13 hy14 h => ?_
                refine exM ([(.d (.p (.bool y13)))], []) ?_ ?_
                · exact spec_l2Digit.ev hy14
                refine Ask.F rfl ?_
                refine Ask.T rfl ?_
                refine Ask.T rfl ?_
                refine Ask.F rfl ?_
                refine Ask.T rfl ?_
                exact ⟨y13, h, ⟨rfl, ⟨rfl, rfl, rfl, rfl, trivial⟩, trivial⟩⟩
              · refine Ask.F rfl ?_
                refine Ask.F rfl ?_
                refine Ask.F rfl ?_
                refine Ask.F rfl ?_
                refine Ask.F rfl ?_
                refine Ask.T rfl ?_
                refine Ask.F rfl ?_
                refine Ask.T rfl ?_
                exact ⟨false, h, ⟨rfl, ⟨rfl, rfl, rfl, rfl, trivial⟩, trivial⟩⟩
          · refine Ask.F rfl ?_
            refine Ask.F rfl ?_
            refine Ask.F rfl ?_
            refine Ask.T rfl ?_
            refine Ask.F rfl ?_
            refine Ask.T rfl ?_
            refine Ask.F rfl ?_
            refine Ask.F rfl ?_
            refine Ask.F rfl ?_
            refine ifB h (fun c15 h => ?_) (fun c15 h => ?_)
            · refine Ask.T rfl ?_
              refine Ask.T rfl ?_
              refine bindG h fun x16 hx16 h => ?_
              refine exM x16 hx16 ?_
              refine Ask.T rfl ?_
              refine bindG h fun y17 hy18 h => ?_
              refine exM ([(.d (.p (.bool y17)))], []) ?_ ?_
              · exact spec_l2Digit.ev hy18
              refine Ask.F rfl ?_
              refine Ask.T rfl ?_
              refine Ask.T rfl ?_
              refine Ask.F rfl ?_
              refine Ask.T rfl ?_
              exact ⟨y17, h, ⟨rfl, ⟨rfl, rfl, rfl, rfl, trivial⟩, trivial⟩⟩
            · refine Ask.F rfl ?_
              refine Ask.F rfl ?_
              refine Ask.F rfl ?_
              refine Ask.F rfl ?_
              refine Ask.F rfl ?_
              refine Ask.T rfl ?_
              refine Ask.F rfl ?_
              refine Ask.T rfl ?_
              exact ⟨false, h, ⟨rfl, ⟨rfl, rfl, rfl, rfl, trivial⟩, trivial⟩⟩
        · refine Ask.F rfl ?_
          refine Ask.F rfl ?_
          refine Ask.F rfl ?_
          refine Ask.F rfl ?_
          refine Ask.F rfl ?_
          exact ⟨false, h, ⟨rfl, ⟨rfl, rfl, rfl, rfl, trivial⟩, trivial⟩⟩
      · rintro v4 h e hp
        refine ifB h (fun c19 h => ?_) (fun c19 h => ?_)
        · exact ⟨(w64 (v2 + 1)), h, ⟨rfl, ⟨rfl, rfl, rfl, trivial⟩, trivial⟩⟩
        · refine exQ h ?_
          exact ⟨rfl, ⟨rfl, trivial⟩, trivial⟩
    · rintro v3 S' h ⟨qn, ⟨qa0, _⟩, ⟨_⟩⟩
      exact ⟨v3, h, ⟨qn, ⟨qa0, trivial⟩, trivial⟩⟩
  · rintro v1 h e hp
    exact retE (enc := spec_l2Run.enc) h rfl
def spec_l1In.enc (r : Bool) : Res := ([(.d (.p (.bool r)))], [])
def spec_l1In.f  (K : Nat) (a0 : Int) (a1 : Int) (a2 : Int) : Option (Bool) := if a0 ≥ a1 then (some (decide (a0 ≤ a2))) else (some false)
theorem spec_l1In.ev   {K : Nat} {a0 : Int} {a1 : Int} {a2 : Int} {r : Bool} (h : spec_l1In.f  K a0 a1 a2 = some r) : E 38 [(.d (.p (.int .i64 a0))), (.d (.p (.int .i64 a1))), (.d (.p (.int .i64 a2)))] = some ([(.d (.p (.bool r)))], []) := by
  refine Ev_intro (fn := Tryd.f38) rfl (by kernel_rfl) (c := _) rfl ⟨rfl, by simp⟩ rfl (evP_spec _ ?_)
  unfold spec_l1In.f at h
  refine goS ?_
  refine iteF h (fun c1 h => ?_) (fun c1 h => ?_)
  · refine Ask.T rfl ?_
    refine Ask.T rfl ?_
    refine Ask.T rfl ?_
    exact retE (enc := spec_l1In.enc) h rfl
  · refine Ask.F rfl ?_
    refine Ask.F rfl ?_
    refine Ask.F rfl ?_
    exact retE (enc := spec_l1In.enc) h rfl
def spec_IsWord.enc (r : Bool) : Res := ([(.d (.p (.bool r)))], [])
def spec_IsWord.en (a0 : ByteArray) (r : Bool) (S : St) : Prop := endV tb md 82 Tryd.f82 [(.d (.p (.string a0)))] .ret S = some (spec_IsWord.enc r)
def spec_IsWord.l0 (a0 : ByteArray) (K : Nat) : Nat → Int → Option (Bool ⊕ Unit)
  | 0, _ => none
  | k + 1, v1 => if v1 < (a0.size : Int) then ((atS a0 v1).bind fun x3 => ((spec_l2Letter.f K (x3.toNat : Int)).bind fun y4 => (if (!y4) = true then (some (.inl false)) else (spec_IsWord.l0 a0 K k (w64 (v1 + 1)))))) else (some (.inr ()))
def spec_IsWord.f  (K : Nat) (a0 : ByteArray) : Option (Bool) := jn (fun (_ : Unit) => (spec_l1In.f K (a0.size : Int) 1 8).bind fun y7 => (some y7)) (fun j => lb (spec_IsWord.l0 a0 K K 0) (fun r => some r) (fun (_ : Unit) => j ()))
theorem spec_IsWord.ev   {K : Nat} {a0 : ByteArray} {r : Bool} (h : spec_IsWord.f  K a0 = some r) : E 82 [(.d (.p (.string a0)))] = some ([(.d (.p (.bool r)))], []) := by
  refine Ev_intro (fn := Tryd.f82) rfl (by kernel_rfl) (c := _) rfl ⟨rfl, by simp⟩ rfl (evP_spec _ ?_)
  unfold spec_IsWord.f at h
  refine seqJ h 18 (fun x => [(0, (.d (.p (.string a0))))]) (fun x => []) (fun J h => ?_) ?_
  · refine loopB (α := Int) (a := 0) 18 (fun x => [(0, (.d (.p (.string a0)))), (3, (.d (.p (.int .i64 x))))]) (fun x => []) (fun k x => spec_IsWord.l0 a0 K k x) (spec_IsWord.en a0) 0 (fun x => [(0, (.d (.p (.string a0))))]) (fun x => []) h (fun _ => rfl) ?_ ⟨rfl, ⟨rfl, rfl, trivial⟩, trivial⟩ ?_ ?_
    · rintro k v1 r h e hp
      replace h : spec_IsWord.l0 a0 K (k + 1) v1 = some r := h
      unfold spec_IsWord.l0 at h
      refine goS ?_
      refine iteF h (fun c2 h => ?_) (fun c2 h => ?_)
      · refine goS ?_
        refine bindG h fun x3 hx3 h => ?_
        refine exM x3 hx3 ?_
        refine bindG h fun y4 hy5 h => ?_
        refine exM ([(.d (.p (.bool y4)))], []) ?_ ?_
        · exact spec_l2Letter.ev hy5
        refine ifB h (fun c6 h => ?_) (fun c6 h => ?_)
        · exact lqL h rfl
        · exact ⟨(w64 (v1 + 1)), h, ⟨rfl, ⟨rfl, rfl, trivial⟩, trivial⟩⟩
      · refine lqR h ?_
        exact ⟨rfl, ⟨rfl, trivial⟩, trivial⟩
    · intro r' S' h q
      exact retE (enc := spec_IsWord.enc) h q
    · rintro _ S' h ⟨qn, ⟨qa0, _⟩, ⟨_⟩⟩
      exact ⟨(), h, ⟨qn, ⟨qa0, trivial⟩, trivial⟩⟩
  · rintro _ h e hp
    refine bindG h fun y7 hy8 h => ?_
    refine exM ([(.d (.p (.bool y7)))], []) ?_ ?_
    · exact spec_l1In.ev hy8
    exact retE (enc := spec_IsWord.enc) h rfl
def spec_Dec.enc (r : ByteArray) : Res := ([(.d (.p (.string r)))], [])
def spec_Dec.l0 (K : Nat) : Nat → Int → ByteArray → Option (ByteArray)
  | 0, _, _ => none
  | k + 1, v3, v4 => if (!(decide (v3 = 0))) = true then (jn (fun (v7 : Int) => gd ((strOfNums ([(IntKind.u8.wrap (w64 (48 + v7)))] : List Int)).size + v4.size ≤ 9223372036854775807) (spec_Dec.l0 K k (w64 (Int.tdiv v3 10)) ((strOfNums ([(IntKind.u8.wrap (w64 (48 + v7)))] : List Int)) ++ v4))) (fun j => if (Int.tmod v3 10) < 0 then (j (w64 (0 - (Int.tmod v3 10)))) else (j (Int.tmod v3 10)))) else (some v4)
def spec_Dec.f  (K : Nat) (a0 : Int) : Option (ByteArray) := if a0 = 0 then (some (⟨#[48]⟩ : ByteArray)) else (jn (fun (v2 : ByteArray) => if a0 < 0 then (gd ((⟨#[45]⟩ : ByteArray).size + v2.size ≤ 9223372036854775807) (some ((⟨#[45]⟩ : ByteArray) ++ v2))) else (some v2)) (fun j => (spec_Dec.l0 K K a0 (⟨#[]⟩ : ByteArray)).bind fun (v5 : ByteArray) => j v5))
theorem spec_Dec.ev   {K : Nat} {a0 : Int} {r : ByteArray} (h : spec_Dec.f  K a0 = some r) : E 111 [(.d (.p (.int .i64 a0)))] = some ([(.d (.p (.string r)))], []) := by
  refine Ev_intro (fn := Tryd.f111) rfl (by kernel_rfl) (c := _) rfl ⟨rfl, by simp⟩ rfl (evP_spec _ ?_)
  unfold spec_Dec.f at h
  refine goS ?_
  refine iteF h (fun c1 h => ?_) (fun c1 h => ?_)
  · exact retE (enc := spec_Dec.enc) h rfl
  · refine seqJ h 31 (fun x => [(3, (.d (.p (.string x)))), (4, (.d (.p (.bool (decide (a0 < 0))))))]) (fun x => []) (fun J h => ?_) ?_
    · refine loopX (α := Int × ByteArray) (a := (a0, (⟨#[]⟩ : ByteArray))) 31 (fun x => [(0, (.d (.p (.int .i64 x.1)))), (3, (.d (.p (.string x.2)))), (4, (.d (.p (.bool (decide (a0 < 0))))))]) (fun x => []) (fun k x => spec_Dec.l0 K k x.1 x.2) 0 (fun x => [(3, (.d (.p (.string x)))), (4, (.d (.p (.bool (decide (a0 < 0))))))]) (fun x => []) h (fun _ => rfl) ?_ ⟨rfl, ⟨rfl, rfl, rfl, trivial⟩, trivial⟩ ?_
      · rintro k ⟨v3, v4⟩ r h e hp
        replace h : spec_Dec.l0 K (k + 1) v3 v4 = some r := h
        unfold spec_Dec.l0 at h
        refine goS ?_
        refine ifB h (fun c6 h => ?_) (fun c6 h => ?_)
        · refine anM (by decide) ?_
          refine seqJ h 31 (fun x => [(0, (.d (.p (.int .i64 v3)))), (3, (.d (.p (.string v4)))), (4, (.d (.p (.bool (decide (a0 < 0)))))), (5, (.d (.p (.int .i64 x))))]) (fun x => []) (fun J h => ?_) ?_
          · refine iteF h (fun c8 h => ?_) (fun c8 h => ?_)
            · exact ⟨(w64 (0 - (Int.tmod v3 10))), h, ⟨rfl, ⟨rfl, rfl, rfl, rfl, trivial⟩, trivial⟩⟩
            · exact ⟨(Int.tmod v3 10), h, ⟨rfl, ⟨rfl, rfl, rfl, rfl, trivial⟩, trivial⟩⟩
          · rintro v7 h e hp
            refine eqM (([(IntKind.u8.wrap (w64 (48 + v7)))] : List Int).map eY) rfl ?_
            refine exM ([(IntKind.u8.wrap (w64 (48 + v7)))] : List Int) (numsOf_map _) ?_
            refine gdG h fun hc h => ?_
            refine anM hc ?_
            refine anM (by decide) ?_
            exact ⟨((w64 (Int.tdiv v3 10)), ((strOfNums ([(IntKind.u8.wrap (w64 (48 + v7)))] : List Int)) ++ v4)), h, ⟨rfl, ⟨rfl, rfl, rfl, trivial⟩, trivial⟩⟩
        · refine exQ h ?_
          exact ⟨rfl, ⟨rfl, rfl, trivial⟩, trivial⟩
      · rintro v5 S' h ⟨qn, ⟨qa0, qa1, _⟩, ⟨_⟩⟩
        exact ⟨v5, h, ⟨qn, ⟨qa0, qa1, trivial⟩, trivial⟩⟩
    · rintro v2 h e hp
      refine goS ?_
      refine iteF h (fun c9 h => ?_) (fun c9 h => ?_)
      · refine gdG h fun hc h => ?_
        refine anM hc ?_
        exact retE (enc := spec_Dec.enc) h rfl
      · exact retE (enc := spec_Dec.enc) h rfl
def spec_ReadDec.enc (r : Int × Bool) : Res := ([(.d (.p (.int .i64 r.1))), (.d (.p (.bool r.2)))], [])
def spec_ReadDec.l0 (a0 : ByteArray) (K : Nat) : Nat → Int → Int → Int → Option (Int × Int)
  | 0, _, _, _ => none
  | k + 1, v3, v4, v5 => jn (fun (v8 : Bool) => if v8 = true then (jn (fun (v11, v12) => spec_ReadDec.l0 a0 K k v11 v12 (w64 (v5 + 1))) (fun j => jn (fun (v13 : Bool) => if v13 = true then ((atS a0 v5).bind fun x18 => (j ((w64 ((w64 (v3 * 10)) + (w64 (IntKind.u8.wrap ((x18.toNat : Int) - 48))))), (w64 (v4 + 1))))) else (j (v3, v4))) (fun j => (atS a0 v5).bind fun x14 => (if (x14.toNat : Int) ≥ 48 then ((atS a0 v5).bind fun x16 => (j (decide ((x16.toNat : Int) ≤ 57)))) else (j false))))) else (some (v3, v4))) (fun j => if v5 < (a0.size : Int) then (j (decide (v5 < 11))) else (j false))
def spec_ReadDec.f  (K : Nat) (a0 : ByteArray) : Option (Int × Bool) := jn (fun (v1, v2) => jn (fun (v19 : Int) => jn (fun (v24 : Bool) => if v24 = true then (some (0, false)) else (some (v19, true))) (fun j => if v2 > 9 then (j true) else (if (a0.size : Int) > 10 then (j true) else ((spec_Dec.f K v19).bind fun y27 => (j (!(y27.toList == a0.toList))))))) (fun j => jn (fun (v20 : Bool) => if v20 = true then (j (w64 (0 - v1))) else (j v1)) (fun j => if (a0.size : Int) > 0 then ((atS a0 0).bind fun x22 => (j (decide ((x22.toNat : Int) = 45)))) else (j false)))) (fun j => (spec_ReadDec.l0 a0 K K 0 0 0).bind fun (v6, v7) => j (v6, v7))
theorem spec_ReadDec.ev   {K : Nat} {a0 : ByteArray} {r : Int × Bool} (h : spec_ReadDec.f  K a0 = some r) : E 84 [(.d (.p (.string a0)))] = some ([(.d (.p (.int .i64 r.1))), (.d (.p (.bool r.2)))], []) := by
  refine Ev_intro (fn := Tryd.f84) rfl (by kernel_rfl) (c := _) rfl ⟨rfl, by simp⟩ rfl (evP_spec _ ?_)
  unfold spec_ReadDec.f at h
  refine seqJ h 61 (fun x => [(0, (.d (.p (.string a0)))), (4, (.d (.p (.int .i64 x.1)))), (5, (.d (.p (.int .i64 x.2))))]) (fun x => []) (fun J h => ?_) ?_
  · refine loopX (α := Int × Int × Int) (a := (0, 0, 0)) 61 (fun x => [(0, (.d (.p (.string a0)))), (4, (.d (.p (.int .i64 x.1)))), (5, (.d (.p (.int .i64 x.2.1)))), (6, (.d (.p (.int .i64 x.2.2))))]) (fun x => []) (fun k x => spec_ReadDec.l0 a0 K k x.1 x.2.1 x.2.2) 0 (fun x => [(0, (.d (.p (.string a0)))), (4, (.d (.p (.int .i64 x.1)))), (5, (.d (.p (.int .i64 x.2))))]) (fun x => []) h (fun _ => rfl) ?_ ⟨rfl, ⟨rfl, rfl, rfl, rfl, trivial⟩, trivial⟩ ?_
    · rintro k ⟨v3, v4, v5⟩ r h e hp
      replace h : spec_ReadDec.l0 a0 K (k + 1) v3 v4 v5 = some r := h
      unfold spec_ReadDec.l0 at h
      refine goS ?_
      refine seqJ h 61 (fun x => [(0, (.d (.p (.string a0)))), (4, (.d (.p (.int .i64 v3)))), (5, (.d (.p (.int .i64 v4)))), (6, (.d (.p (.int .i64 v5)))), (14, (.d (.p (.bool x))))]) (fun x => []) (fun J h => ?_) ?_
      · refine iteF h (fun c9 h => ?_) (fun c9 h => ?_)
        · refine Ask.T rfl ?_
          refine Ask.T rfl ?_
          exact ⟨(decide (v5 < 11)), h, ⟨rfl, ⟨rfl, rfl, rfl, rfl, rfl, trivial⟩, trivial⟩⟩
        · refine Ask.F rfl ?_
          refine Ask.F rfl ?_
          exact ⟨false, h, ⟨rfl, ⟨rfl, rfl, rfl, rfl, rfl, trivial⟩, trivial⟩⟩
      · rintro v8 h e hp
        refine ifB h (fun c10 h => ?_) (fun c10 h => ?_)
        · refine seqJ h 61 (fun x => [(0, (.d (.p (.string a0)))), (4, (.d (.p (.int .i64 x.1)))), (5, (.d (.p (.int .i64 x.2)))), (6, (.d (.p (.int .i64 v5))))]) (fun x => []) (fun J h => ?_) ?_
          · refine seqJ h 61 (fun x => [(0, (.d (.p (.string a0)))), (4, (.d (.p (.int .i64 v3)))), (5, (.d (.p (.int .i64 v4)))), (6, (.d (.p (.int .i64 v5)))), (26, (.d (.p (.bool x))))]) (fun x => []) (fun J h => ?_) ?_
            · refine bindG h fun x14 hx14 h => ?_
              refine exM x14 hx14 ?_
              refine iteF h (fun c15 h => ?_) (fun c15 h => ?_)
              · refine Ask.T rfl ?_
                refine Ask.T rfl ?_
                refine bindG h fun x16 hx16 h => ?_
                refine exM x16 hx16 ?_
                refine Ask.T rfl ?_
                refine Ask.T rfl ?_
                exact ⟨(decide ((x16.toNat : Int) ≤ 57)), h, ⟨rfl, ⟨rfl, rfl, rfl, rfl, rfl, trivial⟩, trivial⟩⟩
              · refine Ask.F rfl ?_
                refine Ask.F rfl ?_
                refine Ask.F rfl ?_
                refine Ask.F rfl ?_
                exact ⟨false, h, ⟨rfl, ⟨rfl, rfl, rfl, rfl, rfl, trivial⟩, trivial⟩⟩
            · rintro v13 h e hp
              refine ifB h (fun c17 h => ?_) (fun c17 h => ?_)
              · refine bindG h fun x18 hx18 h => ?_
                refine exM x18 hx18 ?_
                exact ⟨((w64 ((w64 (v3 * 10)) + (w64 (IntKind.u8.wrap ((x18.toNat : Int) - 48))))), (w64 (v4 + 1))), h, ⟨rfl, ⟨rfl, rfl, rfl, rfl, trivial⟩, trivial⟩⟩
              · exact ⟨(v3, v4), h, ⟨rfl, ⟨rfl, rfl, rfl, rfl, trivial⟩, trivial⟩⟩
          · rintro ⟨v11, v12⟩ h e hp
            exact ⟨(v11, v12, (w64 (v5 + 1))), h, ⟨rfl, ⟨rfl, rfl, rfl, rfl, trivial⟩, trivial⟩⟩
        · refine exQ h ?_
          exact ⟨rfl, ⟨rfl, rfl, rfl, trivial⟩, trivial⟩
    · rintro ⟨v6, v7⟩ S' h ⟨qn, ⟨qa0, qa1, qa2, _⟩, ⟨_⟩⟩
      exact ⟨(v6, v7), h, ⟨qn, ⟨qa0, qa1, qa2, trivial⟩, trivial⟩⟩
  · rintro ⟨v1, v2⟩ h e hp
    refine seqJ h 61 (fun x => [(0, (.d (.p (.string a0)))), (4, (.d (.p (.int .i64 x)))), (5, (.d (.p (.int .i64 v2))))]) (fun x => []) (fun J h => ?_) ?_
    · refine seqJ h 61 (fun x => [(0, (.d (.p (.string a0)))), (4, (.d (.p (.int .i64 v1)))), (5, (.d (.p (.int .i64 v2)))), (44, (.d (.p (.bool x))))]) (fun x => []) (fun J h => ?_) ?_
      · refine iteF h (fun c21 h => ?_) (fun c21 h => ?_)
        · refine Ask.T rfl ?_
          refine bindG h fun x22 hx22 h => ?_
          refine exM x22 hx22 ?_
          refine Ask.T rfl ?_
          refine Ask.T rfl ?_
          exact ⟨(decide ((x22.toNat : Int) = 45)), h, ⟨rfl, ⟨rfl, rfl, rfl, rfl, trivial⟩, trivial⟩⟩
        · refine Ask.F rfl ?_
          refine Ask.F rfl ?_
          refine Ask.F rfl ?_
          exact ⟨false, h, ⟨rfl, ⟨rfl, rfl, rfl, rfl, trivial⟩, trivial⟩⟩
      · rintro v20 h e hp
        refine ifB h (fun c23 h => ?_) (fun c23 h => ?_)
        · exact ⟨(w64 (0 - v1)), h, ⟨rfl, ⟨rfl, rfl, rfl, trivial⟩, trivial⟩⟩
        · exact ⟨v1, h, ⟨rfl, ⟨rfl, rfl, rfl, trivial⟩, trivial⟩⟩
    · rintro v19 h e hp
      refine goS ?_
      refine seqJ h 61 (fun x => [(4, (.d (.p (.int .i64 v19)))), (59, (.d (.p (.bool x))))]) (fun x => []) (fun J h => ?_) ?_
      · refine iteF h (fun c25 h => ?_) (fun c25 h => ?_)
        · refine Ask.T rfl ?_
          refine Ask.T rfl ?_
          refine Ask.T rfl ?_
          refine Ask.T rfl ?_
          refine Ask.T rfl ?_
          refine Ask.T rfl ?_
          refine Ask.T rfl ?_
          refine Ask.T rfl ?_
          exact ⟨true, h, ⟨rfl, ⟨rfl, rfl, trivial⟩, trivial⟩⟩
        · refine Ask.F rfl ?_
          refine Ask.F rfl ?_
          refine Ask.F rfl ?_
          refine iteF h (fun c26 h => ?_) (fun c26 h => ?_)
          · refine Ask.T rfl ?_
            refine Ask.T rfl ?_
            refine Ask.T rfl ?_
            refine Ask.T rfl ?_
            exact ⟨true, h, ⟨rfl, ⟨rfl, rfl, trivial⟩, trivial⟩⟩
          · refine Ask.F rfl ?_
            refine bindG h fun y27 hy28 h => ?_
            refine exM ([(.d (.p (.string y27)))], []) ?_ ?_
            · exact spec_Dec.ev hy28
            refine Ask.F rfl ?_
            refine Ask.F rfl ?_
            refine Ask.F rfl ?_
            exact ⟨(!(y27.toList == a0.toList)), h, ⟨rfl, ⟨rfl, rfl, trivial⟩, trivial⟩⟩
      · rintro v24 h e hp
        refine ifB h (fun c29 h => ?_) (fun c29 h => ?_)
        · exact retE (enc := spec_ReadDec.enc) h rfl
        · exact retE (enc := spec_ReadDec.enc) h rfl
def spec_Lex.enc (r : List impl_Token × Int) : Res := ([(.own true 4 (r.1.map impl_Token.e)), (.d (.p (.int .i64 r.2)))], [])
def spec_Lex.en (a0 : ByteArray) (r : List impl_Token × Int) (S : St) : Prop := endV tb md 55 Tryd.f55 [(.d (.p (.string a0)))] .ret S = some (spec_Lex.enc r)
def spec_Lex.l1 (a0 : ByteArray) (K : Nat) : Nat → Int → Option (Int)
  | 0, _ => none
  | k + 1, v12 => jn (fun (v14 : Bool) => if v14 = true then (spec_Lex.l1 a0 K k (w64 (v12 + 1))) else (some v12)) (fun j => if v12 < (a0.size : Int) then ((atS a0 v12).bind fun x16 => (j (!(decide ((x16.toNat : Int) = 10))))) else (j false))
def spec_Lex.l0 (a0 : ByteArray) (K : Nat) : Nat → Int → (List impl_Token) → Option ((List impl_Token × Int) ⊕ (List impl_Token))
  | 0, _, _ => none
  | k + 1, v3, v4 => if v3 < (a0.size : Int) then ((atS a0 v3).bind fun x7 => (jn (fun (v8 : Bool) => if v8 = true then (spec_Lex.l0 a0 K k (w64 (v3 + 1)) v4) else (if (x7.toNat : Int) = 35 then ((spec_Lex.l1 a0 K K v3).bind fun (v13 : Int) => spec_Lex.l0 a0 K k v13 v4) else (if (x7.toNat : Int) = 40 then (gd ((v4.length + 1) * 40 ≤ 140737488355328) (spec_Lex.l0 a0 K k (w64 (v3 + 1)) (v4 ++ ([(⟨1, (⟨#[40]⟩ : ByteArray), 0, v3⟩ : impl_Token)] : List impl_Token)))) else (if (x7.toNat : Int) = 41 then (gd ((v4.length + 1) * 40 ≤ 140737488355328) (spec_Lex.l0 a0 K k (w64 (v3 + 1)) (v4 ++ ([(⟨2, (⟨#[41]⟩ : ByteArray), 0, v3⟩ : impl_Token)] : List impl_Token)))) else ((spec_l2Letter.f K (x7.toNat : Int)).bind fun y20 => (if y20 = true then ((spec_l2Run.f K a0 v3 true).bind fun y23 => (gd (0 ≤ v3 ∧ v3 ≤ y23 ∧ y23 ≤ (a0.size : Int)) ((spec_IsWord.f K (a0.extract (v3).toNat (y23).toNat)).bind fun y25 => (if (!y25) = true then (some (.inl (([] : List impl_Token), v3))) else (gd (0 ≤ v3 ∧ v3 ≤ y23 ∧ y23 ≤ (a0.size : Int)) (gd ((v4.length + 1) * 40 ≤ 140737488355328) (spec_Lex.l0 a0 K k y23 (v4 ++ ([(⟨3, (a0.extract (v3).toNat (y23).toNat), 0, v3⟩ : impl_Token)] : List impl_Token))))))))) else ((spec_l2Digit.f K (x7.toNat : Int)).bind fun y28 => (if y28 = true then ((spec_l2Run.f K a0 v3 false).bind fun y31 => (gd (0 ≤ v3 ∧ v3 ≤ y31 ∧ y31 ≤ (a0.size : Int)) ((spec_ReadDec.f K (a0.extract (v3).toNat (y31).toNat)).bind fun (y33, y34) => (jn (fun (v36 : Bool) => if v36 = true then (some (.inl (([] : List impl_Token), v3))) else (gd (0 ≤ v3 ∧ v3 ≤ y31 ∧ y31 ≤ (a0.size : Int)) (gd ((v4.length + 1) * 40 ≤ 140737488355328) (spec_Lex.l0 a0 K k y31 (v4 ++ ([(⟨4, (a0.extract (v3).toNat (y31).toNat), y33, v3⟩ : impl_Token)] : List impl_Token)))))) (fun j => if (!y34) = true then (j true) else (j (decide (y33 > 65535)))))))) else (some (.inl (([] : List impl_Token), v3))))))))))) (fun j => if (x7.toNat : Int) = 32 then (j true) else (j (decide ((x7.toNat : Int) = 10)))))) else (some (.inr v4))
def spec_Lex.f  (K : Nat) (a0 : ByteArray) : Option (List impl_Token × Int) := if (a0.size : Int) > 4000 then (some (([] : List impl_Token), 4000)) else (jn (fun (v2 : List impl_Token) => some (v2, (-1))) (fun j => lb (spec_Lex.l0 a0 K K 0 ([] : List impl_Token)) (fun r => some r) (fun (v5 : List impl_Token) => j v5)))
theorem spec_Lex.ev   {K : Nat} {a0 : ByteArray} {r : List impl_Token × Int} (h : spec_Lex.f  K a0 = some r) : E 55 [(.d (.p (.string a0)))] = some ([(.own true 4 (r.1.map impl_Token.e)), (.d (.p (.int .i64 r.2)))], []) := by
  refine Ev_intro (fn := Tryd.f55) rfl (by kernel_rfl) (c := _) rfl ⟨rfl, by simp⟩ rfl (evP_spec _ ?_)
  unfold spec_Lex.f at h
  refine eqM (([] : List impl_Token).map impl_Token.e) rfl ?_
  refine goS ?_
  refine iteF h (fun c1 h => ?_) (fun c1 h => ?_)
  · exact retE (enc := spec_Lex.enc) h rfl
  · refine seqJ h 127 (fun x => [(4, (.own 4 1 2))]) (fun x => [(4, 1, 2, (some (.row true true 4 (x.map impl_Token.e))))]) (fun J h => ?_) ?_
    · refine loopB (α := Int × List impl_Token) (a := (0, ([] : List impl_Token))) 127 (fun x => [(0, (.d (.p (.string a0)))), (4, (.own 4 1 2)), (5, (.d (.p (.int .i64 x.1))))]) (fun x => [(4, 1, 2, (some (.row true true 4 (x.2.map impl_Token.e))))]) (fun k x => spec_Lex.l0 a0 K k x.1 x.2) (spec_Lex.en a0) 0 (fun x => [(4, (.own 4 1 2))]) (fun x => [(4, 1, 2, (some (.row true true 4 (x.map impl_Token.e))))]) h (fun _ => rfl) ?_ ⟨rfl, ⟨rfl, rfl, rfl, trivial⟩, ⟨rfl, trivial⟩⟩ ?_ ?_
      · rintro k ⟨v3, v4⟩ r h e hp
        replace h : spec_Lex.l0 a0 K (k + 1) v3 v4 = some r := h
        unfold spec_Lex.l0 at h
        refine goS ?_
        refine iteF h (fun c6 h => ?_) (fun c6 h => ?_)
        · refine bindG h fun x7 hx7 h => ?_
          refine exM x7 hx7 ?_
          refine seqJ h 127 (fun x => [(0, (.d (.p (.string a0)))), (4, (.own 4 1 2)), (5, (.d (.p (.int .i64 v3)))), (6, (.d (.p (.int .u8 (x7.toNat : Int))))), (25, (.d (.p (.bool x))))]) (fun x => [(4, 1, 2, (some (.row true true 4 (v4.map impl_Token.e))))]) (fun J h => ?_) ?_
          · refine iteF h (fun c9 h => ?_) (fun c9 h => ?_)
            · refine Ask.T rfl ?_
              refine Ask.T rfl ?_
              exact ⟨true, h, ⟨rfl, ⟨rfl, rfl, rfl, rfl, rfl, trivial⟩, ⟨rfl, trivial⟩⟩⟩
            · refine Ask.F rfl ?_
              refine Ask.F rfl ?_
              exact ⟨(decide ((x7.toNat : Int) = 10)), h, ⟨rfl, ⟨rfl, rfl, rfl, rfl, rfl, trivial⟩, ⟨rfl, trivial⟩⟩⟩
          · rintro v8 h e hp
            refine ifB h (fun c10 h => ?_) (fun c10 h => ?_)
            · exact ⟨((w64 (v3 + 1)), v4), h, ⟨rfl, ⟨rfl, rfl, rfl, trivial⟩, ⟨rfl, trivial⟩⟩⟩
            · refine iteF h (fun c11 h => ?_) (fun c11 h => ?_)
              · refine loopX (α := Int) (a := v3) 127 (fun x => [(0, (.d (.p (.string a0)))), (4, (.own 4 1 2)), (5, (.d (.p (.int .i64 x))))]) (fun x => [(4, 1, 2, (some (.row true true 4 (v4.map impl_Token.e))))]) (fun k x => spec_Lex.l1 a0 K k x) 3 (fun x => [(0, (.d (.p (.string a0)))), (4, (.own 4 1 2)), (5, (.d (.p (.int .i64 x))))]) (fun x => [(4, 1, 2, (some (.row true true 4 (v4.map impl_Token.e))))]) h (fun _ => rfl) ?_ ⟨rfl, ⟨rfl, rfl, rfl, trivial⟩, ⟨rfl, trivial⟩⟩ ?_
                · rintro k v12 r h e hp
                  replace h : spec_Lex.l1 a0 K (k + 1) v12 = some r := h
                  unfold spec_Lex.l1 at h
                  refine goS ?_
                  refine seqJ h 127 (fun x => [(0, (.d (.p (.string a0)))), (4, (.own 4 1 2)), (5, (.d (.p (.int .i64 v12)))), (46, (.d (.p (.bool x))))]) (fun x => [(4, 1, 2, (some (.row true true 4 (v4.map impl_Token.e))))]) (fun J h => ?_) ?_
                  · refine iteF h (fun c15 h => ?_) (fun c15 h => ?_)
                    · refine Ask.T rfl ?_
                      refine Ask.T rfl ?_
                      refine bindG h fun x16 hx16 h => ?_
                      refine exM x16 hx16 ?_
                      refine Ask.T rfl ?_
                      refine Ask.T rfl ?_
                      exact ⟨(!(decide ((x16.toNat : Int) = 10))), h, ⟨rfl, ⟨rfl, rfl, rfl, rfl, trivial⟩, ⟨rfl, trivial⟩⟩⟩
                    · refine Ask.F rfl ?_
                      refine Ask.F rfl ?_
                      refine Ask.F rfl ?_
                      refine Ask.F rfl ?_
                      exact ⟨false, h, ⟨rfl, ⟨rfl, rfl, rfl, rfl, trivial⟩, ⟨rfl, trivial⟩⟩⟩
                  · rintro v14 h e hp
                    refine ifB h (fun c17 h => ?_) (fun c17 h => ?_)
                    · exact ⟨(w64 (v12 + 1)), h, ⟨rfl, ⟨rfl, rfl, rfl, trivial⟩, ⟨rfl, trivial⟩⟩⟩
                    · refine exQ h ?_
                      exact ⟨rfl, ⟨rfl, rfl, rfl, trivial⟩, ⟨rfl, trivial⟩⟩
                · rintro v13 S' h ⟨qn, ⟨qa0, qa1, qa2, _⟩, ⟨qb0, _⟩⟩
                  exact ⟨(v13, v4), h, ⟨qn, ⟨qa0, qa1, qa2, trivial⟩, ⟨qb0, trivial⟩⟩⟩
              · refine iteF h (fun c18 h => ?_) (fun c18 h => ?_)
                · refine eqM (([(⟨1, (⟨#[40]⟩ : ByteArray), 0, v3⟩ : impl_Token)] : List impl_Token).map impl_Token.e) rfl ?_
                  refine gdG h fun hc h => ?_
                  refine anM (apB hc) ?_
                  refine eqM ((v4 ++ ([(⟨1, (⟨#[40]⟩ : ByteArray), 0, v3⟩ : impl_Token)] : List impl_Token)).map impl_Token.e) (mApp rfl rfl) ?_
                  exact ⟨((w64 (v3 + 1)), (v4 ++ ([(⟨1, (⟨#[40]⟩ : ByteArray), 0, v3⟩ : impl_Token)] : List impl_Token))), h, ⟨rfl, ⟨rfl, rfl, rfl, trivial⟩, ⟨rfl, trivial⟩⟩⟩
                · refine iteF h (fun c19 h => ?_) (fun c19 h => ?_)
                  · refine eqM (([(⟨2, (⟨#[41]⟩ : ByteArray), 0, v3⟩ : impl_Token)] : List impl_Token).map impl_Token.e) rfl ?_
                    refine gdG h fun hc h => ?_
                    refine anM (apB hc) ?_
                    refine eqM ((v4 ++ ([(⟨2, (⟨#[41]⟩ : ByteArray), 0, v3⟩ : impl_Token)] : List impl_Token)).map impl_Token.e) (mApp rfl rfl) ?_
                    exact ⟨((w64 (v3 + 1)), (v4 ++ ([(⟨2, (⟨#[41]⟩ : ByteArray), 0, v3⟩ : impl_Token)] : List impl_Token))), h, ⟨rfl, ⟨rfl, rfl, rfl, trivial⟩, ⟨rfl, trivial⟩⟩⟩
                  · refine bindG h fun y20 hy21 h => ?_
                    refine exM ([(.d (.p (.bool y20)))], []) ?_ ?_
                    · exact spec_l2Letter.ev hy21
                    refine ifB h (fun c22 h => ?_) (fun c22 h => ?_)
                    · refine bindG h fun y23 hy24 h => ?_
                      refine exM ([(.d (.p (.int .i64 y23)))], []) ?_ ?_
                      · exact spec_l2Run.ev hy24
                      refine goS ?_
                      refine gdG h fun hc h => ?_
                      refine anM hc ?_
                      refine bindG h fun y25 hy26 h => ?_
                      refine exM ([(.d (.p (.bool y25)))], []) ?_ ?_
                      · exact spec_IsWord.ev hy26
                      refine ifB h (fun c27 h => ?_) (fun c27 h => ?_)
                      · refine eqM (([] : List impl_Token).map impl_Token.e) rfl ?_
                        exact lqL h rfl
                      · refine gdG h fun hc h => ?_
                        refine anM hc ?_
                        refine eqM (([(⟨3, (a0.extract (v3).toNat (y23).toNat), 0, v3⟩ : impl_Token)] : List impl_Token).map impl_Token.e) rfl ?_
                        refine gdG h fun hc h => ?_
                        refine anM (apB hc) ?_
                        refine eqM ((v4 ++ ([(⟨3, (a0.extract (v3).toNat (y23).toNat), 0, v3⟩ : impl_Token)] : List impl_Token)).map impl_Token.e) (mApp rfl rfl) ?_
                        exact ⟨(y23, (v4 ++ ([(⟨3, (a0.extract (v3).toNat (y23).toNat), 0, v3⟩ : impl_Token)] : List impl_Token))), h, ⟨rfl, ⟨rfl, rfl, rfl, trivial⟩, ⟨rfl, trivial⟩⟩⟩
                    · refine bindG h fun y28 hy29 h => ?_
                      refine exM ([(.d (.p (.bool y28)))], []) ?_ ?_
                      · exact spec_l2Digit.ev hy29
                      refine ifB h (fun c30 h => ?_) (fun c30 h => ?_)
                      · refine bindG h fun y31 hy32 h => ?_
                        refine exM ([(.d (.p (.int .i64 y31)))], []) ?_ ?_
                        · exact spec_l2Run.ev hy32
                        refine gdG h fun hc h => ?_
                        refine anM hc ?_
                        refine bindG h ?_
                        rintro ⟨y33, y34⟩ hy35 h
                        refine exM ([(.d (.p (.int .i64 y33))), (.d (.p (.bool y34)))], []) ?_ ?_
                        · exact spec_ReadDec.ev hy35
                        refine goS ?_
                        refine seqJ h 127 (fun x => [(0, (.d (.p (.string a0)))), (4, (.own 4 1 2)), (5, (.d (.p (.int .i64 v3)))), (8, (.d (.p (.int .i64 y31)))), (9, (.d (.p (.int .i64 y33)))), (112, (.d (.p (.bool x))))]) (fun x => [(4, 1, 2, (some (.row true true 4 (v4.map impl_Token.e))))]) (fun J h => ?_) ?_
                        · refine ifB h (fun c37 h => ?_) (fun c37 h => ?_)
                          · refine Ask.T rfl ?_
                            refine Ask.T rfl ?_
                            exact ⟨true, h, ⟨rfl, ⟨rfl, rfl, rfl, rfl, rfl, rfl, trivial⟩, ⟨rfl, trivial⟩⟩⟩
                          · refine Ask.F rfl ?_
                            refine Ask.F rfl ?_
                            exact ⟨(decide (y33 > 65535)), h, ⟨rfl, ⟨rfl, rfl, rfl, rfl, rfl, rfl, trivial⟩, ⟨rfl, trivial⟩⟩⟩
                        · rintro v36 h e hp
                          refine ifB h (fun c38 h => ?_) (fun c38 h => ?_)
                          · refine eqM (([] : List impl_Token).map impl_Token.e) rfl ?_
                            exact lqL h rfl
                          · refine gdG h fun hc h => ?_
                            refine anM hc ?_
                            refine eqM (([(⟨4, (a0.extract (v3).toNat (y31).toNat), y33, v3⟩ : impl_Token)] : List impl_Token).map impl_Token.e) rfl ?_
                            refine gdG h fun hc h => ?_
                            refine anM (apB hc) ?_
                            refine eqM ((v4 ++ ([(⟨4, (a0.extract (v3).toNat (y31).toNat), y33, v3⟩ : impl_Token)] : List impl_Token)).map impl_Token.e) (mApp rfl rfl) ?_
                            exact ⟨(y31, (v4 ++ ([(⟨4, (a0.extract (v3).toNat (y31).toNat), y33, v3⟩ : impl_Token)] : List impl_Token))), h, ⟨rfl, ⟨rfl, rfl, rfl, trivial⟩, ⟨rfl, trivial⟩⟩⟩
                      · refine eqM (([] : List impl_Token).map impl_Token.e) rfl ?_
                        exact lqL h rfl
        · refine lqR h ?_
          exact ⟨rfl, ⟨rfl, trivial⟩, ⟨rfl, trivial⟩⟩
      · intro r' S' h q
        exact retE (enc := spec_Lex.enc) h q
      · rintro v5 S' h ⟨qn, ⟨qa0, _⟩, ⟨qb0, _⟩⟩
        exact ⟨v5, h, ⟨qn, ⟨qa0, trivial⟩, ⟨qb0, trivial⟩⟩⟩
    · rintro v2 h e hp
      exact retE (enc := spec_Lex.enc) h rfl
def spec_l4Fail.enc (r : spec_l4State) : Res := ([(.agg (r.e.map .d))], [])
def spec_l4Fail.f  (K : Nat) (a0 : spec_l4State) (a1 : Int) (a2 : Int) : Option (spec_l4State) := jn (fun (v1 : spec_l4State) => some v1) (fun j => if a0.code = 0 then (j (⟨a0.toks, a0.i, a1, a2, a0.end_⟩ : spec_l4State)) else (j a0))
theorem spec_l4Fail.ev   {K : Nat} {a0 : spec_l4State} {a1 : Int} {a2 : Int} {r : spec_l4State} (h : spec_l4Fail.f  K a0 a1 a2 = some r) : E 57 [(.agg (a0.e.map .d)), (.d (.p (.int .i64 a1))), (.d (.p (.int .i64 a2)))] = some ([(.agg (r.e.map .d))], []) := by
  refine Ev_intro (fn := Tryd.f57) rfl (by kernel_rfl) (c := _) rfl ⟨rfl, by simp⟩ rfl (evP_spec _ ?_)
  unfold spec_l4Fail.f at h
  refine seqJ h 15 (fun x => [(3, (.ptr 3 0 2 0)), (6, (.ptr 6 0 2 0))]) (fun x => [(3, 0, 2, (some (.box [(.d (.l true 4 (x.toks.map impl_Token.e))), (.d (.p (.int .i64 x.i))), (.d (.p (.int .i64 x.code))), (.d (.p (.int .i64 x.at_))), (.d (.p (.int .i64 x.end_)))]))), (6, 0, 2, (some (.box [(.own 6 1000 2), (.d (.p (.int .i64 0))), (.d (.p (.int .i64 0))), (.d (.p (.int .i64 0))), (.d (.p (.int .i64 0)))]))), (6, 1000, 2, (some (.row true true 4 (([] : List impl_Token).map impl_Token.e))))]) (fun J h => ?_) ?_
  · refine iteF h (fun c2 h => ?_) (fun c2 h => ?_)
    · refine goS ?_
      exact ⟨(⟨a0.toks, a0.i, a1, a2, a0.end_⟩ : spec_l4State), h, ⟨rfl, ⟨rfl, rfl, trivial⟩, ⟨rfl, rfl, rfl, trivial⟩⟩⟩
    · exact ⟨a0, h, ⟨rfl, ⟨rfl, rfl, trivial⟩, ⟨rfl, rfl, rfl, trivial⟩⟩⟩
  · rintro v1 h e hp
    refine goS ?_
    exact retE (enc := spec_l4Fail.enc) h rfl
def spec_l3Keys.enc (r : List ByteArray) : Res := ([(.own true 1 (r.map eS))], [])
def spec_l3Keys.f  (K : Nat)  : Option (List ByteArray) := some ([(⟨#[102, 117, 110]⟩ : ByteArray), (⟨#[97, 112, 112]⟩ : ByteArray), (⟨#[108, 101, 116]⟩ : ByteArray), (⟨#[114, 101, 99]⟩ : ByteArray), (⟨#[105, 102]⟩ : ByteArray), (⟨#[97, 100, 100]⟩ : ByteArray), (⟨#[115, 117, 98]⟩ : ByteArray), (⟨#[108, 101, 115, 115]⟩ : ByteArray), (⟨#[115, 97, 109, 101]⟩ : ByteArray), (⟨#[112, 97, 105, 114]⟩ : ByteArray), (⟨#[102, 115, 116]⟩ : ByteArray), (⟨#[115, 110, 100]⟩ : ByteArray), (⟨#[110, 105, 108]⟩ : ByteArray), (⟨#[99, 111, 110, 115]⟩ : ByteArray), (⟨#[109, 97, 116, 99, 104]⟩ : ByteArray), (⟨#[114, 101, 102]⟩ : ByteArray), (⟨#[103, 101, 116]⟩ : ByteArray), (⟨#[115, 101, 116]⟩ : ByteArray), (⟨#[114, 97, 105, 115, 101]⟩ : ByteArray), (⟨#[116, 114, 121]⟩ : ByteArray)] : List ByteArray)
theorem spec_l3Keys.ev   {K : Nat}  {r : List ByteArray} (h : spec_l3Keys.f  K  = some r) : E 124 [] = some ([(.own true 1 (r.map eS))], []) := by
  refine Ev_intro (fn := Tryd.f124) rfl (by kernel_rfl) (c := _) rfl ⟨rfl, by simp⟩ rfl (evP_spec _ ?_)
  unfold spec_l3Keys.f at h
  refine eqM (([(⟨#[102, 117, 110]⟩ : ByteArray), (⟨#[97, 112, 112]⟩ : ByteArray), (⟨#[108, 101, 116]⟩ : ByteArray), (⟨#[114, 101, 99]⟩ : ByteArray), (⟨#[105, 102]⟩ : ByteArray), (⟨#[97, 100, 100]⟩ : ByteArray), (⟨#[115, 117, 98]⟩ : ByteArray), (⟨#[108, 101, 115, 115]⟩ : ByteArray), (⟨#[115, 97, 109, 101]⟩ : ByteArray), (⟨#[112, 97, 105, 114]⟩ : ByteArray), (⟨#[102, 115, 116]⟩ : ByteArray), (⟨#[115, 110, 100]⟩ : ByteArray), (⟨#[110, 105, 108]⟩ : ByteArray), (⟨#[99, 111, 110, 115]⟩ : ByteArray), (⟨#[109, 97, 116, 99, 104]⟩ : ByteArray), (⟨#[114, 101, 102]⟩ : ByteArray), (⟨#[103, 101, 116]⟩ : ByteArray), (⟨#[115, 101, 116]⟩ : ByteArray), (⟨#[114, 97, 105, 115, 101]⟩ : ByteArray), (⟨#[116, 114, 121]⟩ : ByteArray)] : List ByteArray).map eS) rfl ?_
  exact retE (enc := spec_l3Keys.enc) h rfl
def spec_IsKey.enc (r : Bool) : Res := ([(.d (.p (.bool r)))], [])
def spec_IsKey.en (a0 : ByteArray) (r : Bool) (S : St) : Prop := endV tb md 112 Tryd.f112 [(.d (.p (.string a0)))] .ret S = some (spec_IsKey.enc r)
def spec_IsKey.l0 (a0 : ByteArray) (y1 : List ByteArray) (K : Nat) : Nat → Int → Option (Bool ⊕ Unit)
  | 0, _ => none
  | k + 1, v3 => if v3 < (y1.length : Int) then ((at_ y1 v3).bind fun x5 => (if (x5.toList == a0.toList) = true then (some (.inl true)) else (spec_IsKey.l0 a0 y1 K k (w64 (v3 + 1))))) else (some (.inr ()))
def spec_IsKey.f  (K : Nat) (a0 : ByteArray) : Option (Bool) := (spec_l3Keys.f K).bind fun y1 => (jn (fun (_ : Unit) => some false) (fun j => lb (spec_IsKey.l0 a0 y1 K K 0) (fun r => some r) (fun (_ : Unit) => j ())))
theorem spec_IsKey.ev   {K : Nat} {a0 : ByteArray} {r : Bool} (h : spec_IsKey.f  K a0 = some r) : E 112 [(.d (.p (.string a0)))] = some ([(.d (.p (.bool r)))], []) := by
  refine Ev_intro (fn := Tryd.f112) rfl (by kernel_rfl) (c := _) rfl ⟨rfl, by simp⟩ rfl (evP_spec _ ?_)
  unfold spec_IsKey.f at h
  refine bindG h fun y1 hy2 h => ?_
  refine exM ([(.own true 1 (y1.map eS))], []) ?_ ?_
  · exact spec_l3Keys.ev hy2
  refine seqJ h 18 (fun x => []) (fun x => []) (fun J h => ?_) ?_
  · refine loopB (α := Int) (a := 0) 18 (fun x => [(0, (.d (.p (.string a0)))), (3, (.own 3 1 2)), (4, (.d (.p (.int .i64 x))))]) (fun x => [(3, 1, 2, (some (.row true true 1 (y1.map eS))))]) (fun k x => spec_IsKey.l0 a0 y1 K k x) (spec_IsKey.en a0) 0 (fun x => []) (fun x => []) h (fun _ => rfl) ?_ ⟨rfl, ⟨rfl, rfl, rfl, trivial⟩, ⟨rfl, trivial⟩⟩ ?_ ?_
    · rintro k v3 r h e hp
      replace h : spec_IsKey.l0 a0 y1 K (k + 1) v3 = some r := h
      unfold spec_IsKey.l0 at h
      refine goS ?_
      refine eqM ((y1.length : Int) : Int) (mLen rfl) ?_
      refine iteF h (fun c4 h => ?_) (fun c4 h => ?_)
      · refine goS ?_
        refine bindG h fun x5 hx5 h => ?_
        refine anM (at_ix rfl hx5) ?_
        refine exM (eS x5) (at_get rfl hx5) ?_
        refine ifB h (fun c6 h => ?_) (fun c6 h => ?_)
        · exact lqL h rfl
        · exact ⟨(w64 (v3 + 1)), h, ⟨rfl, ⟨rfl, rfl, rfl, trivial⟩, ⟨rfl, trivial⟩⟩⟩
      · refine lqR h ?_
        exact ⟨rfl, trivial, trivial⟩
    · intro r' S' h q
      exact retE (enc := spec_IsKey.enc) h q
    · rintro _ S' h ⟨qn, ⟨_⟩, ⟨_⟩⟩
      exact ⟨(), h, ⟨qn, trivial, trivial⟩⟩
  · rintro _ h e hp
    exact retE (enc := spec_IsKey.enc) h rfl
def spec_l4Take.enc (r : spec_l4State × impl_Token) : Res := ([(.agg (r.1.e.map .d)), (.agg (r.2.e.map .d))], [])
def spec_l4Take.f  (K : Nat) (a0 : spec_l4State) (a1 : Int) : Option (spec_l4State × impl_Token) := if (!(decide (a0.code = 0))) = true then (some (a0, (⟨0, (⟨#[]⟩ : ByteArray), 0, 0⟩ : impl_Token))) else (if a0.i ≥ (a0.toks.length : Int) then ((spec_l4Fail.f K a0 2 a0.end_).bind fun y3 => (some (y3, (⟨0, (⟨#[]⟩ : ByteArray), 0, 0⟩ : impl_Token)))) else ((at_ a0.toks a0.i).bind fun x5 => (if (!(decide (x5.Kind = a1))) = true then ((spec_l4Fail.f K a0 3 x5.At).bind fun y7 => (some (y7, (⟨0, (⟨#[]⟩ : ByteArray), 0, 0⟩ : impl_Token)))) else (some ((⟨a0.toks, (w64 (a0.i + 1)), a0.code, a0.at_, a0.end_⟩ : spec_l4State), x5)))))
theorem spec_l4Take.ev   {K : Nat} {a0 : spec_l4State} {a1 : Int} {r : spec_l4State × impl_Token} (h : spec_l4Take.f  K a0 a1 = some r) : E 86 [(.agg (a0.e.map .d)), (.d (.p (.int .i64 a1)))] = some ([(.agg (r.1.e.map .d)), (.agg (r.2.e.map .d))], []) := by
  refine Ev_intro (fn := Tryd.f86) rfl (by kernel_rfl) (c := _) rfl ⟨rfl, by simp⟩ rfl (evP_spec _ ?_)
  unfold spec_l4Take.f at h
  refine goS ?_
  refine ifB h (fun c1 h => ?_) (fun c1 h => ?_)
  · refine goS ?_
    exact retE (enc := spec_l4Take.enc) h rfl
  · refine goS ?_
    refine eqM ((a0.toks.length : Int) : Int) (mLen rfl) ?_
    refine iteF h (fun c2 h => ?_) (fun c2 h => ?_)
    · refine goS ?_
      refine bindG h fun y3 hy4 h => ?_
      refine exM ([(.agg (y3.e.map .d))], []) ?_ ?_
      · exact spec_l4Fail.ev hy4
      exact retE (enc := spec_l4Take.enc) h rfl
    · refine goS ?_
      refine bindG h fun x5 hx5 h => ?_
      refine anM (at_ix rfl hx5) ?_
      refine exM (impl_Token.e x5) (at_get rfl hx5) ?_
      refine goS ?_
      refine ifB h (fun c6 h => ?_) (fun c6 h => ?_)
      · refine goS ?_
        refine bindG h fun y7 hy8 h => ?_
        refine exM ([(.agg (y7.e.map .d))], []) ?_ ?_
        · exact spec_l4Fail.ev hy8
        exact retE (enc := spec_l4Take.enc) h rfl
      · refine goS ?_
        refine goS ?_
        refine ⟨[[43], [42], [43, 999999, 6], []], [[], [999999, 6], [], []], by kernel_rfl, ?_⟩
        exact retE (enc := spec_l4Take.enc) h rfl
def spec_l4Name.enc (r : spec_l4State × ByteArray) : Res := ([(.agg (r.1.e.map .d)), (.d (.p (.string r.2)))], [])
def spec_l4Name.f  (K : Nat) (a0 : spec_l4State) : Option (spec_l4State × ByteArray) := jn (fun (v1 : Bool) => if v1 = true then ((at_ a0.toks a0.i).bind fun x8 => ((spec_l4Fail.f K a0 3 x8.At).bind fun y9 => (some (y9, (⟨#[]⟩ : ByteArray))))) else ((spec_l4Take.f K a0 3).bind fun (y11, y12) => (some (y11, y12.Text)))) (fun j => if a0.code = 0 then (if a0.i < (a0.toks.length : Int) then ((at_ a0.toks a0.i).bind fun x4 => ((spec_IsKey.f K x4.Text).bind fun y5 => (j y5))) else (j false)) else (j false))
theorem spec_l4Name.ev   {K : Nat} {a0 : spec_l4State} {r : spec_l4State × ByteArray} (h : spec_l4Name.f  K a0 = some r) : E 85 [(.agg (a0.e.map .d))] = some ([(.agg (r.1.e.map .d)), (.d (.p (.string r.2)))], []) := by
  refine Ev_intro (fn := Tryd.f85) rfl (by kernel_rfl) (c := _) rfl ⟨rfl, by simp⟩ rfl (evP_spec _ ?_)
  unfold spec_l4Name.f at h
  refine goS ?_
  refine seqJ h 44 (fun x => [(1, (.ptr 1 0 2 0)), (2, (.ptr 2 0 2 0)), (26, (.d (.p (.bool x))))]) (fun x => [(1, 0, 2, (some (.box [(.d (.l true 4 (a0.toks.map impl_Token.e))), (.d (.p (.int .i64 a0.i))), (.d (.p (.int .i64 a0.code))), (.d (.p (.int .i64 a0.at_))), (.d (.p (.int .i64 a0.end_)))]))), (2, 0, 2, (some (.box [(.own 2 1000 2), (.d (.p (.int .i64 0))), (.d (.p (.int .i64 0))), (.d (.p (.int .i64 0))), (.d (.p (.int .i64 0)))]))), (2, 1000, 2, (some (.row true true 4 (([] : List impl_Token).map impl_Token.e))))]) (fun J h => ?_) ?_
  · refine iteF h (fun c2 h => ?_) (fun c2 h => ?_)
    · refine Ask.T rfl ?_
      refine Ask.T rfl ?_
      refine Ask.T rfl ?_
      refine Ask.T rfl ?_
      refine eqM ((a0.toks.length : Int) : Int) (mLen rfl) ?_
      refine Ask.T rfl ?_
      refine Ask.T rfl ?_
      refine iteF h (fun c3 h => ?_) (fun c3 h => ?_)
      · refine Ask.T rfl ?_
        refine Ask.T rfl ?_
        refine Ask.T rfl ?_
        refine Ask.T rfl ?_
        refine bindG h fun x4 hx4 h => ?_
        refine anM (at_ix rfl hx4) ?_
        refine Ask.T rfl ?_
        refine Ask.T rfl ?_
        refine exM (impl_Token.e x4) (at_get rfl hx4) ?_
        refine Ask.T rfl ?_
        refine bindG h fun y5 hy6 h => ?_
        refine exM ([(.d (.p (.bool y5)))], []) ?_ ?_
        · exact spec_IsKey.ev hy6
        refine Ask.T rfl ?_
        exact ⟨y5, h, ⟨rfl, ⟨rfl, rfl, rfl, trivial⟩, ⟨rfl, rfl, rfl, trivial⟩⟩⟩
      · refine Ask.F rfl ?_
        refine Ask.F rfl ?_
        refine Ask.F rfl ?_
        refine Ask.F rfl ?_
        refine Ask.F rfl ?_
        refine Ask.F rfl ?_
        refine Ask.F rfl ?_
        refine Ask.F rfl ?_
        exact ⟨false, h, ⟨rfl, ⟨rfl, rfl, rfl, trivial⟩, ⟨rfl, rfl, rfl, trivial⟩⟩⟩
    · refine Ask.F rfl ?_
      refine Ask.F rfl ?_
      refine Ask.F rfl ?_
      refine Ask.F rfl ?_
      refine Ask.F rfl ?_
      refine Ask.F rfl ?_
      refine Ask.F rfl ?_
      refine Ask.F rfl ?_
      refine Ask.F rfl ?_
      refine Ask.F rfl ?_
      refine Ask.F rfl ?_
      refine Ask.F rfl ?_
      refine Ask.F rfl ?_
      refine Ask.F rfl ?_
      refine Ask.F rfl ?_
      exact ⟨false, h, ⟨rfl, ⟨rfl, rfl, rfl, trivial⟩, ⟨rfl, rfl, rfl, trivial⟩⟩⟩
  · rintro v1 h e hp
    refine ifB h (fun c7 h => ?_) (fun c7 h => ?_)
    · refine goS ?_
      refine ⟨[[28, 29, 30, 31, 32, 33, 34], [27, 30, 31], [27, 30, 31], [27, 28, 29], [27, 28, 29], [27], [27], [27], [], [], []], [], by kernel_rfl, ?_⟩
      refine bindG h fun x8 hx8 h => ?_
      refine anM (at_ix rfl hx8) ?_
      refine exM (impl_Token.e x8) (at_get rfl hx8) ?_
      refine bindG h fun y9 hy10 h => ?_
      refine exM ([(.agg (y9.e.map .d))], []) ?_ ?_
      · exact spec_l4Fail.ev hy10
      exact retE (enc := spec_l4Name.enc) h rfl
    · refine goS ?_
      refine bindG h ?_
      rintro ⟨y11, y12⟩ hy13 h
      refine exM ([(.agg (y11.e.map .d)), (.agg (y12.e.map .d))], []) ?_ ?_
      · exact spec_l4Take.ev hy13
      refine goS ?_
      refine ⟨[[42, 43], [41], [41], [42, 999999, 5, 43, 999999, 5], []], [[], [999999, 5], [999999, 5], [], []], by kernel_rfl, ?_⟩
      exact retE (enc := spec_l4Name.enc) h rfl
def spec_l4Form.enc (r : Int × Int × ByteArray) : Res := ([(.d (.p (.int .i64 r.1))), (.d (.p (.int .i64 r.2.1))), (.d (.p (.string r.2.2)))], [])
def spec_l4Form.f  (K : Nat) (a0 : ByteArray) : Option (Int × Int × ByteArray) := if (a0.toList == (⟨#[102, 117, 110]⟩ : ByteArray).toList) = true then (some (3, 0, (⟨#[110, 101]⟩ : ByteArray))) else (if (a0.toList == (⟨#[97, 112, 112]⟩ : ByteArray).toList) = true then (some (4, 0, (⟨#[101, 101]⟩ : ByteArray))) else (if (a0.toList == (⟨#[108, 101, 116]⟩ : ByteArray).toList) = true then (some (5, 0, (⟨#[110, 101, 101]⟩ : ByteArray))) else (if (a0.toList == (⟨#[114, 101, 99]⟩ : ByteArray).toList) = true then (some (6, 0, (⟨#[110, 110, 101, 101]⟩ : ByteArray))) else (if (a0.toList == (⟨#[105, 102]⟩ : ByteArray).toList) = true then (some (7, 0, (⟨#[101, 101, 101]⟩ : ByteArray))) else (if (a0.toList == (⟨#[97, 100, 100]⟩ : ByteArray).toList) = true then (some (8, 0, (⟨#[101, 101]⟩ : ByteArray))) else (if (a0.toList == (⟨#[115, 117, 98]⟩ : ByteArray).toList) = true then (some (8, 1, (⟨#[101, 101]⟩ : ByteArray))) else (if (a0.toList == (⟨#[108, 101, 115, 115]⟩ : ByteArray).toList) = true then (some (8, 2, (⟨#[101, 101]⟩ : ByteArray))) else (if (a0.toList == (⟨#[115, 97, 109, 101]⟩ : ByteArray).toList) = true then (some (8, 3, (⟨#[101, 101]⟩ : ByteArray))) else (if (a0.toList == (⟨#[112, 97, 105, 114]⟩ : ByteArray).toList) = true then (some (9, 0, (⟨#[101, 101]⟩ : ByteArray))) else (if (a0.toList == (⟨#[102, 115, 116]⟩ : ByteArray).toList) = true then (some (10, 0, (⟨#[101]⟩ : ByteArray))) else (if (a0.toList == (⟨#[115, 110, 100]⟩ : ByteArray).toList) = true then (some (11, 0, (⟨#[101]⟩ : ByteArray))) else (if (a0.toList == (⟨#[99, 111, 110, 115]⟩ : ByteArray).toList) = true then (some (13, 0, (⟨#[101, 101]⟩ : ByteArray))) else (if (a0.toList == (⟨#[109, 97, 116, 99, 104]⟩ : ByteArray).toList) = true then (some (14, 0, (⟨#[101, 101, 110, 110, 101]⟩ : ByteArray))) else (if (a0.toList == (⟨#[114, 101, 102]⟩ : ByteArray).toList) = true then (some (15, 0, (⟨#[101]⟩ : ByteArray))) else (if (a0.toList == (⟨#[103, 101, 116]⟩ : ByteArray).toList) = true then (some (16, 0, (⟨#[101]⟩ : ByteArray))) else (if (a0.toList == (⟨#[115, 101, 116]⟩ : ByteArray).toList) = true then (some (17, 0, (⟨#[101, 101]⟩ : ByteArray))) else (if (a0.toList == (⟨#[114, 97, 105, 115, 101]⟩ : ByteArray).toList) = true then (some (18, 0, (⟨#[101]⟩ : ByteArray))) else (if (a0.toList == (⟨#[116, 114, 121]⟩ : ByteArray).toList) = true then (some (19, 0, (⟨#[101, 110, 101]⟩ : ByteArray))) else (some (0, 0, (⟨#[]⟩ : ByteArray)))))))))))))))))))))
theorem spec_l4Form.ev   {K : Nat} {a0 : ByteArray} {r : Int × Int × ByteArray} (h : spec_l4Form.f  K a0 = some r) : E 87 [(.d (.p (.string a0)))] = some ([(.d (.p (.int .i64 r.1))), (.d (.p (.int .i64 r.2.1))), (.d (.p (.string r.2.2)))], []) := by
  refine Ev_intro (fn := Tryd.f87) rfl (by kernel_rfl) (c := _) rfl ⟨rfl, by simp⟩ rfl (evP_spec _ ?_)
  unfold spec_l4Form.f at h
  refine goS ?_
  refine ifB h (fun c1 h => ?_) (fun c1 h => ?_)
  · exact retE (enc := spec_l4Form.enc) h rfl
  · refine ifB h (fun c2 h => ?_) (fun c2 h => ?_)
    · exact retE (enc := spec_l4Form.enc) h rfl
    · refine ifB h (fun c3 h => ?_) (fun c3 h => ?_)
      · exact retE (enc := spec_l4Form.enc) h rfl
      · refine ifB h (fun c4 h => ?_) (fun c4 h => ?_)
        · exact retE (enc := spec_l4Form.enc) h rfl
        · refine ifB h (fun c5 h => ?_) (fun c5 h => ?_)
          · exact retE (enc := spec_l4Form.enc) h rfl
          · refine ifB h (fun c6 h => ?_) (fun c6 h => ?_)
            · exact retE (enc := spec_l4Form.enc) h rfl
            · refine ifB h (fun c7 h => ?_) (fun c7 h => ?_)
              · exact retE (enc := spec_l4Form.enc) h rfl
              · refine ifB h (fun c8 h => ?_) (fun c8 h => ?_)
                · exact retE (enc := spec_l4Form.enc) h rfl
                · refine ifB h (fun c9 h => ?_) (fun c9 h => ?_)
                  · exact retE (enc := spec_l4Form.enc) h rfl
                  · refine ifB h (fun c10 h => ?_) (fun c10 h => ?_)
                    · exact retE (enc := spec_l4Form.enc) h rfl
                    · refine ifB h (fun c11 h => ?_) (fun c11 h => ?_)
                      · exact retE (enc := spec_l4Form.enc) h rfl
                      · refine ifB h (fun c12 h => ?_) (fun c12 h => ?_)
                        · exact retE (enc := spec_l4Form.enc) h rfl
                        · refine ifB h (fun c13 h => ?_) (fun c13 h => ?_)
                          · exact retE (enc := spec_l4Form.enc) h rfl
                          · refine ifB h (fun c14 h => ?_) (fun c14 h => ?_)
                            · exact retE (enc := spec_l4Form.enc) h rfl
                            · refine ifB h (fun c15 h => ?_) (fun c15 h => ?_)
                              · exact retE (enc := spec_l4Form.enc) h rfl
                              · refine ifB h (fun c16 h => ?_) (fun c16 h => ?_)
                                · exact retE (enc := spec_l4Form.enc) h rfl
                                · refine ifB h (fun c17 h => ?_) (fun c17 h => ?_)
                                  · exact retE (enc := spec_l4Form.enc) h rfl
                                  · refine ifB h (fun c18 h => ?_) (fun c18 h => ?_)
                                    · exact retE (enc := spec_l4Form.enc) h rfl
                                    · refine ifB h (fun c19 h => ?_) (fun c19 h => ?_)
                                      · exact retE (enc := spec_l4Form.enc) h rfl
                                      · exact retE (enc := spec_l4Form.enc) h rfl
def spec_l4Expr.enc (r : spec_l4State × List impl_Node) : Res := ([(.agg (r.1.e.map .d)), (.own true 7 (r.2.map impl_Node.e))], [])
def spec_l4Expr.l0 (r_spec_l4Expr : spec_l4State → (List impl_Node) → Option (spec_l4State × List impl_Node)) (y25 : ByteArray) (K : Nat) : Nat → Int → (List impl_Node) → spec_l4State → impl_Node → (List Int) → Option (List impl_Node × spec_l4State × impl_Node × List Int)
  | 0, _, _, _, _, _ => none
  | k + 1, v36, v37, v38, v39, v40 => jn (fun (v45 : Bool) => if v45 = true then (jn (fun (v48, v49, v50, v51) => spec_l4Expr.l0 r_spec_l4Expr y25 K k (w64 (v36 + 1)) v48 v49 v50 v51) (fun j => (atS y25 v36).bind fun x52 => (if (x52.toNat : Int) = 110 then ((spec_l4Name.f K v38).bind fun (y54, y55) => (if (v39.Name.toList == (⟨#[]⟩ : ByteArray).toList) = true then (j (v37, y54, (⟨v39.Kind, v39.A, v39.B, v39.C, v39.N, y55, v39.Other⟩ : impl_Node), v40)) else (j (v37, y54, (⟨v39.Kind, v39.A, v39.B, v39.C, v39.N, v39.Name, y55⟩ : impl_Node), v40)))) else ((r_spec_l4Expr v38 v37).bind fun (y58, y59) => (gd ((v40.length + 1) * 8 ≤ 140737488355328) (j (y59, y58, v39, (v40 ++ ([(w64 ((y59.length : Int) - 1))] : List Int))))))))) else (some (v37, v38, v39, v40))) (fun j => if v36 < (y25.size : Int) then (j (decide (v38.code = 0))) else (j false))
def spec_l4Expr.l1 (v35 : List Int) (K : Nat) : Nat → Int → impl_Node → Option (impl_Node)
  | 0, _, _ => none
  | k + 1, v66, v67 => if v66 < (v35.length : Int) then (jn (fun (v70 : impl_Node) => spec_l4Expr.l1 v35 K k (w64 (v66 + 1)) v70) (fun j => if v66 = 0 then ((at_ v35 v66).bind fun x72 => (j (⟨v67.Kind, x72, v67.B, v67.C, v67.N, v67.Name, v67.Other⟩ : impl_Node))) else (if v66 = 1 then ((at_ v35 v66).bind fun x74 => (j (⟨v67.Kind, v67.A, x74, v67.C, v67.N, v67.Name, v67.Other⟩ : impl_Node))) else ((at_ v35 v66).bind fun x75 => (j (⟨v67.Kind, v67.A, v67.B, x75, v67.N, v67.Name, v67.Other⟩ : impl_Node)))))) else (some v67)
def spec_l4Expr.b (r_spec_l4Expr : spec_l4State → (List impl_Node) → Option (spec_l4State × List impl_Node)) (K : Nat) (a0 : spec_l4State) (a1 : List impl_Node) : Option (spec_l4State × List impl_Node) := if (!(decide (a0.code = 0))) = true then (some (a0, a1)) else (if a0.i ≥ (a0.toks.length : Int) then ((spec_l4Fail.f K a0 2 a0.end_).bind fun y3 => (some (y3, a1))) else ((at_ a0.toks a0.i).bind fun x5 => (if x5.Kind = 4 then (gd ((a1.length + 1) * 72 ≤ 140737488355328) (some ((⟨a0.toks, (w64 (a0.i + 1)), a0.code, a0.at_, a0.end_⟩ : spec_l4State), (a1 ++ ([(⟨2, 0, 0, 0, x5.N, (⟨#[]⟩ : ByteArray), (⟨#[]⟩ : ByteArray)⟩ : impl_Node)] : List impl_Node))))) else (jn (fun (v7 : Bool) => if v7 = true then (gd ((a1.length + 1) * 72 ≤ 140737488355328) (some ((⟨a0.toks, (w64 (a0.i + 1)), a0.code, a0.at_, a0.end_⟩ : spec_l4State), (a1 ++ ([(⟨12, 0, 0, 0, 0, (⟨#[]⟩ : ByteArray), (⟨#[]⟩ : ByteArray)⟩ : impl_Node)] : List impl_Node))))) else (if x5.Kind = 3 then ((spec_l4Name.f K a0).bind fun (y11, y12) => (gd ((a1.length + 1) * 72 ≤ 140737488355328) (some (y11, (a1 ++ ([(⟨1, 0, 0, 0, 0, y12, (⟨#[]⟩ : ByteArray)⟩ : impl_Node)] : List impl_Node)))))) else (if x5.Kind = 2 then ((spec_l4Fail.f K a0 3 x5.At).bind fun y15 => (some (y15, a1))) else (jn (fun (v17 : Int) => (spec_l4Take.f K (⟨a0.toks, (w64 (a0.i + 1)), a0.code, a0.at_, a0.end_⟩ : spec_l4State) 3).bind fun (y20, y21) => ((spec_l4Form.f K y21.Text).bind fun (y23, y24, y25) => (jn (fun (v27 : Bool) => if v27 = true then ((spec_l4Fail.f K y20 3 v17).bind fun y30 => (some (y30, a1))) else (jn (fun (v32, v33, v34, v35) => (spec_l4Take.f K v33 2).bind fun (y61, y62) => (if (!(decide (y61.code = 0))) = true then (some (y61, v32)) else (jn (fun (v65 : impl_Node) => gd ((v32.length + 1) * 72 ≤ 140737488355328) (some (y61, (v32 ++ ([v65] : List impl_Node))))) (fun j => (spec_l4Expr.l1 v35 K K 0 v34).bind fun (v68 : impl_Node) => j v68)))) (fun j => (spec_l4Expr.l0 r_spec_l4Expr y25 K K 0 a1 y20 (⟨y23, 0, 0, 0, y24, (⟨#[]⟩ : ByteArray), (⟨#[]⟩ : ByteArray)⟩ : impl_Node) ([] : List Int)).bind fun (v41, v42, v43, v44) => j (v41, v42, v43, v44)))) (fun j => if y20.code = 0 then (j (decide (y23 = 0))) else (j false))))) (fun j => if (w64 (a0.i + 1)) < (a0.toks.length : Int) then ((at_ a0.toks (w64 (a0.i + 1))).bind fun x19 => (j x19.At)) else (j a0.end_)))))) (fun j => if x5.Kind = 3 then (j (x5.Text.toList == (⟨#[110, 105, 108]⟩ : ByteArray).toList)) else (j false))))))
theorem spec_l4Expr.b_ev {r_spec_l4Expr : spec_l4State → (List impl_Node) → Option (spec_l4State × List impl_Node)} (hr_spec_l4Expr : ∀ {a0 : spec_l4State} {a1 : List impl_Node} {r : spec_l4State × List impl_Node}, r_spec_l4Expr a0 a1 = some r → E 56 [(.agg (a0.e.map .d)), (.own true 7 (a1.map impl_Node.e))] = some ([(.agg (r.1.e.map .d)), (.own true 7 (r.2.map impl_Node.e))], [])) {K : Nat} {a0 : spec_l4State} {a1 : List impl_Node} {r : spec_l4State × List impl_Node} (h : spec_l4Expr.b r_spec_l4Expr K a0 a1 = some r) : E 56 [(.agg (a0.e.map .d)), (.own true 7 (a1.map impl_Node.e))] = some ([(.agg (r.1.e.map .d)), (.own true 7 (r.2.map impl_Node.e))], []) := by
  refine Ev_intro (fn := Tryd.f56) rfl (by kernel_rfl) (c := _) rfl ⟨rfl, by simp⟩ rfl (evP_spec _ ?_)
  unfold spec_l4Expr.b at h
  refine goS ?_
  refine ifB h (fun c1 h => ?_) (fun c1 h => ?_)
  · refine goS ?_
    exact retE (enc := spec_l4Expr.enc) h rfl
  · refine goS ?_
    refine eqM ((a0.toks.length : Int) : Int) (mLen rfl) ?_
    refine iteF h (fun c2 h => ?_) (fun c2 h => ?_)
    · refine goS ?_
      refine bindG h fun y3 hy4 h => ?_
      refine exM ([(.agg (y3.e.map .d))], []) ?_ ?_
      · exact spec_l4Fail.ev hy4
      exact retE (enc := spec_l4Expr.enc) h rfl
    · refine goS ?_
      refine bindG h fun x5 hx5 h => ?_
      refine anM (at_ix rfl hx5) ?_
      refine exM (impl_Token.e x5) (at_get rfl hx5) ?_
      refine goS ?_
      refine iteF h (fun c6 h => ?_) (fun c6 h => ?_)
      · refine goS ?_
        refine goS ?_
        refine ⟨[[54, 55, 57, 58], [], [52], [52], [], [52], [52, 999999, 2], [], []], [[999999, 2], [], [], [], [], [], [], [], []], by kernel_rfl, ?_⟩
        refine eqM (([(⟨2, 0, 0, 0, x5.N, (⟨#[]⟩ : ByteArray), (⟨#[]⟩ : ByteArray)⟩ : impl_Node)] : List impl_Node).map impl_Node.e) rfl ?_
        refine gdG h fun hc h => ?_
        refine anM (apB hc) ?_
        refine eqM ((a1 ++ ([(⟨2, 0, 0, 0, x5.N, (⟨#[]⟩ : ByteArray), (⟨#[]⟩ : ByteArray)⟩ : impl_Node)] : List impl_Node)).map impl_Node.e) (mApp rfl rfl) ?_
        exact retE (enc := spec_l4Expr.enc) h rfl
      · refine seqJ h 230 (fun x => [(1, (.own 1 1 2)), (2, (.ptr 2 0 2 0)), (4, (.ptr 4 0 2 0)), (6, (.ptr 6 0 2 0)), (59, (.d (.p (.bool x))))]) (fun x => [(1, 1, 2, (some (.row true true 7 (a1.map impl_Node.e)))), (2, 0, 2, (some (.box [(.d (.l true 4 (a0.toks.map impl_Token.e))), (.d (.p (.int .i64 a0.i))), (.d (.p (.int .i64 a0.code))), (.d (.p (.int .i64 a0.at_))), (.d (.p (.int .i64 a0.end_)))]))), (4, 0, 2, (some (.box [(.own 4 1000 2), (.d (.p (.int .i64 0))), (.d (.p (.int .i64 0))), (.d (.p (.int .i64 0))), (.d (.p (.int .i64 0)))]))), (4, 1000, 2, (some (.row true true 4 (([] : List impl_Token).map impl_Token.e)))), (6, 0, 2, (some (.box [(.d (.p (.int .i64 x5.Kind))), (.d (.p (.string x5.Text))), (.d (.p (.int .i64 x5.N))), (.d (.p (.int .i64 x5.At)))])))]) (fun J h => ?_) ?_
        · refine iteF h (fun c8 h => ?_) (fun c8 h => ?_)
          · refine Ask.T rfl ?_
            refine Ask.T rfl ?_
            refine Ask.T rfl ?_
            exact ⟨(x5.Text.toList == (⟨#[110, 105, 108]⟩ : ByteArray).toList), h, ⟨rfl, ⟨rfl, rfl, rfl, rfl, rfl, trivial⟩, ⟨rfl, rfl, rfl, rfl, rfl, trivial⟩⟩⟩
          · refine Ask.F rfl ?_
            refine Ask.F rfl ?_
            refine Ask.F rfl ?_
            exact ⟨false, h, ⟨rfl, ⟨rfl, rfl, rfl, rfl, rfl, trivial⟩, ⟨rfl, rfl, rfl, rfl, rfl, trivial⟩⟩⟩
        · rintro v7 h e hp
          refine ifB h (fun c9 h => ?_) (fun c9 h => ?_)
          · refine goS ?_
            refine goS ?_
            refine ⟨[[75, 76], [], [], [72], [72, 999999, 2], [], []], [[999999, 2], [], [], [], [], [], []], by kernel_rfl, ?_⟩
            refine eqM (([(⟨12, 0, 0, 0, 0, (⟨#[]⟩ : ByteArray), (⟨#[]⟩ : ByteArray)⟩ : impl_Node)] : List impl_Node).map impl_Node.e) rfl ?_
            refine gdG h fun hc h => ?_
            refine anM (apB hc) ?_
            refine eqM ((a1 ++ ([(⟨12, 0, 0, 0, 0, (⟨#[]⟩ : ByteArray), (⟨#[]⟩ : ByteArray)⟩ : impl_Node)] : List impl_Node)).map impl_Node.e) (mApp rfl rfl) ?_
            exact retE (enc := spec_l4Expr.enc) h rfl
          · refine iteF h (fun c10 h => ?_) (fun c10 h => ?_)
            · refine goS ?_
              refine bindG h ?_
              rintro ⟨y11, y12⟩ hy13 h
              refine exM ([(.agg (y11.e.map .d)), (.d (.p (.string y12)))], []) ?_ ?_
              · exact spec_l4Name.ev hy13
              refine goS ?_
              refine ⟨[[90, 91], [], [], [], [86], [86, 999999, 7, 20], [], []], [[999999, 7, 20], [], [], [], [], [], [], []], by kernel_rfl, ?_⟩
              refine eqM (([(⟨1, 0, 0, 0, 0, y12, (⟨#[]⟩ : ByteArray)⟩ : impl_Node)] : List impl_Node).map impl_Node.e) rfl ?_
              refine gdG h fun hc h => ?_
              refine anM (apB hc) ?_
              refine eqM ((a1 ++ ([(⟨1, 0, 0, 0, 0, y12, (⟨#[]⟩ : ByteArray)⟩ : impl_Node)] : List impl_Node)).map impl_Node.e) (mApp rfl rfl) ?_
              exact retE (enc := spec_l4Expr.enc) h rfl
            · refine iteF h (fun c14 h => ?_) (fun c14 h => ?_)
              · refine goS ?_
                refine bindG h fun y15 hy16 h => ?_
                refine exM ([(.agg (y15.e.map .d))], []) ?_ ?_
                · exact spec_l4Fail.ev hy16
                exact retE (enc := spec_l4Expr.enc) h rfl
              · refine goS ?_
                refine seqJ h 230 (fun x => [(1, (.own 1 1 2)), (2, (.ptr 2 0 2 0)), (4, (.ptr 4 0 2 0)), (9, (.d (.p (.int .i64 x))))]) (fun x => [(1, 1, 2, (some (.row true true 7 (a1.map impl_Node.e)))), (2, 0, 2, (some (.box [(.d (.l true 4 (a0.toks.map impl_Token.e))), (.d (.p (.int .i64 (w64 (a0.i + 1))))), (.d (.p (.int .i64 a0.code))), (.d (.p (.int .i64 a0.at_))), (.d (.p (.int .i64 a0.end_)))]))), (4, 0, 2, (some (.box [(.own 4 1000 2), (.d (.p (.int .i64 0))), (.d (.p (.int .i64 0))), (.d (.p (.int .i64 0))), (.d (.p (.int .i64 0)))]))), (4, 1000, 2, (some (.row true true 4 (([] : List impl_Token).map impl_Token.e))))]) (fun J h => ?_) ?_
                · refine eqM ((a0.toks.length : Int) : Int) (mLen rfl) ?_
                  refine iteF h (fun c18 h => ?_) (fun c18 h => ?_)
                  · refine bindG h fun x19 hx19 h => ?_
                    refine anM (at_ix rfl hx19) ?_
                    refine exM (impl_Token.e x19) (at_get rfl hx19) ?_
                    exact ⟨x19.At, h, ⟨rfl, ⟨rfl, rfl, rfl, rfl, trivial⟩, ⟨rfl, rfl, rfl, rfl, trivial⟩⟩⟩
                  · exact ⟨a0.end_, h, ⟨rfl, ⟨rfl, rfl, rfl, rfl, trivial⟩, ⟨rfl, rfl, rfl, rfl, trivial⟩⟩⟩
                · rintro v17 h e hp
                  refine goS ?_
                  refine bindG h ?_
                  rintro ⟨y20, y21⟩ hy22 h
                  refine exM ([(.agg (y20.e.map .d)), (.agg (y21.e.map .d))], []) ?_ ?_
                  · exact spec_l4Take.ev hy22
                  refine bindG h ?_
                  rintro ⟨y23, y24, y25⟩ hy26 h
                  refine exM ([(.d (.p (.int .i64 y23))), (.d (.p (.int .i64 y24))), (.d (.p (.string y25)))], []) ?_ ?_
                  · exact spec_l4Form.ev hy26
                  refine goS ?_
                  refine seqJ h 230 (fun x => [(1, (.own 1 1 2)), (2, (.ptr 2 0 2 0)), (4, (.ptr 4 0 2 0)), (9, (.d (.p (.int .i64 v17)))), (11, (.d (.p (.int .i64 y23)))), (12, (.d (.p (.int .i64 y24)))), (13, (.d (.p (.string y25)))), (138, (.d (.p (.bool x))))]) (fun x => [(1, 1, 2, (some (.row true true 7 (a1.map impl_Node.e)))), (2, 0, 2, (some (.box [(.d (.l true 4 (y20.toks.map impl_Token.e))), (.d (.p (.int .i64 y20.i))), (.d (.p (.int .i64 y20.code))), (.d (.p (.int .i64 y20.at_))), (.d (.p (.int .i64 y20.end_)))]))), (4, 0, 2, (some (.box [(.own 4 1000 2), (.d (.p (.int .i64 0))), (.d (.p (.int .i64 0))), (.d (.p (.int .i64 0))), (.d (.p (.int .i64 0)))]))), (4, 1000, 2, (some (.row true true 4 (([] : List impl_Token).map impl_Token.e))))]) (fun J h => ?_) ?_
                  · refine iteF h (fun c28 h => ?_) (fun c28 h => ?_)
                    · refine Ask.T rfl ?_
                      refine Ask.T rfl ?_
                      exact ⟨(decide (y23 = 0)), h, ⟨rfl, ⟨rfl, rfl, rfl, rfl, rfl, rfl, rfl, rfl, trivial⟩, ⟨rfl, rfl, rfl, rfl, trivial⟩⟩⟩
                    · refine Ask.F rfl ?_
                      refine Ask.F rfl ?_
                      exact ⟨false, h, ⟨rfl, ⟨rfl, rfl, rfl, rfl, rfl, rfl, rfl, rfl, trivial⟩, ⟨rfl, rfl, rfl, rfl, trivial⟩⟩⟩
                  · rintro v27 h e hp
                    refine ifB h (fun c29 h => ?_) (fun c29 h => ?_)
                    · refine goS ?_
                      refine bindG h fun y30 hy31 h => ?_
                      refine exM ([(.agg (y30.e.map .d))], []) ?_ ?_
                      · exact spec_l4Fail.ev hy31
                      exact retE (enc := spec_l4Expr.enc) h rfl
                    · refine goS ?_
                      refine eqM (([] : List Int).map eI) rfl ?_
                      refine seqJ h 230 (fun x => [(1, (.own 1 1 2)), (2, (.ptr 2 0 2 0)), (4, (.ptr 4 0 2 0)), (14, (.ptr 14 0 2 0)), (15, (.own 15 1 2))]) (fun x => [(1, 1, 2, (some (.row true true 7 (x.1.map impl_Node.e)))), (2, 0, 2, (some (.box [(.d (.l true 4 (x.2.1.toks.map impl_Token.e))), (.d (.p (.int .i64 x.2.1.i))), (.d (.p (.int .i64 x.2.1.code))), (.d (.p (.int .i64 x.2.1.at_))), (.d (.p (.int .i64 x.2.1.end_)))]))), (4, 0, 2, (some (.box [(.own 4 1000 2), (.d (.p (.int .i64 0))), (.d (.p (.int .i64 0))), (.d (.p (.int .i64 0))), (.d (.p (.int .i64 0)))]))), (4, 1000, 2, (some (.row true true 4 (([] : List impl_Token).map impl_Token.e)))), (14, 0, 2, (some (.box [(.d (.p (.int .i64 x.2.2.1.Kind))), (.d (.p (.int .i64 x.2.2.1.A))), (.d (.p (.int .i64 x.2.2.1.B))), (.d (.p (.int .i64 x.2.2.1.C))), (.d (.p (.int .i64 x.2.2.1.N))), (.d (.p (.string x.2.2.1.Name))), (.d (.p (.string x.2.2.1.Other)))]))), (15, 1, 2, (some (.row true true 1 (x.2.2.2.map eI))))]) (fun J h => ?_) ?_
                      · refine loopX (α := Int × List impl_Node × spec_l4State × impl_Node × List Int) (a := (0, a1, y20, (⟨y23, 0, 0, 0, y24, (⟨#[]⟩ : ByteArray), (⟨#[]⟩ : ByteArray)⟩ : impl_Node), ([] : List Int))) 230 (fun x => [(1, (.own 1 1 2)), (2, (.ptr 2 0 2 0)), (4, (.ptr 4 0 2 0)), (13, (.d (.p (.string y25)))), (14, (.ptr 14 0 2 0)), (15, (.own 15 1 2)), (16, (.d (.p (.int .i64 x.1))))]) (fun x => [(1, 1, 2, (some (.row true true 7 (x.2.1.map impl_Node.e)))), (2, 0, 2, (some (.box [(.d (.l true 4 (x.2.2.1.toks.map impl_Token.e))), (.d (.p (.int .i64 x.2.2.1.i))), (.d (.p (.int .i64 x.2.2.1.code))), (.d (.p (.int .i64 x.2.2.1.at_))), (.d (.p (.int .i64 x.2.2.1.end_)))]))), (4, 0, 2, (some (.box [(.own 4 1000 2), (.d (.p (.int .i64 0))), (.d (.p (.int .i64 0))), (.d (.p (.int .i64 0))), (.d (.p (.int .i64 0)))]))), (4, 1000, 2, (some (.row true true 4 (([] : List impl_Token).map impl_Token.e)))), (14, 0, 2, (some (.box [(.d (.p (.int .i64 x.2.2.2.1.Kind))), (.d (.p (.int .i64 x.2.2.2.1.A))), (.d (.p (.int .i64 x.2.2.2.1.B))), (.d (.p (.int .i64 x.2.2.2.1.C))), (.d (.p (.int .i64 x.2.2.2.1.N))), (.d (.p (.string x.2.2.2.1.Name))), (.d (.p (.string x.2.2.2.1.Other)))]))), (15, 1, 2, (some (.row true true 1 (x.2.2.2.2.map eI))))]) (fun k x => spec_l4Expr.l0 r_spec_l4Expr y25 K k x.1 x.2.1 x.2.2.1 x.2.2.2.1 x.2.2.2.2) 1 (fun x => [(1, (.own 1 1 2)), (2, (.ptr 2 0 2 0)), (4, (.ptr 4 0 2 0)), (14, (.ptr 14 0 2 0)), (15, (.own 15 1 2))]) (fun x => [(1, 1, 2, (some (.row true true 7 (x.1.map impl_Node.e)))), (2, 0, 2, (some (.box [(.d (.l true 4 (x.2.1.toks.map impl_Token.e))), (.d (.p (.int .i64 x.2.1.i))), (.d (.p (.int .i64 x.2.1.code))), (.d (.p (.int .i64 x.2.1.at_))), (.d (.p (.int .i64 x.2.1.end_)))]))), (4, 0, 2, (some (.box [(.own 4 1000 2), (.d (.p (.int .i64 0))), (.d (.p (.int .i64 0))), (.d (.p (.int .i64 0))), (.d (.p (.int .i64 0)))]))), (4, 1000, 2, (some (.row true true 4 (([] : List impl_Token).map impl_Token.e)))), (14, 0, 2, (some (.box [(.d (.p (.int .i64 x.2.2.1.Kind))), (.d (.p (.int .i64 x.2.2.1.A))), (.d (.p (.int .i64 x.2.2.1.B))), (.d (.p (.int .i64 x.2.2.1.C))), (.d (.p (.int .i64 x.2.2.1.N))), (.d (.p (.string x.2.2.1.Name))), (.d (.p (.string x.2.2.1.Other)))]))), (15, 1, 2, (some (.row true true 1 (x.2.2.2.map eI))))]) h (fun _ => rfl) ?_ ⟨rfl, ⟨rfl, rfl, rfl, rfl, rfl, rfl, rfl, trivial⟩, ⟨rfl, rfl, rfl, rfl, rfl, rfl, trivial⟩⟩ ?_
                        · rintro k ⟨v36, v37, v38, v39, v40⟩ r h e hp
                          replace h : spec_l4Expr.l0 r_spec_l4Expr y25 K (k + 1) v36 v37 v38 v39 v40 = some r := h
                          unfold spec_l4Expr.l0 at h
                          refine goS ?_
                          refine seqJ h 230 (fun x => [(1, (.own 1 1 2)), (2, (.ptr 2 0 2 0)), (4, (.ptr 4 0 2 0)), (13, (.d (.p (.string y25)))), (14, (.ptr 14 0 2 0)), (15, (.own 15 1 2)), (16, (.d (.p (.int .i64 v36)))), (155, (.d (.p (.bool x))))]) (fun x => [(1, 1, 2, (some (.row true true 7 (v37.map impl_Node.e)))), (2, 0, 2, (some (.box [(.d (.l true 4 (v38.toks.map impl_Token.e))), (.d (.p (.int .i64 v38.i))), (.d (.p (.int .i64 v38.code))), (.d (.p (.int .i64 v38.at_))), (.d (.p (.int .i64 v38.end_)))]))), (4, 0, 2, (some (.box [(.own 4 1000 2), (.d (.p (.int .i64 0))), (.d (.p (.int .i64 0))), (.d (.p (.int .i64 0))), (.d (.p (.int .i64 0)))]))), (4, 1000, 2, (some (.row true true 4 (([] : List impl_Token).map impl_Token.e)))), (14, 0, 2, (some (.box [(.d (.p (.int .i64 v39.Kind))), (.d (.p (.int .i64 v39.A))), (.d (.p (.int .i64 v39.B))), (.d (.p (.int .i64 v39.C))), (.d (.p (.int .i64 v39.N))), (.d (.p (.string v39.Name))), (.d (.p (.string v39.Other)))]))), (15, 1, 2, (some (.row true true 1 (v40.map eI))))]) (fun J h => ?_) ?_
                          · refine iteF h (fun c46 h => ?_) (fun c46 h => ?_)
                            · refine Ask.T rfl ?_
                              refine Ask.T rfl ?_
                              refine Ask.T rfl ?_
                              exact ⟨(decide (v38.code = 0)), h, ⟨rfl, ⟨rfl, rfl, rfl, rfl, rfl, rfl, rfl, rfl, trivial⟩, ⟨rfl, rfl, rfl, rfl, rfl, rfl, trivial⟩⟩⟩
                            · refine Ask.F rfl ?_
                              refine Ask.F rfl ?_
                              refine Ask.F rfl ?_
                              exact ⟨false, h, ⟨rfl, ⟨rfl, rfl, rfl, rfl, rfl, rfl, rfl, rfl, trivial⟩, ⟨rfl, rfl, rfl, rfl, rfl, rfl, trivial⟩⟩⟩
                          · rintro v45 h e hp
                            refine ifB h (fun c47 h => ?_) (fun c47 h => ?_)
                            · refine seqJ h 230 (fun x => [(1, (.own 1 1 2)), (2, (.ptr 2 0 2 0)), (4, (.ptr 4 0 2 0)), (13, (.d (.p (.string y25)))), (14, (.ptr 14 0 2 0)), (15, (.own 15 1 2)), (16, (.d (.p (.int .i64 v36))))]) (fun x => [(1, 1, 2, (some (.row true true 7 (x.1.map impl_Node.e)))), (2, 0, 2, (some (.box [(.d (.l true 4 (x.2.1.toks.map impl_Token.e))), (.d (.p (.int .i64 x.2.1.i))), (.d (.p (.int .i64 x.2.1.code))), (.d (.p (.int .i64 x.2.1.at_))), (.d (.p (.int .i64 x.2.1.end_)))]))), (4, 0, 2, (some (.box [(.own 4 1000 2), (.d (.p (.int .i64 0))), (.d (.p (.int .i64 0))), (.d (.p (.int .i64 0))), (.d (.p (.int .i64 0)))]))), (4, 1000, 2, (some (.row true true 4 (([] : List impl_Token).map impl_Token.e)))), (14, 0, 2, (some (.box [(.d (.p (.int .i64 x.2.2.1.Kind))), (.d (.p (.int .i64 x.2.2.1.A))), (.d (.p (.int .i64 x.2.2.1.B))), (.d (.p (.int .i64 x.2.2.1.C))), (.d (.p (.int .i64 x.2.2.1.N))), (.d (.p (.string x.2.2.1.Name))), (.d (.p (.string x.2.2.1.Other)))]))), (15, 1, 2, (some (.row true true 1 (x.2.2.2.map eI))))]) (fun J h => ?_) ?_
                              · refine goS ?_
                                refine bindG h fun x52 hx52 h => ?_
                                refine exM x52 hx52 ?_
                                refine iteF h (fun c53 h => ?_) (fun c53 h => ?_)
                                · refine goS ?_
                                  refine bindG h ?_
                                  rintro ⟨y54, y55⟩ hy56 h
                                  refine exM ([(.agg (y54.e.map .d)), (.d (.p (.string y55)))], []) ?_ ?_
                                  · exact spec_l4Name.ev hy56
                                  refine goS ?_
                                  refine goS ?_
                                  refine ifB h (fun c57 h => ?_) (fun c57 h => ?_)
                                  · exact ⟨(v37, y54, (⟨v39.Kind, v39.A, v39.B, v39.C, v39.N, y55, v39.Other⟩ : impl_Node), v40), h, ⟨rfl, ⟨rfl, rfl, rfl, rfl, rfl, rfl, rfl, trivial⟩, ⟨rfl, rfl, rfl, rfl, rfl, rfl, trivial⟩⟩⟩
                                  · exact ⟨(v37, y54, (⟨v39.Kind, v39.A, v39.B, v39.C, v39.N, v39.Name, y55⟩ : impl_Node), v40), h, ⟨rfl, ⟨rfl, rfl, rfl, rfl, rfl, rfl, rfl, trivial⟩, ⟨rfl, rfl, rfl, rfl, rfl, rfl, trivial⟩⟩⟩
                                · refine goS ?_
                                  refine bindG h ?_
                                  rintro ⟨y58, y59⟩ hy60 h
                                  refine exM ([(.agg (y58.e.map .d)), (.own true 7 (y59.map impl_Node.e))], []) ?_ ?_
                                  · exact hr_spec_l4Expr hy60
                                  refine goS ?_
                                  refine eqM ((y59.length : Int) : Int) (mLen rfl) ?_
                                  refine eqM (([(w64 ((y59.length : Int) - 1))] : List Int).map eI) rfl ?_
                                  refine gdG h fun hc h => ?_
                                  refine anM (apB hc) ?_
                                  refine eqM ((v40 ++ ([(w64 ((y59.length : Int) - 1))] : List Int)).map eI) (mApp rfl rfl) ?_
                                  exact ⟨(y59, y58, v39, (v40 ++ ([(w64 ((y59.length : Int) - 1))] : List Int))), h, ⟨rfl, ⟨rfl, rfl, rfl, rfl, rfl, rfl, rfl, trivial⟩, ⟨rfl, rfl, rfl, rfl, rfl, rfl, trivial⟩⟩⟩
                              · rintro ⟨v48, v49, v50, v51⟩ h e hp
                                exact ⟨((w64 (v36 + 1)), v48, v49, v50, v51), h, ⟨rfl, ⟨rfl, rfl, rfl, rfl, rfl, rfl, rfl, trivial⟩, ⟨rfl, rfl, rfl, rfl, rfl, rfl, trivial⟩⟩⟩
                            · refine exQ h ?_
                              exact ⟨rfl, ⟨rfl, rfl, rfl, rfl, rfl, trivial⟩, ⟨rfl, rfl, rfl, rfl, rfl, rfl, trivial⟩⟩
                        · rintro ⟨v41, v42, v43, v44⟩ S' h ⟨qn, ⟨qa0, qa1, qa2, qa3, qa4, _⟩, ⟨qb0, qb1, qb2, qb3, qb4, qb5, _⟩⟩
                          exact ⟨(v41, v42, v43, v44), h, ⟨qn, ⟨qa0, qa1, qa2, qa3, qa4, trivial⟩, ⟨qb0, qb1, qb2, qb3, qb4, qb5, trivial⟩⟩⟩
                      · rintro ⟨v32, v33, v34, v35⟩ h e hp
                        refine goS ?_
                        refine bindG h ?_
                        rintro ⟨y61, y62⟩ hy63 h
                        refine exM ([(.agg (y61.e.map .d)), (.agg (y62.e.map .d))], []) ?_ ?_
                        · exact spec_l4Take.ev hy63
                        refine goS ?_
                        refine ifB h (fun c64 h => ?_) (fun c64 h => ?_)
                        · refine goS ?_
                          exact retE (enc := spec_l4Expr.enc) h rfl
                        · refine seqJ h 230 (fun x => [(1, (.own 1 1 2)), (2, (.ptr 2 0 2 0)), (4, (.ptr 4 0 2 0)), (14, (.ptr 14 0 2 0))]) (fun x => [(1, 1, 2, (some (.row true true 7 (v32.map impl_Node.e)))), (2, 0, 2, (some (.box [(.d (.l true 4 (y61.toks.map impl_Token.e))), (.d (.p (.int .i64 y61.i))), (.d (.p (.int .i64 y61.code))), (.d (.p (.int .i64 y61.at_))), (.d (.p (.int .i64 y61.end_)))]))), (4, 0, 2, (some (.box [(.own 4 1000 2), (.d (.p (.int .i64 0))), (.d (.p (.int .i64 0))), (.d (.p (.int .i64 0))), (.d (.p (.int .i64 0)))]))), (4, 1000, 2, (some (.row true true 4 (([] : List impl_Token).map impl_Token.e)))), (14, 0, 2, (some (.box [(.d (.p (.int .i64 x.Kind))), (.d (.p (.int .i64 x.A))), (.d (.p (.int .i64 x.B))), (.d (.p (.int .i64 x.C))), (.d (.p (.int .i64 x.N))), (.d (.p (.string x.Name))), (.d (.p (.string x.Other)))])))]) (fun J h => ?_) ?_
                          · refine loopX (α := Int × impl_Node) (a := (0, v34)) 230 (fun x => [(1, (.own 1 1 2)), (2, (.ptr 2 0 2 0)), (4, (.ptr 4 0 2 0)), (14, (.ptr 14 0 2 0)), (15, (.own 15 1 2)), (21, (.d (.p (.int .i64 x.1))))]) (fun x => [(1, 1, 2, (some (.row true true 7 (v32.map impl_Node.e)))), (2, 0, 2, (some (.box [(.d (.l true 4 (y61.toks.map impl_Token.e))), (.d (.p (.int .i64 y61.i))), (.d (.p (.int .i64 y61.code))), (.d (.p (.int .i64 y61.at_))), (.d (.p (.int .i64 y61.end_)))]))), (4, 0, 2, (some (.box [(.own 4 1000 2), (.d (.p (.int .i64 0))), (.d (.p (.int .i64 0))), (.d (.p (.int .i64 0))), (.d (.p (.int .i64 0)))]))), (4, 1000, 2, (some (.row true true 4 (([] : List impl_Token).map impl_Token.e)))), (14, 0, 2, (some (.box [(.d (.p (.int .i64 x.2.Kind))), (.d (.p (.int .i64 x.2.A))), (.d (.p (.int .i64 x.2.B))), (.d (.p (.int .i64 x.2.C))), (.d (.p (.int .i64 x.2.N))), (.d (.p (.string x.2.Name))), (.d (.p (.string x.2.Other)))]))), (15, 1, 2, (some (.row true true 1 (v35.map eI))))]) (fun k x => spec_l4Expr.l1 v35 K k x.1 x.2) 3 (fun x => [(1, (.own 1 1 2)), (2, (.ptr 2 0 2 0)), (4, (.ptr 4 0 2 0)), (14, (.ptr 14 0 2 0))]) (fun x => [(1, 1, 2, (some (.row true true 7 (v32.map impl_Node.e)))), (2, 0, 2, (some (.box [(.d (.l true 4 (y61.toks.map impl_Token.e))), (.d (.p (.int .i64 y61.i))), (.d (.p (.int .i64 y61.code))), (.d (.p (.int .i64 y61.at_))), (.d (.p (.int .i64 y61.end_)))]))), (4, 0, 2, (some (.box [(.own 4 1000 2), (.d (.p (.int .i64 0))), (.d (.p (.int .i64 0))), (.d (.p (.int .i64 0))), (.d (.p (.int .i64 0)))]))), (4, 1000, 2, (some (.row true true 4 (([] : List impl_Token).map impl_Token.e)))), (14, 0, 2, (some (.box [(.d (.p (.int .i64 x.Kind))), (.d (.p (.int .i64 x.A))), (.d (.p (.int .i64 x.B))), (.d (.p (.int .i64 x.C))), (.d (.p (.int .i64 x.N))), (.d (.p (.string x.Name))), (.d (.p (.string x.Other)))])))]) h (fun _ => rfl) ?_ ⟨rfl, ⟨rfl, rfl, rfl, rfl, rfl, rfl, trivial⟩, ⟨rfl, rfl, rfl, rfl, rfl, rfl, trivial⟩⟩ ?_
                            · rintro k ⟨v66, v67⟩ r h e hp
                              replace h : spec_l4Expr.l1 v35 K (k + 1) v66 v67 = some r := h
                              unfold spec_l4Expr.l1 at h
                              refine goS ?_
                              refine eqM ((v35.length : Int) : Int) (mLen rfl) ?_
                              refine iteF h (fun c69 h => ?_) (fun c69 h => ?_)
                              · refine seqJ h 230 (fun x => [(1, (.own 1 1 2)), (2, (.ptr 2 0 2 0)), (4, (.ptr 4 0 2 0)), (14, (.ptr 14 0 2 0)), (15, (.own 15 1 2)), (21, (.d (.p (.int .i64 v66))))]) (fun x => [(1, 1, 2, (some (.row true true 7 (v32.map impl_Node.e)))), (2, 0, 2, (some (.box [(.d (.l true 4 (y61.toks.map impl_Token.e))), (.d (.p (.int .i64 y61.i))), (.d (.p (.int .i64 y61.code))), (.d (.p (.int .i64 y61.at_))), (.d (.p (.int .i64 y61.end_)))]))), (4, 0, 2, (some (.box [(.own 4 1000 2), (.d (.p (.int .i64 0))), (.d (.p (.int .i64 0))), (.d (.p (.int .i64 0))), (.d (.p (.int .i64 0)))]))), (4, 1000, 2, (some (.row true true 4 (([] : List impl_Token).map impl_Token.e)))), (14, 0, 2, (some (.box [(.d (.p (.int .i64 x.Kind))), (.d (.p (.int .i64 x.A))), (.d (.p (.int .i64 x.B))), (.d (.p (.int .i64 x.C))), (.d (.p (.int .i64 x.N))), (.d (.p (.string x.Name))), (.d (.p (.string x.Other)))]))), (15, 1, 2, (some (.row true true 1 (v35.map eI))))]) (fun J h => ?_) ?_
                                · refine iteF h (fun c71 h => ?_) (fun c71 h => ?_)
                                  · refine bindG h fun x72 hx72 h => ?_
                                    refine anM (at_ix rfl hx72) ?_
                                    refine exM (eI x72) (at_get rfl hx72) ?_
                                    exact ⟨(⟨v67.Kind, x72, v67.B, v67.C, v67.N, v67.Name, v67.Other⟩ : impl_Node), h, ⟨rfl, ⟨rfl, rfl, rfl, rfl, rfl, rfl, trivial⟩, ⟨rfl, rfl, rfl, rfl, rfl, rfl, trivial⟩⟩⟩
                                  · refine iteF h (fun c73 h => ?_) (fun c73 h => ?_)
                                    · refine bindG h fun x74 hx74 h => ?_
                                      refine anM (at_ix rfl hx74) ?_
                                      refine exM (eI x74) (at_get rfl hx74) ?_
                                      exact ⟨(⟨v67.Kind, v67.A, x74, v67.C, v67.N, v67.Name, v67.Other⟩ : impl_Node), h, ⟨rfl, ⟨rfl, rfl, rfl, rfl, rfl, rfl, trivial⟩, ⟨rfl, rfl, rfl, rfl, rfl, rfl, trivial⟩⟩⟩
                                    · refine bindG h fun x75 hx75 h => ?_
                                      refine anM (at_ix rfl hx75) ?_
                                      refine exM (eI x75) (at_get rfl hx75) ?_
                                      exact ⟨(⟨v67.Kind, v67.A, v67.B, x75, v67.N, v67.Name, v67.Other⟩ : impl_Node), h, ⟨rfl, ⟨rfl, rfl, rfl, rfl, rfl, rfl, trivial⟩, ⟨rfl, rfl, rfl, rfl, rfl, rfl, trivial⟩⟩⟩
                                · rintro v70 h e hp
                                  exact ⟨((w64 (v66 + 1)), v70), h, ⟨rfl, ⟨rfl, rfl, rfl, rfl, rfl, rfl, trivial⟩, ⟨rfl, rfl, rfl, rfl, rfl, rfl, trivial⟩⟩⟩
                              · refine exQ h ?_
                                exact ⟨rfl, ⟨rfl, rfl, rfl, rfl, trivial⟩, ⟨rfl, rfl, rfl, rfl, rfl, trivial⟩⟩
                            · rintro v68 S' h ⟨qn, ⟨qa0, qa1, qa2, qa3, _⟩, ⟨qb0, qb1, qb2, qb3, qb4, _⟩⟩
                              exact ⟨v68, h, ⟨qn, ⟨qa0, qa1, qa2, qa3, trivial⟩, ⟨qb0, qb1, qb2, qb3, qb4, trivial⟩⟩⟩
                          · rintro v65 h e hp
                            refine goS ?_
                            refine ⟨[[227, 228, 229], [], [225], [225], [225, 999999, 2], [], []], [[999999, 2], [], [], [], [], [], []], by kernel_rfl, ?_⟩
                            refine eqM (([v65] : List impl_Node).map impl_Node.e) rfl ?_
                            refine gdG h fun hc h => ?_
                            refine anM (apB hc) ?_
                            refine eqM ((v32 ++ ([v65] : List impl_Node)).map impl_Node.e) (mApp rfl rfl) ?_
                            exact retE (enc := spec_l4Expr.enc) h rfl
def spec_l4Expr.r (K : Nat) : Nat → spec_l4State → (List impl_Node) → Option (spec_l4State × List impl_Node)
  | 0, _, _ => none
  | d + 1, a0, a1 => spec_l4Expr.b (spec_l4Expr.r K d) K a0 a1
theorem spec_l4Expr.r_ev {K : Nat} : ∀ (d : Nat) {a0 : spec_l4State} {a1 : List impl_Node} {r : spec_l4State × List impl_Node}, spec_l4Expr.r K d a0 a1 = some r → E 56 [(.agg (a0.e.map .d)), (.own true 7 (a1.map impl_Node.e))] = some ([(.agg (r.1.e.map .d)), (.own true 7 (r.2.map impl_Node.e))], []) := by
  intro d
  induction d with
  | zero => intro a0 a1 r h; cases h
  | succ d ih => intro a0 a1 r h; exact spec_l4Expr.b_ev ih h
def spec_l4Expr.f (K : Nat) (a0 : spec_l4State) (a1 : List impl_Node) : Option (spec_l4State × List impl_Node) := spec_l4Expr.r K K a0 a1
theorem spec_l4Expr.ev {K : Nat} {a0 : spec_l4State} {a1 : List impl_Node} {r : spec_l4State × List impl_Node} (h : spec_l4Expr.f K a0 a1 = some r) : E 56 [(.agg (a0.e.map .d)), (.own true 7 (a1.map impl_Node.e))] = some ([(.agg (r.1.e.map .d)), (.own true 7 (r.2.map impl_Node.e))], []) := spec_l4Expr.r_ev K h
def spec_Parse.enc (r : List impl_Node × Int × Int) : Res := ([(.own true 7 (r.1.map impl_Node.e)), (.d (.p (.int .i64 r.2.1))), (.d (.p (.int .i64 r.2.2)))], [])
def spec_Parse.f  (K : Nat) (a0 : ByteArray) : Option (List impl_Node × Int × Int) := (spec_Lex.f K a0).bind fun (y1, y2) => (if y2 ≥ 0 then (some (([] : List impl_Node), 1, y2)) else ((spec_l4Expr.f K (⟨y1, 0, 0, 0, (a0.size : Int)⟩ : spec_l4State) ([] : List impl_Node)).bind fun (y5, y6) => (jn (fun (v8 : spec_l4State) => jn (fun (v15 : spec_l4State) => if (!(decide (v15.code = 0))) = true then (some (([] : List impl_Node), v15.code, v15.at_)) else (some (y6, 0, 0))) (fun j => jn (fun (v16 : Bool) => if v16 = true then ((spec_l4Fail.f K v8 5 0).bind fun y19 => (j y19)) else (j v8)) (fun j => if v8.code = 0 then (j (decide ((y6.length : Int) > 150))) else (j false)))) (fun j => jn (fun (v9 : Bool) => if v9 = true then ((at_ y1 y5.i).bind fun x12 => ((spec_l4Fail.f K y5 4 x12.At).bind fun y13 => (j y13))) else (j y5)) (fun j => if y5.code = 0 then (j (decide (y5.i < (y1.length : Int)))) else (j false))))))
theorem spec_Parse.ev   {K : Nat} {a0 : ByteArray} {r : List impl_Node × Int × Int} (h : spec_Parse.f  K a0 = some r) : E 29 [(.d (.p (.string a0)))] = some ([(.own true 7 (r.1.map impl_Node.e)), (.d (.p (.int .i64 r.2.1))), (.d (.p (.int .i64 r.2.2)))], []) := by
  refine Ev_intro (fn := Tryd.f29) rfl (by kernel_rfl) (c := _) rfl ⟨rfl, by simp⟩ rfl (evP_spec _ ?_)
  unfold spec_Parse.f at h
  refine bindG h ?_
  rintro ⟨y1, y2⟩ hy3 h
  refine exM ([(.own true 4 (y1.map impl_Token.e)), (.d (.p (.int .i64 y2)))], []) ?_ ?_
  · exact spec_Lex.ev hy3
  refine goS ?_
  refine iteF h (fun c4 h => ?_) (fun c4 h => ?_)
  · refine eqM (([] : List impl_Node).map impl_Node.e) rfl ?_
    exact retE (enc := spec_Parse.enc) h rfl
  · refine goS ?_
    refine eqM (([] : List impl_Node).map impl_Node.e) rfl ?_
    refine bindG h ?_
    rintro ⟨y5, y6⟩ hy7 h
    refine exM ([(.agg (y5.e.map .d)), (.own true 7 (y6.map impl_Node.e))], []) ?_ ?_
    · exact spec_l4Expr.ev hy7
    refine seqJ h 64 (fun x => [(7, (.ptr 7 0 2 0)), (8, (.own 8 1 2))]) (fun x => [(7, 0, 2, (some (.box [(.d (.l true 4 (x.toks.map impl_Token.e))), (.d (.p (.int .i64 x.i))), (.d (.p (.int .i64 x.code))), (.d (.p (.int .i64 x.at_))), (.d (.p (.int .i64 x.end_)))]))), (8, 1, 2, (some (.row true true 7 (y6.map impl_Node.e))))]) (fun J h => ?_) ?_
    · refine seqJ h 64 (fun x => [(5, (.own 5 1 2)), (7, (.ptr 7 0 2 0)), (8, (.own 8 1 2)), (36, (.d (.p (.bool x))))]) (fun x => [(5, 1, 2, (some (.row false true 4 (y1.map impl_Token.e)))), (7, 0, 2, (some (.box [(.d (.l true 4 (y5.toks.map impl_Token.e))), (.d (.p (.int .i64 y5.i))), (.d (.p (.int .i64 y5.code))), (.d (.p (.int .i64 y5.at_))), (.d (.p (.int .i64 y5.end_)))]))), (8, 1, 2, (some (.row true true 7 (y6.map impl_Node.e))))]) (fun J h => ?_) ?_
      · refine iteF h (fun c10 h => ?_) (fun c10 h => ?_)
        · refine Ask.T rfl ?_
          refine Ask.T rfl ?_
          refine Ask.T rfl ?_
          refine eqM ((y1.length : Int) : Int) (mLen rfl) ?_
          refine Ask.T rfl ?_
          refine Ask.T rfl ?_
          exact ⟨(decide (y5.i < (y1.length : Int))), h, ⟨rfl, ⟨rfl, rfl, rfl, rfl, trivial⟩, ⟨rfl, rfl, rfl, trivial⟩⟩⟩
        · refine Ask.F rfl ?_
          refine Ask.F rfl ?_
          refine Ask.F rfl ?_
          refine Ask.F rfl ?_
          refine Ask.F rfl ?_
          exact ⟨false, h, ⟨rfl, ⟨rfl, rfl, rfl, rfl, trivial⟩, ⟨rfl, rfl, rfl, trivial⟩⟩⟩
      · rintro v9 h e hp
        refine ifB h (fun c11 h => ?_) (fun c11 h => ?_)
        · refine ⟨[[39, 40, 41, 42, 43], [], [37], [37], [37], [37], [37], [], []], [], by kernel_rfl, ?_⟩
          refine bindG h fun x12 hx12 h => ?_
          refine anM (at_ix rfl hx12) ?_
          refine anM (at_lt rfl hx12) ?_
          refine exM (impl_Token.e x12) (at_get rfl hx12) ?_
          refine bindG h fun y13 hy14 h => ?_
          refine exM ([(.agg (y13.e.map .d))], []) ?_ ?_
          · exact spec_l4Fail.ev hy14
          exact ⟨y13, h, ⟨rfl, ⟨rfl, rfl, trivial⟩, ⟨rfl, rfl, trivial⟩⟩⟩
        · exact ⟨y5, h, ⟨rfl, ⟨rfl, rfl, trivial⟩, ⟨rfl, rfl, trivial⟩⟩⟩
    · rintro v8 h e hp
      refine seqJ h 64 (fun x => [(7, (.ptr 7 0 2 0)), (8, (.own 8 1 2))]) (fun x => [(7, 0, 2, (some (.box [(.d (.l true 4 (x.toks.map impl_Token.e))), (.d (.p (.int .i64 x.i))), (.d (.p (.int .i64 x.code))), (.d (.p (.int .i64 x.at_))), (.d (.p (.int .i64 x.end_)))]))), (8, 1, 2, (some (.row true true 7 (y6.map impl_Node.e))))]) (fun J h => ?_) ?_
      · refine seqJ h 64 (fun x => [(7, (.ptr 7 0 2 0)), (8, (.own 8 1 2)), (52, (.d (.p (.bool x))))]) (fun x => [(7, 0, 2, (some (.box [(.d (.l true 4 (v8.toks.map impl_Token.e))), (.d (.p (.int .i64 v8.i))), (.d (.p (.int .i64 v8.code))), (.d (.p (.int .i64 v8.at_))), (.d (.p (.int .i64 v8.end_)))]))), (8, 1, 2, (some (.row true true 7 (y6.map impl_Node.e))))]) (fun J h => ?_) ?_
        · refine iteF h (fun c17 h => ?_) (fun c17 h => ?_)
          · refine Ask.T rfl ?_
            refine eqM ((y6.length : Int) : Int) (mLen rfl) ?_
            refine Ask.T rfl ?_
            refine Ask.T rfl ?_
            exact ⟨(decide ((y6.length : Int) > 150)), h, ⟨rfl, ⟨rfl, rfl, rfl, trivial⟩, ⟨rfl, rfl, trivial⟩⟩⟩
          · refine Ask.F rfl ?_
            refine Ask.F rfl ?_
            refine Ask.F rfl ?_
            exact ⟨false, h, ⟨rfl, ⟨rfl, rfl, rfl, trivial⟩, ⟨rfl, rfl, trivial⟩⟩⟩
        · rintro v16 h e hp
          refine ifB h (fun c18 h => ?_) (fun c18 h => ?_)
          · refine bindG h fun y19 hy20 h => ?_
            refine exM ([(.agg (y19.e.map .d))], []) ?_ ?_
            · exact spec_l4Fail.ev hy20
            exact ⟨y19, h, ⟨rfl, ⟨rfl, rfl, trivial⟩, ⟨rfl, rfl, trivial⟩⟩⟩
          · exact ⟨v8, h, ⟨rfl, ⟨rfl, rfl, trivial⟩, ⟨rfl, rfl, trivial⟩⟩⟩
      · rintro v15 h e hp
        refine goS ?_
        refine ifB h (fun c21 h => ?_) (fun c21 h => ?_)
        · refine ⟨[[59, 60, 61, 62], [58, 61, 62, 2], [58, 61, 62, 2], [58, 59, 60, 2, 3], [58, 59, 60, 2, 3], [59, 999999, 7, 20, 60, 999999, 7, 20, 61, 999999, 7, 20, 62, 999999, 7, 20], [61, 999999, 7, 20, 62, 999999, 7, 20], []], [[], [999999, 7, 20], [999999, 7, 20], [999999, 7, 20], [999999, 7, 20], [], [], []], by kernel_rfl, ?_⟩
          refine eqM (([] : List impl_Node).map impl_Node.e) rfl ?_
          exact retE (enc := spec_Parse.enc) h rfl
        · exact retE (enc := spec_Parse.enc) h rfl
def impl_runOf.enc (r : Int) : Res := ([(.d (.p (.int .i64 r)))], [])
def impl_runOf.l0 (a0 : ByteArray) (a2 : Int) (a3 : Int) (K : Nat) : Nat → Int → Option (Int)
  | 0, _ => none
  | k + 1, v2 => jn (fun (v4 : Bool) => if v4 = true then (impl_runOf.l0 a0 a2 a3 K k (w64 (v2 + 1))) else (some v2)) (fun j => if v2 < (a0.size : Int) then ((atS a0 v2).bind fun x6 => (if (x6.toNat : Int) ≥ a2 then ((atS a0 v2).bind fun x8 => (j (decide ((x8.toNat : Int) ≤ a3)))) else (j false))) else (j false))
def impl_runOf.f  (K : Nat) (a0 : ByteArray) (a1 : Int) (a2 : Int) (a3 : Int) : Option (Int) := jn (fun (v1 : Int) => some v1) (fun j => (impl_runOf.l0 a0 a2 a3 K K a1).bind fun (v3 : Int) => j v3)
theorem impl_runOf.ev   {K : Nat} {a0 : ByteArray} {a1 : Int} {a2 : Int} {a3 : Int} {r : Int} (h : impl_runOf.f  K a0 a1 a2 a3 = some r) : E 113 [(.d (.p (.string a0))), (.d (.p (.int .i64 a1))), (.d (.p (.int .u8 a2))), (.d (.p (.int .u8 a3)))] = some ([(.d (.p (.int .i64 r)))], []) := by
  refine Ev_intro (fn := Tryd.f113) rfl (by kernel_rfl) (c := _) rfl ⟨rfl, by simp⟩ rfl (evP_spec _ ?_)
  unfold impl_runOf.f at h
  refine seqJ h 30 (fun x => [(1, (.d (.p (.int .i64 x))))]) (fun x => []) (fun J h => ?_) ?_
  · refine loopX (α := Int) (a := a1) 30 (fun x => [(0, (.d (.p (.string a0)))), (1, (.d (.p (.int .i64 x)))), (2, (.d (.p (.int .u8 a2)))), (3, (.d (.p (.int .u8 a3))))]) (fun x => []) (fun k x => impl_runOf.l0 a0 a2 a3 K k x) 0 (fun x => [(1, (.d (.p (.int .i64 x))))]) (fun x => []) h (fun _ => rfl) ?_ ⟨rfl, ⟨rfl, rfl, rfl, rfl, trivial⟩, trivial⟩ ?_
    · rintro k v2 r h e hp
      replace h : impl_runOf.l0 a0 a2 a3 K (k + 1) v2 = some r := h
      unfold impl_runOf.l0 at h
      refine goS ?_
      refine seqJ h 30 (fun x => [(0, (.d (.p (.string a0)))), (1, (.d (.p (.int .i64 v2)))), (2, (.d (.p (.int .u8 a2)))), (3, (.d (.p (.int .u8 a3)))), (26, (.d (.p (.bool x))))]) (fun x => []) (fun J h => ?_) ?_
      · refine iteF h (fun c5 h => ?_) (fun c5 h => ?_)
        · refine Ask.T rfl ?_
          refine Ask.T rfl ?_
          refine bindG h fun x6 hx6 h => ?_
          refine exM x6 hx6 ?_
          refine Ask.T rfl ?_
          refine Ask.T rfl ?_
          refine Ask.T rfl ?_
          refine iteF h (fun c7 h => ?_) (fun c7 h => ?_)
          · refine Ask.T rfl ?_
            refine Ask.T rfl ?_
            refine bindG h fun x8 hx8 h => ?_
            refine exM x8 hx8 ?_
            refine Ask.T rfl ?_
            refine Ask.T rfl ?_
            refine Ask.T rfl ?_
            exact ⟨(decide ((x8.toNat : Int) ≤ a3)), h, ⟨rfl, ⟨rfl, rfl, rfl, rfl, rfl, trivial⟩, trivial⟩⟩
          · refine Ask.F rfl ?_
            refine Ask.F rfl ?_
            refine Ask.F rfl ?_
            refine Ask.F rfl ?_
            refine Ask.F rfl ?_
            exact ⟨false, h, ⟨rfl, ⟨rfl, rfl, rfl, rfl, rfl, trivial⟩, trivial⟩⟩
        · refine Ask.F rfl ?_
          refine Ask.F rfl ?_
          refine Ask.F rfl ?_
          refine Ask.F rfl ?_
          refine Ask.F rfl ?_
          refine Ask.F rfl ?_
          refine Ask.F rfl ?_
          refine Ask.F rfl ?_
          refine Ask.F rfl ?_
          refine Ask.F rfl ?_
          refine Ask.F rfl ?_
          exact ⟨false, h, ⟨rfl, ⟨rfl, rfl, rfl, rfl, rfl, trivial⟩, trivial⟩⟩
      · rintro v4 h e hp
        refine ifB h (fun c9 h => ?_) (fun c9 h => ?_)
        · exact ⟨(w64 (v2 + 1)), h, ⟨rfl, ⟨rfl, rfl, rfl, rfl, trivial⟩, trivial⟩⟩
        · refine exQ h ?_
          exact ⟨rfl, ⟨rfl, trivial⟩, trivial⟩
    · rintro v3 S' h ⟨qn, ⟨qa0, _⟩, ⟨_⟩⟩
      exact ⟨v3, h, ⟨qn, ⟨qa0, trivial⟩, trivial⟩⟩
  · rintro v1 h e hp
    exact retE (enc := impl_runOf.enc) h rfl
def impl_in.enc (r : Bool) : Res := ([(.d (.p (.bool r)))], [])
def impl_in.f  (K : Nat) (a0 : Int) (a1 : Int) (a2 : Int) : Option (Bool) := if a0 ≥ a1 then (some (decide (a0 ≤ a2))) else (some false)
theorem impl_in.ev   {K : Nat} {a0 : Int} {a1 : Int} {a2 : Int} {r : Bool} (h : impl_in.f  K a0 a1 a2 = some r) : E 36 [(.d (.p (.int .i64 a0))), (.d (.p (.int .i64 a1))), (.d (.p (.int .i64 a2)))] = some ([(.d (.p (.bool r)))], []) := by
  refine Ev_intro (fn := Tryd.f36) rfl (by kernel_rfl) (c := _) rfl ⟨rfl, by simp⟩ rfl (evP_spec _ ?_)
  unfold impl_in.f at h
  refine goS ?_
  refine iteF h (fun c1 h => ?_) (fun c1 h => ?_)
  · refine Ask.T rfl ?_
    refine Ask.T rfl ?_
    refine Ask.T rfl ?_
    exact retE (enc := impl_in.enc) h rfl
  · refine Ask.F rfl ?_
    refine Ask.F rfl ?_
    refine Ask.F rfl ?_
    exact retE (enc := impl_in.enc) h rfl
def impl_IsWord.enc (r : Bool) : Res := ([(.d (.p (.bool r)))], [])
def impl_IsWord.en (a0 : ByteArray) (r : Bool) (S : St) : Prop := endV tb md 114 Tryd.f114 [(.d (.p (.string a0)))] .ret S = some (impl_IsWord.enc r)
def impl_IsWord.l0 (a0 : ByteArray) (K : Nat) : Nat → Int → Option (Bool ⊕ Unit)
  | 0, _ => none
  | k + 1, v1 => if v1 < (a0.size : Int) then (jn (fun (v3 : Bool) => if v3 = true then (some (.inl false)) else (impl_IsWord.l0 a0 K k (w64 (v1 + 1)))) (fun j => (atS a0 v1).bind fun x4 => (if (x4.toNat : Int) < 97 then (j true) else ((atS a0 v1).bind fun x6 => (j (decide ((x6.toNat : Int) > 122))))))) else (some (.inr ()))
def impl_IsWord.f  (K : Nat) (a0 : ByteArray) : Option (Bool) := jn (fun (_ : Unit) => (impl_in.f K (a0.size : Int) 1 8).bind fun y8 => (some y8)) (fun j => lb (impl_IsWord.l0 a0 K K 0) (fun r => some r) (fun (_ : Unit) => j ()))
theorem impl_IsWord.ev   {K : Nat} {a0 : ByteArray} {r : Bool} (h : impl_IsWord.f  K a0 = some r) : E 114 [(.d (.p (.string a0)))] = some ([(.d (.p (.bool r)))], []) := by
  refine Ev_intro (fn := Tryd.f114) rfl (by kernel_rfl) (c := _) rfl ⟨rfl, by simp⟩ rfl (evP_spec _ ?_)
  unfold impl_IsWord.f at h
  refine seqJ h 23 (fun x => [(0, (.d (.p (.string a0))))]) (fun x => []) (fun J h => ?_) ?_
  · refine loopB (α := Int) (a := 0) 23 (fun x => [(0, (.d (.p (.string a0)))), (3, (.d (.p (.int .i64 x))))]) (fun x => []) (fun k x => impl_IsWord.l0 a0 K k x) (impl_IsWord.en a0) 0 (fun x => [(0, (.d (.p (.string a0))))]) (fun x => []) h (fun _ => rfl) ?_ ⟨rfl, ⟨rfl, rfl, trivial⟩, trivial⟩ ?_ ?_
    · rintro k v1 r h e hp
      replace h : impl_IsWord.l0 a0 K (k + 1) v1 = some r := h
      unfold impl_IsWord.l0 at h
      refine goS ?_
      refine iteF h (fun c2 h => ?_) (fun c2 h => ?_)
      · refine goS ?_
        refine seqJ h 23 (fun x => [(0, (.d (.p (.string a0)))), (3, (.d (.p (.int .i64 v1)))), (19, (.d (.p (.bool x))))]) (fun x => []) (fun J h => ?_) ?_
        · refine bindG h fun x4 hx4 h => ?_
          refine exM x4 hx4 ?_
          refine iteF h (fun c5 h => ?_) (fun c5 h => ?_)
          · refine Ask.T rfl ?_
            refine Ask.T rfl ?_
            refine Ask.T rfl ?_
            refine Ask.T rfl ?_
            exact ⟨true, h, ⟨rfl, ⟨rfl, rfl, rfl, trivial⟩, trivial⟩⟩
          · refine Ask.F rfl ?_
            refine Ask.F rfl ?_
            refine bindG h fun x6 hx6 h => ?_
            refine exM x6 hx6 ?_
            refine Ask.F rfl ?_
            refine Ask.F rfl ?_
            exact ⟨(decide ((x6.toNat : Int) > 122)), h, ⟨rfl, ⟨rfl, rfl, rfl, trivial⟩, trivial⟩⟩
        · rintro v3 h e hp
          refine ifB h (fun c7 h => ?_) (fun c7 h => ?_)
          · exact lqL h rfl
          · exact ⟨(w64 (v1 + 1)), h, ⟨rfl, ⟨rfl, rfl, trivial⟩, trivial⟩⟩
      · refine lqR h ?_
        exact ⟨rfl, ⟨rfl, trivial⟩, trivial⟩
    · intro r' S' h q
      exact retE (enc := impl_IsWord.enc) h q
    · rintro _ S' h ⟨qn, ⟨qa0, _⟩, ⟨_⟩⟩
      exact ⟨(), h, ⟨qn, ⟨qa0, trivial⟩, trivial⟩⟩
  · rintro _ h e hp
    refine bindG h fun y8 hy9 h => ?_
    refine exM ([(.d (.p (.bool y8)))], []) ?_ ?_
    · exact impl_in.ev hy9
    exact retE (enc := impl_IsWord.enc) h rfl
def impl_tokenAt.enc (r : impl_Token × Bool) : Res := ([(.agg (r.1.e.map .d)), (.d (.p (.bool r.2)))], [])
def impl_tokenAt.f  (K : Nat) (a0 : ByteArray) (a1 : Int) : Option (impl_Token × Bool) := (atS a0 a1).bind fun x1 => (gd (0 ≤ a1 ∧ a1 ≤ (w64 (a1 + 1)) ∧ (w64 (a1 + 1)) ≤ (a0.size : Int)) (jn (fun (v2, v3) => some (v3, v2)) (fun j => if (x1.toNat : Int) = 40 then (j (true, (⟨1, (a0.extract (a1).toNat ((w64 (a1 + 1))).toNat), 0, a1⟩ : impl_Token))) else (if (x1.toNat : Int) = 41 then (j (true, (⟨2, (a0.extract (a1).toNat ((w64 (a1 + 1))).toNat), 0, a1⟩ : impl_Token))) else (jn (fun (v6 : Bool) => if v6 = true then ((impl_runOf.f K a0 a1 97 122).bind fun y9 => (gd (0 ≤ a1 ∧ a1 ≤ y9 ∧ y9 ≤ (a0.size : Int)) ((impl_IsWord.f K (a0.extract (a1).toNat (y9).toNat)).bind fun y11 => (j (y11, (⟨3, (a0.extract (a1).toNat (y9).toNat), 0, a1⟩ : impl_Token)))))) else (jn (fun (v13 : Bool) => if v13 = true then ((impl_runOf.f K a0 a1 48 57).bind fun y16 => (gd (0 ≤ a1 ∧ a1 ≤ y16 ∧ y16 ≤ (a0.size : Int)) ((impl_ReadDec.f (a0.extract (a1).toNat (y16).toNat)).bind fun (y18, y19) => (if y19 = true then (j ((decide (y18 ≤ 65535)), (⟨4, (a0.extract (a1).toNat (y16).toNat), y18, a1⟩ : impl_Token))) else (j (false, (⟨4, (a0.extract (a1).toNat (y16).toNat), y18, a1⟩ : impl_Token))))))) else (j (false, (⟨0, (a0.extract (a1).toNat ((w64 (a1 + 1))).toNat), 0, a1⟩ : impl_Token)))) (fun j => if (x1.toNat : Int) ≥ 48 then (j (decide ((x1.toNat : Int) ≤ 57))) else (j false)))) (fun j => if (x1.toNat : Int) ≥ 97 then (j (decide ((x1.toNat : Int) ≤ 122))) else (j false)))))))
theorem impl_tokenAt.ev   {K : Nat} {a0 : ByteArray} {a1 : Int} {r : impl_Token × Bool} (h : impl_tokenAt.f  K a0 a1 = some r) : E 88 [(.d (.p (.string a0))), (.d (.p (.int .i64 a1)))] = some ([(.agg (r.1.e.map .d)), (.d (.p (.bool r.2)))], []) := by
  refine Ev_intro (fn := Tryd.f88) rfl (by kernel_rfl) (c := _) rfl ⟨rfl, by simp⟩ rfl (evP_spec _ ?_)
  unfold impl_tokenAt.f at h
  refine bindG h fun x1 hx1 h => ?_
  refine exM x1 hx1 ?_
  refine goS ?_
  refine gdG h fun hc h => ?_
  refine anM hc ?_
  refine seqJ h 75 (fun x => [(4, (.ptr 4 0 2 0)), (7, (.ptr 7 0 2 0)), (8, (.d (.p (.bool x.1))))]) (fun x => [(4, 0, 2, (some (.box [(.d (.p (.int .i64 0))), (.d (.p (.string (⟨#[]⟩ : ByteArray)))), (.d (.p (.int .i64 0))), (.d (.p (.int .i64 0)))]))), (7, 0, 2, (some (.box [(.d (.p (.int .i64 x.2.Kind))), (.d (.p (.string x.2.Text))), (.d (.p (.int .i64 x.2.N))), (.d (.p (.int .i64 x.2.At)))])))]) (fun J h => ?_) ?_
  · refine iteF h (fun c4 h => ?_) (fun c4 h => ?_)
    · exact ⟨(true, (⟨1, (a0.extract (a1).toNat ((w64 (a1 + 1))).toNat), 0, a1⟩ : impl_Token)), h, ⟨rfl, ⟨rfl, rfl, rfl, trivial⟩, ⟨rfl, rfl, trivial⟩⟩⟩
    · refine iteF h (fun c5 h => ?_) (fun c5 h => ?_)
      · exact ⟨(true, (⟨2, (a0.extract (a1).toNat ((w64 (a1 + 1))).toNat), 0, a1⟩ : impl_Token)), h, ⟨rfl, ⟨rfl, rfl, rfl, trivial⟩, ⟨rfl, rfl, trivial⟩⟩⟩
      · refine seqJ h 75 (fun x => [(0, (.d (.p (.string a0)))), (1, (.d (.p (.int .i64 a1)))), (4, (.ptr 4 0 2 0)), (6, (.d (.p (.int .u8 (x1.toNat : Int))))), (7, (.ptr 7 0 2 0)), (27, (.d (.p (.bool x))))]) (fun x => [(4, 0, 2, (some (.box [(.d (.p (.int .i64 0))), (.d (.p (.string (⟨#[]⟩ : ByteArray)))), (.d (.p (.int .i64 0))), (.d (.p (.int .i64 0)))]))), (7, 0, 2, (some (.box [(.d (.p (.int .i64 0))), (.d (.p (.string (a0.extract (a1).toNat ((w64 (a1 + 1))).toNat)))), (.d (.p (.int .i64 0))), (.d (.p (.int .i64 a1)))])))]) (fun J h => ?_) ?_
        · refine iteF h (fun c7 h => ?_) (fun c7 h => ?_)
          · refine Ask.T rfl ?_
            refine Ask.T rfl ?_
            exact ⟨(decide ((x1.toNat : Int) ≤ 122)), h, ⟨rfl, ⟨rfl, rfl, rfl, rfl, rfl, rfl, trivial⟩, ⟨rfl, rfl, trivial⟩⟩⟩
          · refine Ask.F rfl ?_
            refine Ask.F rfl ?_
            exact ⟨false, h, ⟨rfl, ⟨rfl, rfl, rfl, rfl, rfl, rfl, trivial⟩, ⟨rfl, rfl, trivial⟩⟩⟩
        · rintro v6 h e hp
          refine ifB h (fun c8 h => ?_) (fun c8 h => ?_)
          · refine goS ?_
            refine ⟨[[], [], [], [], [40], [], [38], [], [], []], [], by kernel_rfl, ?_⟩
            refine bindG h fun y9 hy10 h => ?_
            refine exM ([(.d (.p (.int .i64 y9)))], []) ?_ ?_
            · exact impl_runOf.ev hy10
            refine gdG h fun hc h => ?_
            refine anM hc ?_
            refine bindG h fun y11 hy12 h => ?_
            refine exM ([(.d (.p (.bool y11)))], []) ?_ ?_
            · exact impl_IsWord.ev hy12
            exact ⟨(y11, (⟨3, (a0.extract (a1).toNat (y9).toNat), 0, a1⟩ : impl_Token)), h, ⟨rfl, ⟨rfl, rfl, rfl, trivial⟩, ⟨rfl, rfl, trivial⟩⟩⟩
          · refine seqJ h 75 (fun x => [(0, (.d (.p (.string a0)))), (1, (.d (.p (.int .i64 a1)))), (4, (.ptr 4 0 2 0)), (7, (.ptr 7 0 2 0)), (45, (.d (.p (.bool x))))]) (fun x => [(4, 0, 2, (some (.box [(.d (.p (.int .i64 0))), (.d (.p (.string (⟨#[]⟩ : ByteArray)))), (.d (.p (.int .i64 0))), (.d (.p (.int .i64 0)))]))), (7, 0, 2, (some (.box [(.d (.p (.int .i64 0))), (.d (.p (.string (a0.extract (a1).toNat ((w64 (a1 + 1))).toNat)))), (.d (.p (.int .i64 0))), (.d (.p (.int .i64 a1)))])))]) (fun J h => ?_) ?_
            · refine iteF h (fun c14 h => ?_) (fun c14 h => ?_)
              · refine Ask.T rfl ?_
                refine Ask.T rfl ?_
                exact ⟨(decide ((x1.toNat : Int) ≤ 57)), h, ⟨rfl, ⟨rfl, rfl, rfl, rfl, rfl, trivial⟩, ⟨rfl, rfl, trivial⟩⟩⟩
              · refine Ask.F rfl ?_
                refine Ask.F rfl ?_
                exact ⟨false, h, ⟨rfl, ⟨rfl, rfl, rfl, rfl, rfl, trivial⟩, ⟨rfl, rfl, trivial⟩⟩⟩
            · rintro v13 h e hp
              refine ifB h (fun c15 h => ?_) (fun c15 h => ?_)
              · refine goS ?_
                refine ⟨[[], [], [], [], [58], [], [56], [], [], []], [], by kernel_rfl, ?_⟩
                refine bindG h fun y16 hy17 h => ?_
                refine exM ([(.d (.p (.int .i64 y16)))], []) ?_ ?_
                · exact impl_runOf.ev hy17
                refine gdG h fun hc h => ?_
                refine anM hc ?_
                refine goR ?_
                refine bindG h ?_
                rintro ⟨y18, y19⟩ hy20 h
                refine exM ([(.d (.p (.int .i64 y18))), (.d (.p (.bool y19)))], []) ?_ ?_
                · exact impl_ReadDec.ev hy20
                refine Re.mk 75 [(4, (.ptr 4 0 2 0)), (7, (.ptr 7 0 2 0)), (8, (.d (.p (.bool y19))))] [(4, 0, 2, (some (.box [(.d (.p (.int .i64 0))), (.d (.p (.string (⟨#[]⟩ : ByteArray)))), (.d (.p (.int .i64 0))), (.d (.p (.int .i64 0)))]))), (7, 0, 2, (some (.box [(.d (.p (.int .i64 4))), (.d (.p (.string (a0.extract (a1).toNat (y16).toNat)))), (.d (.p (.int .i64 y18))), (.d (.p (.int .i64 a1)))])))] (by exact ⟨rfl, ⟨rfl, rfl, rfl, trivial⟩, ⟨rfl, rfl, trivial⟩⟩) ?_
                intro e hp
                refine ifB h (fun c21 h => ?_) (fun c21 h => ?_)
                · refine Ask.T rfl ?_
                  refine Ask.T rfl ?_
                  refine Ask.T rfl ?_
                  exact ⟨((decide (y18 ≤ 65535)), (⟨4, (a0.extract (a1).toNat (y16).toNat), y18, a1⟩ : impl_Token)), h, ⟨rfl, ⟨rfl, rfl, rfl, trivial⟩, ⟨rfl, rfl, trivial⟩⟩⟩
                · refine Ask.F rfl ?_
                  refine Ask.F rfl ?_
                  refine Ask.F rfl ?_
                  exact ⟨(false, (⟨4, (a0.extract (a1).toNat (y16).toNat), y18, a1⟩ : impl_Token)), h, ⟨rfl, ⟨rfl, rfl, rfl, trivial⟩, ⟨rfl, rfl, trivial⟩⟩⟩
              · exact ⟨(false, (⟨0, (a0.extract (a1).toNat ((w64 (a1 + 1))).toNat), 0, a1⟩ : impl_Token)), h, ⟨rfl, ⟨rfl, rfl, rfl, trivial⟩, ⟨rfl, rfl, trivial⟩⟩⟩
  · rintro ⟨v2, v3⟩ h e hp
    refine goS ?_
    exact retE (enc := impl_tokenAt.enc) h rfl
def impl_Lex.enc (r : List impl_Token × Int) : Res := ([(.d (.l true 4 (r.1.map impl_Token.e))), (.d (.p (.int .i64 r.2)))], [])
def impl_Lex.en (a0 : ByteArray) (r : List impl_Token × Int) (S : St) : Prop := endV tb md 58 Tryd.f58 [(.d (.p (.string a0)))] .ret S = some (impl_Lex.enc r)
def impl_Lex.l1 (a0 : ByteArray) (K : Nat) : Nat → Int → Option (Int)
  | 0, _ => none
  | k + 1, v13 => jn (fun (v15 : Bool) => if v15 = true then (impl_Lex.l1 a0 K k (w64 (v13 + 1))) else (some v13)) (fun j => if v13 < (a0.size : Int) then ((atS a0 v13).bind fun x17 => (j (!(decide ((x17.toNat : Int) = 10))))) else (j false))
def impl_Lex.l0 (a0 : ByteArray) (K : Nat) : Nat → Int → (List impl_Token) → Option ((List impl_Token × Int) ⊕ (List impl_Token))
  | 0, _, _ => none
  | k + 1, v3, v4 => if v3 < (a0.size : Int) then ((atS a0 v3).bind fun x7 => (jn (fun (v8 : Bool) => if v8 = true then (impl_Lex.l0 a0 K k (w64 (v3 + 1)) v4) else (if (x7.toNat : Int) = 35 then (jn (fun (v12 : Int) => impl_Lex.l0 a0 K k v12 v4) (fun j => (impl_Lex.l1 a0 K K v3).bind fun (v14 : Int) => j v14)) else ((impl_tokenAt.f K a0 v3).bind fun (y19, y20) => (if (!y20) = true then (some (.inl (([] : List impl_Token), v3))) else (gd ((v4.length + 1) * 40 ≤ 140737488355328) (impl_Lex.l0 a0 K k (w64 (v3 + (y19.Text.size : Int))) (v4 ++ ([y19] : List impl_Token)))))))) (fun j => if (x7.toNat : Int) = 32 then (j true) else (j (decide ((x7.toNat : Int) = 10)))))) else (some (.inr v4))
def impl_Lex.f  (K : Nat) (a0 : ByteArray) : Option (List impl_Token × Int) := if (a0.size : Int) > 4000 then (some (([] : List impl_Token), 4000)) else (jn (fun (v2 : List impl_Token) => some (v2, (-1))) (fun j => lb (impl_Lex.l0 a0 K K 0 ([] : List impl_Token)) (fun r => some r) (fun (v5 : List impl_Token) => j v5)))
theorem impl_Lex.ev   {K : Nat} {a0 : ByteArray} {r : List impl_Token × Int} (h : impl_Lex.f  K a0 = some r) : E 58 [(.d (.p (.string a0)))] = some ([(.d (.l true 4 (r.1.map impl_Token.e))), (.d (.p (.int .i64 r.2)))], []) := by
  refine Ev_intro (fn := Tryd.f58) rfl (by kernel_rfl) (c := _) rfl ⟨rfl, by simp⟩ rfl (evP_spec _ ?_)
  unfold impl_Lex.f at h
  refine goS ?_
  refine iteF h (fun c1 h => ?_) (fun c1 h => ?_)
  · exact retE (enc := impl_Lex.enc) h rfl
  · refine seqJ h 56 (fun x => [(4, (.own 4 1 2))]) (fun x => [(4, 1, 2, (some (.row true true 4 (x.map impl_Token.e))))]) (fun J h => ?_) ?_
    · refine loopB (α := Int × List impl_Token) (a := (0, ([] : List impl_Token))) 56 (fun x => [(0, (.d (.p (.string a0)))), (4, (.own 4 1 2)), (5, (.d (.p (.int .i64 x.1))))]) (fun x => [(4, 1, 2, (some (.row true true 4 (x.2.map impl_Token.e))))]) (fun k x => impl_Lex.l0 a0 K k x.1 x.2) (impl_Lex.en a0) 0 (fun x => [(4, (.own 4 1 2))]) (fun x => [(4, 1, 2, (some (.row true true 4 (x.map impl_Token.e))))]) h (fun _ => rfl) ?_ ⟨rfl, ⟨rfl, rfl, rfl, trivial⟩, ⟨rfl, trivial⟩⟩ ?_ ?_
      · rintro k ⟨v3, v4⟩ r h e hp
        replace h : impl_Lex.l0 a0 K (k + 1) v3 v4 = some r := h
        unfold impl_Lex.l0 at h
        refine goS ?_
        refine iteF h (fun c6 h => ?_) (fun c6 h => ?_)
        · refine goS ?_
          refine bindG h fun x7 hx7 h => ?_
          refine exM x7 hx7 ?_
          refine seqJ h 56 (fun x => [(0, (.d (.p (.string a0)))), (4, (.own 4 1 2)), (5, (.d (.p (.int .i64 v3)))), (17, (.d (.p (.int .u8 (x7.toNat : Int))))), (18, (.d (.p (.bool x))))]) (fun x => [(4, 1, 2, (some (.row true true 4 (v4.map impl_Token.e))))]) (fun J h => ?_) ?_
          · refine iteF h (fun c9 h => ?_) (fun c9 h => ?_)
            · exact ⟨true, h, ⟨rfl, ⟨rfl, rfl, rfl, rfl, rfl, trivial⟩, ⟨rfl, trivial⟩⟩⟩
            · exact ⟨(decide ((x7.toNat : Int) = 10)), h, ⟨rfl, ⟨rfl, rfl, rfl, rfl, rfl, trivial⟩, ⟨rfl, trivial⟩⟩⟩
          · rintro v8 h e hp
            refine ifB h (fun c10 h => ?_) (fun c10 h => ?_)
            · exact ⟨((w64 (v3 + 1)), v4), h, ⟨rfl, ⟨rfl, rfl, rfl, trivial⟩, ⟨rfl, trivial⟩⟩⟩
            · refine iteF h (fun c11 h => ?_) (fun c11 h => ?_)
              · refine seqJ h 56 (fun x => [(0, (.d (.p (.string a0)))), (4, (.own 4 1 2)), (5, (.d (.p (.int .i64 x))))]) (fun x => [(4, 1, 2, (some (.row true true 4 (v4.map impl_Token.e))))]) (fun J h => ?_) ?_
                · refine loopX (α := Int) (a := v3) 56 (fun x => [(0, (.d (.p (.string a0)))), (4, (.own 4 1 2)), (5, (.d (.p (.int .i64 x))))]) (fun x => [(4, 1, 2, (some (.row true true 4 (v4.map impl_Token.e))))]) (fun k x => impl_Lex.l1 a0 K k x) 3 (fun x => [(0, (.d (.p (.string a0)))), (4, (.own 4 1 2)), (5, (.d (.p (.int .i64 x))))]) (fun x => [(4, 1, 2, (some (.row true true 4 (v4.map impl_Token.e))))]) h (fun _ => rfl) ?_ ⟨rfl, ⟨rfl, rfl, rfl, trivial⟩, ⟨rfl, trivial⟩⟩ ?_
                  · rintro k v13 r h e hp
                    replace h : impl_Lex.l1 a0 K (k + 1) v13 = some r := h
                    unfold impl_Lex.l1 at h
                    refine goS ?_
                    refine seqJ h 56 (fun x => [(0, (.d (.p (.string a0)))), (4, (.own 4 1 2)), (5, (.d (.p (.int .i64 v13)))), (34, (.d (.p (.bool x))))]) (fun x => [(4, 1, 2, (some (.row true true 4 (v4.map impl_Token.e))))]) (fun J h => ?_) ?_
                    · refine iteF h (fun c16 h => ?_) (fun c16 h => ?_)
                      · refine Ask.T rfl ?_
                        refine Ask.T rfl ?_
                        refine bindG h fun x17 hx17 h => ?_
                        refine exM x17 hx17 ?_
                        refine Ask.T rfl ?_
                        refine Ask.T rfl ?_
                        exact ⟨(!(decide ((x17.toNat : Int) = 10))), h, ⟨rfl, ⟨rfl, rfl, rfl, rfl, trivial⟩, ⟨rfl, trivial⟩⟩⟩
                      · refine Ask.F rfl ?_
                        refine Ask.F rfl ?_
                        refine Ask.F rfl ?_
                        refine Ask.F rfl ?_
                        exact ⟨false, h, ⟨rfl, ⟨rfl, rfl, rfl, rfl, trivial⟩, ⟨rfl, trivial⟩⟩⟩
                    · rintro v15 h e hp
                      refine ifB h (fun c18 h => ?_) (fun c18 h => ?_)
                      · exact ⟨(w64 (v13 + 1)), h, ⟨rfl, ⟨rfl, rfl, rfl, trivial⟩, ⟨rfl, trivial⟩⟩⟩
                      · refine exQ h ?_
                        exact ⟨rfl, ⟨rfl, rfl, rfl, trivial⟩, ⟨rfl, trivial⟩⟩
                  · rintro v14 S' h ⟨qn, ⟨qa0, qa1, qa2, _⟩, ⟨qb0, _⟩⟩
                    exact ⟨v14, h, ⟨qn, ⟨qa0, qa1, qa2, trivial⟩, ⟨qb0, trivial⟩⟩⟩
                · rintro v12 h e hp
                  exact ⟨(v12, v4), h, ⟨rfl, ⟨rfl, rfl, rfl, trivial⟩, ⟨rfl, trivial⟩⟩⟩
              · refine goS ?_
                refine bindG h ?_
                rintro ⟨y19, y20⟩ hy21 h
                refine exM ([(.agg (y19.e.map .d)), (.d (.p (.bool y20)))], []) ?_ ?_
                · exact impl_tokenAt.ev hy21
                refine goS ?_
                refine ifB h (fun c22 h => ?_) (fun c22 h => ?_)
                · exact lqL h rfl
                · refine eqM (([y19] : List impl_Token).map impl_Token.e) rfl ?_
                  refine gdG h fun hc h => ?_
                  refine anM (apB hc) ?_
                  refine eqM ((v4 ++ ([y19] : List impl_Token)).map impl_Token.e) (mApp rfl rfl) ?_
                  exact ⟨((w64 (v3 + (y19.Text.size : Int))), (v4 ++ ([y19] : List impl_Token))), h, ⟨rfl, ⟨rfl, rfl, rfl, trivial⟩, ⟨rfl, trivial⟩⟩⟩
        · refine lqR h ?_
          exact ⟨rfl, ⟨rfl, trivial⟩, ⟨rfl, trivial⟩⟩
      · intro r' S' h q
        exact retE (enc := impl_Lex.enc) h q
      · rintro v5 S' h ⟨qn, ⟨qa0, _⟩, ⟨qb0, _⟩⟩
        exact ⟨v5, h, ⟨qn, ⟨qa0, trivial⟩, ⟨qb0, trivial⟩⟩⟩
    · rintro v2 h e hp
      exact retE (enc := impl_Lex.enc) h rfl
def impl_parser_fault.enc (r : impl_parser) : Res := ([], [(.ptr [(.d (.l true 4 (r.l.map impl_Token.e))), (.d (.p (.int .i64 r.at_))), (.d (.p (.int .i64 r.end_))), (.d (.p (.int .i64 r.code))), (.d (.p (.int .i64 r.spot))), (.own true 7 (r.out.map impl_Node.e))])])
def impl_parser_fault.f  (K : Nat) (a0 : impl_parser) (a1 : Int) (a2 : Int) : Option (impl_parser) := if a0.code = 0 then (some (⟨a0.l, a0.at_, a0.end_, a1, a2, a0.out⟩ : impl_parser)) else (some a0)
theorem impl_parser_fault.ev   {K : Nat} {a0 : impl_parser} {a1 : Int} {a2 : Int} {r : impl_parser} (h : impl_parser_fault.f  K a0 a1 a2 = some r) : E 93 [(.ptr [(.d (.l true 4 (a0.l.map impl_Token.e))), (.d (.p (.int .i64 a0.at_))), (.d (.p (.int .i64 a0.end_))), (.d (.p (.int .i64 a0.code))), (.d (.p (.int .i64 a0.spot))), (.own true 7 (a0.out.map impl_Node.e))]), (.d (.p (.int .i64 a1))), (.d (.p (.int .i64 a2)))] = some ([], [(.ptr [(.d (.l true 4 (r.l.map impl_Token.e))), (.d (.p (.int .i64 r.at_))), (.d (.p (.int .i64 r.end_))), (.d (.p (.int .i64 r.code))), (.d (.p (.int .i64 r.spot))), (.own true 7 (r.out.map impl_Node.e))])]) := by
  refine Ev_intro (fn := Tryd.f93) rfl (by kernel_rfl) (c := _) rfl ⟨rfl, by simp⟩ rfl (evP_spec _ ?_)
  unfold impl_parser_fault.f at h
  refine iteF h (fun c1 h => ?_) (fun c1 h => ?_)
  · exact retE (enc := impl_parser_fault.enc) h rfl
  · exact retE (enc := impl_parser_fault.enc) h rfl
def impl_parser_next.enc (r : impl_Token × Bool × impl_parser) : Res := ([(.agg (r.1.e.map .d)), (.d (.p (.bool r.2.1)))], [(.ptr [(.d (.l true 4 (r.2.2.l.map impl_Token.e))), (.d (.p (.int .i64 r.2.2.at_))), (.d (.p (.int .i64 r.2.2.end_))), (.d (.p (.int .i64 r.2.2.code))), (.d (.p (.int .i64 r.2.2.spot))), (.own true 7 (r.2.2.out.map impl_Node.e))])])
def impl_parser_next.f  (K : Nat) (a0 : impl_parser) : Option (impl_Token × Bool × impl_parser) := jn (fun (v1 : impl_parser) => if (!(decide (v1.code = 0))) = true then (some ((⟨0, (⟨#[]⟩ : ByteArray), 0, 0⟩ : impl_Token), false, v1)) else ((at_ v1.l (w64 ((w64 (v1.at_ + 1)) - 1))).bind fun x8 => (some (x8, true, (⟨v1.l, (w64 (v1.at_ + 1)), v1.end_, v1.code, v1.spot, v1.out⟩ : impl_parser))))) (fun j => jn (fun (v2 : Bool) => if v2 = true then ((impl_parser_fault.f K a0 2 a0.end_).bind fun y5 => (j y5)) else (j a0)) (fun j => if a0.code = 0 then (j (decide (a0.at_ ≥ (a0.l.length : Int)))) else (j false)))
theorem impl_parser_next.ev   {K : Nat} {a0 : impl_parser} {r : impl_Token × Bool × impl_parser} (h : impl_parser_next.f  K a0 = some r) : E 89 [(.ptr [(.d (.l true 4 (a0.l.map impl_Token.e))), (.d (.p (.int .i64 a0.at_))), (.d (.p (.int .i64 a0.end_))), (.d (.p (.int .i64 a0.code))), (.d (.p (.int .i64 a0.spot))), (.own true 7 (a0.out.map impl_Node.e))])] = some ([(.agg (r.1.e.map .d)), (.d (.p (.bool r.2.1)))], [(.ptr [(.d (.l true 4 (r.2.2.l.map impl_Token.e))), (.d (.p (.int .i64 r.2.2.at_))), (.d (.p (.int .i64 r.2.2.end_))), (.d (.p (.int .i64 r.2.2.code))), (.d (.p (.int .i64 r.2.2.spot))), (.own true 7 (r.2.2.out.map impl_Node.e))])]) := by
  refine Ev_intro (fn := Tryd.f89) rfl (by kernel_rfl) (c := _) rfl ⟨rfl, by simp⟩ rfl (evP_spec _ ?_)
  unfold impl_parser_next.f at h
  refine seqJ h 51 (fun x => [(0, (.ptr 51 0 1 0)), (2, (.ptr 2 0 2 0))]) (fun x => [(2, 0, 2, (some (.box [(.d (.p (.int .i64 0))), (.d (.p (.string (⟨#[]⟩ : ByteArray)))), (.d (.p (.int .i64 0))), (.d (.p (.int .i64 0)))]))), (51, 0, 1, (some (.box [(.d (.l true 4 (x.l.map impl_Token.e))), (.d (.p (.int .i64 x.at_))), (.d (.p (.int .i64 x.end_))), (.d (.p (.int .i64 x.code))), (.d (.p (.int .i64 x.spot))), (.own 51 1005 2)]))), (51, 1005, 2, (some (.row true true 7 (x.out.map impl_Node.e))))]) (fun J h => ?_) ?_
  · refine seqJ h 51 (fun x => [(0, (.ptr 51 0 1 0)), (2, (.ptr 2 0 2 0)), (20, (.d (.p (.bool x))))]) (fun x => [(2, 0, 2, (some (.box [(.d (.p (.int .i64 0))), (.d (.p (.string (⟨#[]⟩ : ByteArray)))), (.d (.p (.int .i64 0))), (.d (.p (.int .i64 0)))]))), (51, 0, 1, (some (.box [(.d (.l true 4 (a0.l.map impl_Token.e))), (.d (.p (.int .i64 a0.at_))), (.d (.p (.int .i64 a0.end_))), (.d (.p (.int .i64 a0.code))), (.d (.p (.int .i64 a0.spot))), (.own 51 1005 2)]))), (51, 1005, 2, (some (.row true true 7 (a0.out.map impl_Node.e))))]) (fun J h => ?_) ?_
    · refine ⟨[[], [], [], [], [], [], [], [15, 16, 17, 18], [15, 16, 17, 18], [15, 16, 17, 18], [], [11, 12, 13], [11, 12, 13], [11, 12, 13], [11, 12, 13], [], []], [], by kernel_rfl, ?_⟩
      refine iteF h (fun c3 h => ?_) (fun c3 h => ?_)
      · refine Ask.T rfl ?_
        refine Ask.T rfl ?_
        refine Ask.T rfl ?_
        refine Ask.T rfl ?_
        refine Ask.T rfl ?_
        refine Ask.T rfl ?_
        refine Ask.T rfl ?_
        refine Ask.T rfl ?_
        refine eqM ((a0.l.length : Int) : Int) (mLen rfl) ?_
        refine Ask.T rfl ?_
        refine Ask.T rfl ?_
        exact ⟨(decide (a0.at_ ≥ (a0.l.length : Int))), h, ⟨rfl, ⟨rfl, rfl, rfl, trivial⟩, ⟨rfl, rfl, rfl, trivial⟩⟩⟩
      · refine Ask.F rfl ?_
        refine Ask.F rfl ?_
        refine Ask.F rfl ?_
        refine Ask.F rfl ?_
        refine Ask.F rfl ?_
        refine Ask.F rfl ?_
        refine Ask.F rfl ?_
        refine Ask.F rfl ?_
        refine Ask.F rfl ?_
        refine Ask.F rfl ?_
        exact ⟨false, h, ⟨rfl, ⟨rfl, rfl, rfl, trivial⟩, ⟨rfl, rfl, rfl, trivial⟩⟩⟩
    · rintro v2 h e hp
      refine ifB h (fun c4 h => ?_) (fun c4 h => ?_)
      · refine bindG h fun y5 hy6 h => ?_
        refine exM ([], [(.ptr [(.d (.l true 4 (y5.l.map impl_Token.e))), (.d (.p (.int .i64 y5.at_))), (.d (.p (.int .i64 y5.end_))), (.d (.p (.int .i64 y5.code))), (.d (.p (.int .i64 y5.spot))), (.own true 7 (y5.out.map impl_Node.e))])]) ?_ ?_
        · exact impl_parser_fault.ev hy6
        exact ⟨y5, h, ⟨rfl, ⟨rfl, rfl, trivial⟩, ⟨rfl, rfl, rfl, trivial⟩⟩⟩
      · exact ⟨a0, h, ⟨rfl, ⟨rfl, rfl, trivial⟩, ⟨rfl, rfl, rfl, trivial⟩⟩⟩
  · rintro v1 h e hp
    refine goS ?_
    refine ifB h (fun c7 h => ?_) (fun c7 h => ?_)
    · refine goS ?_
      exact retE (enc := impl_parser_next.enc) h rfl
    · refine goS ?_
      refine goS ?_
      refine ⟨[[], [45, 46, 47], [45, 46, 47], [45, 46, 47], [], [41, 42, 43], [41, 42, 43], [41, 42, 43], [], [], [], [], []], [], by kernel_rfl, ?_⟩
      refine bindG h fun x8 hx8 h => ?_
      refine anM (at_ix rfl hx8) ?_
      refine exM (impl_Token.e x8) (at_get rfl hx8) ?_
      exact retE (enc := impl_parser_next.enc) h rfl
def impl_parser_put.enc (r : Int × impl_parser) : Res := ([(.d (.p (.int .i64 r.1)))], [(.ptr [(.d (.l true 4 (r.2.l.map impl_Token.e))), (.d (.p (.int .i64 r.2.at_))), (.d (.p (.int .i64 r.2.end_))), (.d (.p (.int .i64 r.2.code))), (.d (.p (.int .i64 r.2.spot))), (.own true 7 (r.2.out.map impl_Node.e))])])
def impl_parser_put.f  (K : Nat) (a0 : impl_parser) (a1 : impl_Node) : Option (Int × impl_parser) := gd ((a0.out.length + 1) * 72 ≤ 140737488355328) (some ((w64 (((a0.out ++ ([a1] : List impl_Node)).length : Int) - 1)), (⟨a0.l, a0.at_, a0.end_, a0.code, a0.spot, (a0.out ++ ([a1] : List impl_Node))⟩ : impl_parser)))
theorem impl_parser_put.ev   {K : Nat} {a0 : impl_parser} {a1 : impl_Node} {r : Int × impl_parser} (h : impl_parser_put.f  K a0 a1 = some r) : E 90 [(.ptr [(.d (.l true 4 (a0.l.map impl_Token.e))), (.d (.p (.int .i64 a0.at_))), (.d (.p (.int .i64 a0.end_))), (.d (.p (.int .i64 a0.code))), (.d (.p (.int .i64 a0.spot))), (.own true 7 (a0.out.map impl_Node.e))]), (.agg (a1.e.map .d))] = some ([(.d (.p (.int .i64 r.1)))], [(.ptr [(.d (.l true 4 (r.2.l.map impl_Token.e))), (.d (.p (.int .i64 r.2.at_))), (.d (.p (.int .i64 r.2.end_))), (.d (.p (.int .i64 r.2.code))), (.d (.p (.int .i64 r.2.spot))), (.own true 7 (r.2.out.map impl_Node.e))])]) := by
  refine Ev_intro (fn := Tryd.f90) rfl (by kernel_rfl) (c := _) rfl ⟨rfl, by simp⟩ rfl (evP_spec _ ?_)
  unfold impl_parser_put.f at h
  refine goS ?_
  refine ⟨[[], [], [10, 11], [10, 11], [10, 11], [7, 8, 9], [7, 8, 9], [], [], [], []], [], by kernel_rfl, ?_⟩
  refine eqM (([a1] : List impl_Node).map impl_Node.e) rfl ?_
  refine gdG h fun hc h => ?_
  refine anM (apB hc) ?_
  refine eqM ((a0.out ++ ([a1] : List impl_Node)).map impl_Node.e) (mApp rfl rfl) ?_
  refine eqM (((a0.out ++ ([a1] : List impl_Node)).length : Int) : Int) (mLen rfl) ?_
  exact retE (enc := impl_parser_put.enc) h rfl
def impl_IsKey.enc (r : Bool) : Res := ([(.d (.p (.bool r)))], [])
def impl_IsKey.en (a0 : ByteArray) (r : Bool) (S : St) : Prop := endV tb md 91 Tryd.f91 [(.d (.p (.string a0)))] .ret S = some (impl_IsKey.enc r)
def impl_IsKey.l0 (a0 : ByteArray) (y1 : List ByteArray) (K : Nat) : Nat → Int → Option (Bool ⊕ Unit)
  | 0, _ => none
  | k + 1, v3 => if v3 < (y1.length : Int) then ((at_ y1 v3).bind fun x5 => (if (x5.toList == a0.toList) = true then (some (.inl true)) else (impl_IsKey.l0 a0 y1 K k (w64 (v3 + 1))))) else (some (.inr ()))
def impl_IsKey.f  (K : Nat) (a0 : ByteArray) : Option (Bool) := jn (fun (_ : Unit) => some false) (fun j => (strings_Split.f (⟨#[102, 117, 110, 32, 97, 112, 112, 32, 108, 101, 116, 32, 114, 101, 99, 32, 105, 102, 32, 97, 100, 100, 32, 115, 117, 98, 32, 108, 101, 115, 115, 32, 115, 97, 109, 101, 32, 112, 97, 105, 114, 32, 102, 115, 116, 32, 115, 110, 100, 32, 110, 105, 108, 32, 99, 111, 110, 115, 32, 109, 97, 116, 99, 104, 32, 114, 101, 102, 32, 103, 101, 116, 32, 115, 101, 116, 32, 114, 97, 105, 115, 101, 32, 116, 114, 121]⟩ : ByteArray) (⟨#[32]⟩ : ByteArray)).bind fun y1 => (lb (impl_IsKey.l0 a0 y1 K K 0) (fun r => some r) (fun (_ : Unit) => j ())))
theorem impl_IsKey.ev   {K : Nat} {a0 : ByteArray} {r : Bool} (h : impl_IsKey.f  K a0 = some r) : E 91 [(.d (.p (.string a0)))] = some ([(.d (.p (.bool r)))], []) := by
  refine Ev_intro (fn := Tryd.f91) rfl (by kernel_rfl) (c := _) rfl ⟨rfl, by simp⟩ rfl (evP_spec _ ?_)
  unfold impl_IsKey.f at h
  refine seqJ h 15 (fun x => []) (fun x => []) (fun J h => ?_) ?_
  · refine bindG h fun y1 hy2 h => ?_
    refine exM ([(.own true 1 (y1.map eS))], []) ?_ ?_
    · exact strings_Split.ev hy2
    refine eqM ((y1.length : Int) : Int) (mLen rfl) ?_
    refine loopB (α := Int) (a := 0) 15 (fun x => [(0, (.d (.p (.string a0)))), (5, (.own 5 0 2)), (6, (.d (.p (.int .i64 (y1.length : Int))))), (7, (.d (.p (.int .i64 x))))]) (fun x => [(5, 0, 2, (some (.row true true 1 (y1.map eS))))]) (fun k x => impl_IsKey.l0 a0 y1 K k x) (impl_IsKey.en a0) 0 (fun x => []) (fun x => []) h (fun _ => rfl) ?_ ⟨rfl, ⟨rfl, rfl, rfl, rfl, trivial⟩, ⟨rfl, trivial⟩⟩ ?_ ?_
    · rintro k v3 r h e hp
      replace h : impl_IsKey.l0 a0 y1 K (k + 1) v3 = some r := h
      unfold impl_IsKey.l0 at h
      refine goS ?_
      refine iteF h (fun c4 h => ?_) (fun c4 h => ?_)
      · refine goS ?_
        refine bindG h fun x5 hx5 h => ?_
        refine anM (at_ix rfl hx5) ?_
        refine exM (eS x5) (at_get rfl hx5) ?_
        refine ifB h (fun c6 h => ?_) (fun c6 h => ?_)
        · exact lqL h rfl
        · exact ⟨(w64 (v3 + 1)), h, ⟨rfl, ⟨rfl, rfl, rfl, rfl, trivial⟩, ⟨rfl, trivial⟩⟩⟩
      · refine lqR h ?_
        exact ⟨rfl, trivial, trivial⟩
    · intro r' S' h q
      exact retE (enc := impl_IsKey.enc) h q
    · rintro _ S' h ⟨qn, ⟨_⟩, ⟨_⟩⟩
      exact ⟨(), h, ⟨qn, trivial, trivial⟩⟩
  · rintro _ h e hp
    exact retE (enc := impl_IsKey.enc) h rfl
def impl_plainForm.enc (r : impl_Node × ByteArray) : Res := ([(.agg (r.1.e.map .d)), (.d (.p (.string r.2)))], [])
def impl_plainForm.f  (K : Nat) (a0 : ByteArray) : Option (impl_Node × ByteArray) := if (a0.toList == (⟨#[112, 97, 105, 114]⟩ : ByteArray).toList) = true then (some ((⟨9, 0, 0, 0, 0, (⟨#[]⟩ : ByteArray), (⟨#[]⟩ : ByteArray)⟩ : impl_Node), (⟨#[101, 101]⟩ : ByteArray))) else (if (a0.toList == (⟨#[102, 115, 116]⟩ : ByteArray).toList) = true then (some ((⟨10, 0, 0, 0, 0, (⟨#[]⟩ : ByteArray), (⟨#[]⟩ : ByteArray)⟩ : impl_Node), (⟨#[101]⟩ : ByteArray))) else (if (a0.toList == (⟨#[115, 110, 100]⟩ : ByteArray).toList) = true then (some ((⟨11, 0, 0, 0, 0, (⟨#[]⟩ : ByteArray), (⟨#[]⟩ : ByteArray)⟩ : impl_Node), (⟨#[101]⟩ : ByteArray))) else (if (a0.toList == (⟨#[99, 111, 110, 115]⟩ : ByteArray).toList) = true then (some ((⟨13, 0, 0, 0, 0, (⟨#[]⟩ : ByteArray), (⟨#[]⟩ : ByteArray)⟩ : impl_Node), (⟨#[101, 101]⟩ : ByteArray))) else (if (a0.toList == (⟨#[114, 101, 102]⟩ : ByteArray).toList) = true then (some ((⟨15, 0, 0, 0, 0, (⟨#[]⟩ : ByteArray), (⟨#[]⟩ : ByteArray)⟩ : impl_Node), (⟨#[101]⟩ : ByteArray))) else (if (a0.toList == (⟨#[103, 101, 116]⟩ : ByteArray).toList) = true then (some ((⟨16, 0, 0, 0, 0, (⟨#[]⟩ : ByteArray), (⟨#[]⟩ : ByteArray)⟩ : impl_Node), (⟨#[101]⟩ : ByteArray))) else (if (a0.toList == (⟨#[115, 101, 116]⟩ : ByteArray).toList) = true then (some ((⟨17, 0, 0, 0, 0, (⟨#[]⟩ : ByteArray), (⟨#[]⟩ : ByteArray)⟩ : impl_Node), (⟨#[101, 101]⟩ : ByteArray))) else (if (a0.toList == (⟨#[114, 97, 105, 115, 101]⟩ : ByteArray).toList) = true then (some ((⟨18, 0, 0, 0, 0, (⟨#[]⟩ : ByteArray), (⟨#[]⟩ : ByteArray)⟩ : impl_Node), (⟨#[101]⟩ : ByteArray))) else (some ((⟨0, 0, 0, 0, 0, (⟨#[]⟩ : ByteArray), (⟨#[]⟩ : ByteArray)⟩ : impl_Node), (⟨#[]⟩ : ByteArray))))))))))
theorem impl_plainForm.ev   {K : Nat} {a0 : ByteArray} {r : impl_Node × ByteArray} (h : impl_plainForm.f  K a0 = some r) : E 105 [(.d (.p (.string a0)))] = some ([(.agg (r.1.e.map .d)), (.d (.p (.string r.2)))], []) := by
  refine Ev_intro (fn := Tryd.f105) rfl (by kernel_rfl) (c := _) rfl ⟨rfl, by simp⟩ rfl (evP_spec _ ?_)
  unfold impl_plainForm.f at h
  refine goS ?_
  refine ifB h (fun c1 h => ?_) (fun c1 h => ?_)
  · refine goS ?_
    exact retE (enc := impl_plainForm.enc) h rfl
  · refine ifB h (fun c2 h => ?_) (fun c2 h => ?_)
    · refine goS ?_
      exact retE (enc := impl_plainForm.enc) h rfl
    · refine ifB h (fun c3 h => ?_) (fun c3 h => ?_)
      · refine goS ?_
        exact retE (enc := impl_plainForm.enc) h rfl
      · refine ifB h (fun c4 h => ?_) (fun c4 h => ?_)
        · refine goS ?_
          exact retE (enc := impl_plainForm.enc) h rfl
        · refine ifB h (fun c5 h => ?_) (fun c5 h => ?_)
          · refine goS ?_
            exact retE (enc := impl_plainForm.enc) h rfl
          · refine ifB h (fun c6 h => ?_) (fun c6 h => ?_)
            · refine goS ?_
              exact retE (enc := impl_plainForm.enc) h rfl
            · refine ifB h (fun c7 h => ?_) (fun c7 h => ?_)
              · refine goS ?_
                exact retE (enc := impl_plainForm.enc) h rfl
              · refine ifB h (fun c8 h => ?_) (fun c8 h => ?_)
                · refine goS ?_
                  exact retE (enc := impl_plainForm.enc) h rfl
                · refine goS ?_
                  exact retE (enc := impl_plainForm.enc) h rfl
def impl_formOf.enc (r : impl_Node × ByteArray) : Res := ([(.agg (r.1.e.map .d)), (.d (.p (.string r.2)))], [])
def impl_formOf.f  (K : Nat) (a0 : ByteArray) : Option (impl_Node × ByteArray) := if (a0.toList == (⟨#[102, 117, 110]⟩ : ByteArray).toList) = true then (some ((⟨3, 0, 0, 0, 0, (⟨#[]⟩ : ByteArray), (⟨#[]⟩ : ByteArray)⟩ : impl_Node), (⟨#[110, 101]⟩ : ByteArray))) else (if (a0.toList == (⟨#[97, 112, 112]⟩ : ByteArray).toList) = true then (some ((⟨4, 0, 0, 0, 0, (⟨#[]⟩ : ByteArray), (⟨#[]⟩ : ByteArray)⟩ : impl_Node), (⟨#[101, 101]⟩ : ByteArray))) else (if (a0.toList == (⟨#[108, 101, 116]⟩ : ByteArray).toList) = true then (some ((⟨5, 0, 0, 0, 0, (⟨#[]⟩ : ByteArray), (⟨#[]⟩ : ByteArray)⟩ : impl_Node), (⟨#[110, 101, 101]⟩ : ByteArray))) else (if (a0.toList == (⟨#[114, 101, 99]⟩ : ByteArray).toList) = true then (some ((⟨6, 0, 0, 0, 0, (⟨#[]⟩ : ByteArray), (⟨#[]⟩ : ByteArray)⟩ : impl_Node), (⟨#[110, 110, 101, 101]⟩ : ByteArray))) else (if (a0.toList == (⟨#[105, 102]⟩ : ByteArray).toList) = true then (some ((⟨7, 0, 0, 0, 0, (⟨#[]⟩ : ByteArray), (⟨#[]⟩ : ByteArray)⟩ : impl_Node), (⟨#[101, 101, 101]⟩ : ByteArray))) else (if (a0.toList == (⟨#[97, 100, 100]⟩ : ByteArray).toList) = true then (some ((⟨8, 0, 0, 0, 0, (⟨#[]⟩ : ByteArray), (⟨#[]⟩ : ByteArray)⟩ : impl_Node), (⟨#[101, 101]⟩ : ByteArray))) else (if (a0.toList == (⟨#[115, 117, 98]⟩ : ByteArray).toList) = true then (some ((⟨8, 0, 0, 0, 1, (⟨#[]⟩ : ByteArray), (⟨#[]⟩ : ByteArray)⟩ : impl_Node), (⟨#[101, 101]⟩ : ByteArray))) else (if (a0.toList == (⟨#[108, 101, 115, 115]⟩ : ByteArray).toList) = true then (some ((⟨8, 0, 0, 0, 2, (⟨#[]⟩ : ByteArray), (⟨#[]⟩ : ByteArray)⟩ : impl_Node), (⟨#[101, 101]⟩ : ByteArray))) else (if (a0.toList == (⟨#[115, 97, 109, 101]⟩ : ByteArray).toList) = true then (some ((⟨8, 0, 0, 0, 3, (⟨#[]⟩ : ByteArray), (⟨#[]⟩ : ByteArray)⟩ : impl_Node), (⟨#[101, 101]⟩ : ByteArray))) else (if (a0.toList == (⟨#[109, 97, 116, 99, 104]⟩ : ByteArray).toList) = true then (some ((⟨14, 0, 0, 0, 0, (⟨#[]⟩ : ByteArray), (⟨#[]⟩ : ByteArray)⟩ : impl_Node), (⟨#[101, 101, 110, 110, 101]⟩ : ByteArray))) else (if (a0.toList == (⟨#[116, 114, 121]⟩ : ByteArray).toList) = true then (some ((⟨19, 0, 0, 0, 0, (⟨#[]⟩ : ByteArray), (⟨#[]⟩ : ByteArray)⟩ : impl_Node), (⟨#[101, 110, 101]⟩ : ByteArray))) else ((impl_plainForm.f K a0).bind fun (y12, y13) => (some (y12, y13)))))))))))))
theorem impl_formOf.ev   {K : Nat} {a0 : ByteArray} {r : impl_Node × ByteArray} (h : impl_formOf.f  K a0 = some r) : E 72 [(.d (.p (.string a0)))] = some ([(.agg (r.1.e.map .d)), (.d (.p (.string r.2)))], []) := by
  refine Ev_intro (fn := Tryd.f72) rfl (by kernel_rfl) (c := _) rfl ⟨rfl, by simp⟩ rfl (evP_spec _ ?_)
  unfold impl_formOf.f at h
  refine goS ?_
  refine ifB h (fun c1 h => ?_) (fun c1 h => ?_)
  · refine goS ?_
    exact retE (enc := impl_formOf.enc) h rfl
  · refine ifB h (fun c2 h => ?_) (fun c2 h => ?_)
    · refine goS ?_
      exact retE (enc := impl_formOf.enc) h rfl
    · refine ifB h (fun c3 h => ?_) (fun c3 h => ?_)
      · refine goS ?_
        exact retE (enc := impl_formOf.enc) h rfl
      · refine ifB h (fun c4 h => ?_) (fun c4 h => ?_)
        · refine goS ?_
          exact retE (enc := impl_formOf.enc) h rfl
        · refine ifB h (fun c5 h => ?_) (fun c5 h => ?_)
          · refine goS ?_
            exact retE (enc := impl_formOf.enc) h rfl
          · refine ifB h (fun c6 h => ?_) (fun c6 h => ?_)
            · refine goS ?_
              exact retE (enc := impl_formOf.enc) h rfl
            · refine ifB h (fun c7 h => ?_) (fun c7 h => ?_)
              · refine goS ?_
                exact retE (enc := impl_formOf.enc) h rfl
              · refine ifB h (fun c8 h => ?_) (fun c8 h => ?_)
                · refine goS ?_
                  exact retE (enc := impl_formOf.enc) h rfl
                · refine ifB h (fun c9 h => ?_) (fun c9 h => ?_)
                  · refine goS ?_
                    exact retE (enc := impl_formOf.enc) h rfl
                  · refine ifB h (fun c10 h => ?_) (fun c10 h => ?_)
                    · refine goS ?_
                      exact retE (enc := impl_formOf.enc) h rfl
                    · refine ifB h (fun c11 h => ?_) (fun c11 h => ?_)
                      · refine goS ?_
                        exact retE (enc := impl_formOf.enc) h rfl
                      · refine goS ?_
                        refine bindG h ?_
                        rintro ⟨y12, y13⟩ hy14 h
                        refine exM ([(.agg (y12.e.map .d)), (.d (.p (.string y13)))], []) ?_ ?_
                        · exact impl_plainForm.ev hy14
                        exact retE (enc := impl_formOf.enc) h rfl
def impl_parser_name.enc (r : ByteArray × impl_parser) : Res := ([(.d (.p (.string r.1)))], [(.ptr [(.d (.l true 4 (r.2.l.map impl_Token.e))), (.d (.p (.int .i64 r.2.at_))), (.d (.p (.int .i64 r.2.end_))), (.d (.p (.int .i64 r.2.code))), (.d (.p (.int .i64 r.2.spot))), (.own true 7 (r.2.out.map impl_Node.e))])])
def impl_parser_name.f  (K : Nat) (a0 : impl_parser) : Option (ByteArray × impl_parser) := (impl_parser_next.f K a0).bind fun (y1, y2, y3) => (jn (fun (v5 : impl_parser) => some (y1.Text, v5)) (fun j => jn (fun (v6 : Bool) => if v6 = true then ((impl_parser_fault.f K y3 3 y1.At).bind fun y12 => (j y12)) else (j y3)) (fun j => if y2 = true then (if (!(decide (y1.Kind = 3))) = true then (j true) else ((impl_IsKey.f K y1.Text).bind fun y9 => (j y9))) else (j false))))
theorem impl_parser_name.ev   {K : Nat} {a0 : impl_parser} {r : ByteArray × impl_parser} (h : impl_parser_name.f  K a0 = some r) : E 116 [(.ptr [(.d (.l true 4 (a0.l.map impl_Token.e))), (.d (.p (.int .i64 a0.at_))), (.d (.p (.int .i64 a0.end_))), (.d (.p (.int .i64 a0.code))), (.d (.p (.int .i64 a0.spot))), (.own true 7 (a0.out.map impl_Node.e))])] = some ([(.d (.p (.string r.1)))], [(.ptr [(.d (.l true 4 (r.2.l.map impl_Token.e))), (.d (.p (.int .i64 r.2.at_))), (.d (.p (.int .i64 r.2.end_))), (.d (.p (.int .i64 r.2.code))), (.d (.p (.int .i64 r.2.spot))), (.own true 7 (r.2.out.map impl_Node.e))])]) := by
  refine Ev_intro (fn := Tryd.f116) rfl (by kernel_rfl) (c := _) rfl ⟨rfl, by simp⟩ rfl (evP_spec _ ?_)
  unfold impl_parser_name.f at h
  refine goS ?_
  refine bindG h ?_
  rintro ⟨y1, y2, y3⟩ hy4 h
  refine exM ([(.agg (y1.e.map .d)), (.d (.p (.bool y2)))], [(.ptr [(.d (.l true 4 (y3.l.map impl_Token.e))), (.d (.p (.int .i64 y3.at_))), (.d (.p (.int .i64 y3.end_))), (.d (.p (.int .i64 y3.code))), (.d (.p (.int .i64 y3.spot))), (.own true 7 (y3.out.map impl_Node.e))])]) ?_ ?_
  · exact impl_parser_next.ev hy4
  refine seqJ h 27 (fun x => [(3, (.ptr 3 0 2 0))]) (fun x => [(3, 0, 2, (some (.box [(.d (.p (.int .i64 y1.Kind))), (.d (.p (.string y1.Text))), (.d (.p (.int .i64 y1.N))), (.d (.p (.int .i64 y1.At)))]))), (27, 0, 1, (some (.box [(.d (.l true 4 (x.l.map impl_Token.e))), (.d (.p (.int .i64 x.at_))), (.d (.p (.int .i64 x.end_))), (.d (.p (.int .i64 x.code))), (.d (.p (.int .i64 x.spot))), (.own 27 1005 2)]))), (27, 1005, 2, (some (.row true true 7 (x.out.map impl_Node.e))))]) (fun J h => ?_) ?_
  · refine seqJ h 27 (fun x => [(0, (.ptr 27 0 1 0)), (3, (.ptr 3 0 2 0)), (20, (.d (.p (.bool x))))]) (fun x => [(3, 0, 2, (some (.box [(.d (.p (.int .i64 y1.Kind))), (.d (.p (.string y1.Text))), (.d (.p (.int .i64 y1.N))), (.d (.p (.int .i64 y1.At)))]))), (27, 0, 1, (some (.box [(.d (.l true 4 (y3.l.map impl_Token.e))), (.d (.p (.int .i64 y3.at_))), (.d (.p (.int .i64 y3.end_))), (.d (.p (.int .i64 y3.code))), (.d (.p (.int .i64 y3.spot))), (.own 27 1005 2)]))), (27, 1005, 2, (some (.row true true 7 (y3.out.map impl_Node.e))))]) (fun J h => ?_) ?_
    · refine ifB h (fun c7 h => ?_) (fun c7 h => ?_)
      · refine Ask.T rfl ?_
        refine Ask.T rfl ?_
        refine Ask.T rfl ?_
        refine ifB h (fun c8 h => ?_) (fun c8 h => ?_)
        · refine Ask.T rfl ?_
          refine Ask.T rfl ?_
          refine Ask.T rfl ?_
          refine Ask.T rfl ?_
          refine Ask.T rfl ?_
          exact ⟨true, h, ⟨rfl, ⟨rfl, rfl, rfl, trivial⟩, ⟨rfl, rfl, rfl, trivial⟩⟩⟩
        · refine Ask.F rfl ?_
          refine Ask.F rfl ?_
          refine bindG h fun y9 hy10 h => ?_
          refine exM ([(.d (.p (.bool y9)))], []) ?_ ?_
          · exact impl_IsKey.ev hy10
          refine Ask.T rfl ?_
          refine Ask.F rfl ?_
          refine Ask.T rfl ?_
          exact ⟨y9, h, ⟨rfl, ⟨rfl, rfl, rfl, trivial⟩, ⟨rfl, rfl, rfl, trivial⟩⟩⟩
      · refine Ask.F rfl ?_
        refine Ask.F rfl ?_
        refine Ask.F rfl ?_
        refine Ask.F rfl ?_
        refine Ask.F rfl ?_
        exact ⟨false, h, ⟨rfl, ⟨rfl, rfl, rfl, trivial⟩, ⟨rfl, rfl, rfl, trivial⟩⟩⟩
    · rintro v6 h e hp
      refine ifB h (fun c11 h => ?_) (fun c11 h => ?_)
      · refine bindG h fun y12 hy13 h => ?_
        refine exM ([], [(.ptr [(.d (.l true 4 (y12.l.map impl_Token.e))), (.d (.p (.int .i64 y12.at_))), (.d (.p (.int .i64 y12.end_))), (.d (.p (.int .i64 y12.code))), (.d (.p (.int .i64 y12.spot))), (.own true 7 (y12.out.map impl_Node.e))])]) ?_ ?_
        · exact impl_parser_fault.ev hy13
        exact ⟨y12, h, ⟨rfl, ⟨rfl, trivial⟩, ⟨rfl, rfl, rfl, trivial⟩⟩⟩
      · exact ⟨y3, h, ⟨rfl, ⟨rfl, trivial⟩, ⟨rfl, rfl, rfl, trivial⟩⟩⟩
  · rintro v5 h e hp
    exact retE (enc := impl_parser_name.enc) h rfl
def impl_parser_form.enc (r : Int × impl_parser) : Res := ([(.d (.p (.int .i64 r.1)))], [(.ptr [(.d (.l true 4 (r.2.l.map impl_Token.e))), (.d (.p (.int .i64 r.2.at_))), (.d (.p (.int .i64 r.2.end_))), (.d (.p (.int .i64 r.2.code))), (.d (.p (.int .i64 r.2.spot))), (.own true 7 (r.2.out.map impl_Node.e))])])
def impl_parser_form.l0 (r_impl_parser_expr : impl_parser → Option (Int × impl_parser)) (y6 : ByteArray) (K : Nat) : Nat → Int → Int → impl_parser → impl_Node → Option (impl_parser × impl_Node)
  | 0, _, _, _, _ => none
  | k + 1, v17, v18, v19, v20 => jn (fun (v23 : Bool) => if v23 = true then (jn (fun (v26, v27, v28) => impl_parser_form.l0 r_impl_parser_expr y6 K k v26 (w64 (v18 + 1)) v27 v28) (fun j => (atS y6 v18).bind fun x29 => (if (x29.toNat : Int) = 110 then ((impl_parser_name.f K v19).bind fun (y31, y32) => (if (v20.Name.toList == (⟨#[]⟩ : ByteArray).toList) = true then (j (v17, y32, (⟨v20.Kind, v20.A, v20.B, v20.C, v20.N, y31, v20.Other⟩ : impl_Node))) else (j (v17, y32, (⟨v20.Kind, v20.A, v20.B, v20.C, v20.N, v20.Name, y31⟩ : impl_Node))))) else ((r_impl_parser_expr v19).bind fun (y35, y36) => (jn (fun (v38 : impl_Node) => j ((w64 (v17 + 1)), y36, v38)) (fun j => if v17 = 0 then (j (⟨v20.Kind, y35, v20.B, v20.C, v20.N, v20.Name, v20.Other⟩ : impl_Node)) else (if v17 = 1 then (j (⟨v20.Kind, v20.A, y35, v20.C, v20.N, v20.Name, v20.Other⟩ : impl_Node)) else (j (⟨v20.Kind, v20.A, v20.B, y35, v20.N, v20.Name, v20.Other⟩ : impl_Node))))))))) else (some (v19, v20))) (fun j => if v18 < (y6.size : Int) then (j (decide (v19.code = 0))) else (j false))
def impl_parser_form.b (r_impl_parser_expr : impl_parser → Option (Int × impl_parser)) (K : Nat) (a0 : impl_parser) : Option (Int × impl_parser) := (impl_parser_next.f K a0).bind fun (y1, y2, y3) => ((impl_formOf.f K y1.Text).bind fun (y5, y6) => (jn (fun (v8 : impl_parser) => jn (fun (v15, v16) => jn (fun (v41 : impl_parser) => (impl_parser_put.f K v41 v16).bind fun (y51, y52) => (some (y51, y52))) (fun j => (impl_parser_next.f K v15).bind fun (y42, y43, y44) => (jn (fun (v46 : Bool) => if v46 = true then ((impl_parser_fault.f K y44 3 y42.At).bind fun y49 => (j y49)) else (j y44)) (fun j => if y43 = true then (j (!(decide (y42.Kind = 2)))) else (j false))))) (fun j => (impl_parser_form.l0 r_impl_parser_expr y6 K K 0 0 v8 y5).bind fun (v21, v22) => j (v21, v22))) (fun j => jn (fun (v9 : Bool) => if v9 = true then ((impl_parser_fault.f K y3 3 y1.At).bind fun y13 => (j y13)) else (j y3)) (fun j => if y2 = true then (if (!(decide (y1.Kind = 3))) = true then (j true) else (j (y6.toList == (⟨#[]⟩ : ByteArray).toList))) else (j false)))))
theorem impl_parser_form.b_ev {r_impl_parser_expr : impl_parser → Option (Int × impl_parser)} (hr_impl_parser_expr : ∀ {a0 : impl_parser} {r : Int × impl_parser}, r_impl_parser_expr a0 = some r → E 59 [(.ptr [(.d (.l true 4 (a0.l.map impl_Token.e))), (.d (.p (.int .i64 a0.at_))), (.d (.p (.int .i64 a0.end_))), (.d (.p (.int .i64 a0.code))), (.d (.p (.int .i64 a0.spot))), (.own true 7 (a0.out.map impl_Node.e))])] = some ([(.d (.p (.int .i64 r.1)))], [(.ptr [(.d (.l true 4 (r.2.l.map impl_Token.e))), (.d (.p (.int .i64 r.2.at_))), (.d (.p (.int .i64 r.2.end_))), (.d (.p (.int .i64 r.2.code))), (.d (.p (.int .i64 r.2.spot))), (.own true 7 (r.2.out.map impl_Node.e))])])) {K : Nat} {a0 : impl_parser} {r : Int × impl_parser} (h : impl_parser_form.b r_impl_parser_expr K a0 = some r) : E 92 [(.ptr [(.d (.l true 4 (a0.l.map impl_Token.e))), (.d (.p (.int .i64 a0.at_))), (.d (.p (.int .i64 a0.end_))), (.d (.p (.int .i64 a0.code))), (.d (.p (.int .i64 a0.spot))), (.own true 7 (a0.out.map impl_Node.e))])] = some ([(.d (.p (.int .i64 r.1)))], [(.ptr [(.d (.l true 4 (r.2.l.map impl_Token.e))), (.d (.p (.int .i64 r.2.at_))), (.d (.p (.int .i64 r.2.end_))), (.d (.p (.int .i64 r.2.code))), (.d (.p (.int .i64 r.2.spot))), (.own true 7 (r.2.out.map impl_Node.e))])]) := by
  refine Ev_intro (fn := Tryd.f92) rfl (by kernel_rfl) (c := _) rfl ⟨rfl, by simp⟩ rfl (evP_spec _ ?_)
  unfold impl_parser_form.b at h
  refine goS ?_
  refine bindG h ?_
  rintro ⟨y1, y2, y3⟩ hy4 h
  refine exM ([(.agg (y1.e.map .d)), (.d (.p (.bool y2)))], [(.ptr [(.d (.l true 4 (y3.l.map impl_Token.e))), (.d (.p (.int .i64 y3.at_))), (.d (.p (.int .i64 y3.end_))), (.d (.p (.int .i64 y3.code))), (.d (.p (.int .i64 y3.spot))), (.own true 7 (y3.out.map impl_Node.e))])]) ?_ ?_
  · exact impl_parser_next.ev hy4
  refine goS ?_
  refine bindG h ?_
  rintro ⟨y5, y6⟩ hy7 h
  refine exM ([(.agg (y5.e.map .d)), (.d (.p (.string y6)))], []) ?_ ?_
  · exact impl_formOf.ev hy7
  refine seqJ h 97 (fun x => [(0, (.ptr 97 0 1 0)), (5, (.ptr 5 0 2 0)), (6, (.d (.p (.string y6))))]) (fun x => [(5, 0, 2, (some (.box [(.d (.p (.int .i64 y5.Kind))), (.d (.p (.int .i64 y5.A))), (.d (.p (.int .i64 y5.B))), (.d (.p (.int .i64 y5.C))), (.d (.p (.int .i64 y5.N))), (.d (.p (.string y5.Name))), (.d (.p (.string y5.Other)))]))), (97, 0, 1, (some (.box [(.d (.l true 4 (x.l.map impl_Token.e))), (.d (.p (.int .i64 x.at_))), (.d (.p (.int .i64 x.end_))), (.d (.p (.int .i64 x.code))), (.d (.p (.int .i64 x.spot))), (.own 97 1005 2)]))), (97, 1005, 2, (some (.row true true 7 (x.out.map impl_Node.e))))]) (fun J h => ?_) ?_
  · refine seqJ h 97 (fun x => [(0, (.ptr 97 0 1 0)), (3, (.ptr 3 0 2 0)), (5, (.ptr 5 0 2 0)), (6, (.d (.p (.string y6)))), (33, (.d (.p (.bool x))))]) (fun x => [(3, 0, 2, (some (.box [(.d (.p (.int .i64 y1.Kind))), (.d (.p (.string y1.Text))), (.d (.p (.int .i64 y1.N))), (.d (.p (.int .i64 y1.At)))]))), (5, 0, 2, (some (.box [(.d (.p (.int .i64 y5.Kind))), (.d (.p (.int .i64 y5.A))), (.d (.p (.int .i64 y5.B))), (.d (.p (.int .i64 y5.C))), (.d (.p (.int .i64 y5.N))), (.d (.p (.string y5.Name))), (.d (.p (.string y5.Other)))]))), (97, 0, 1, (some (.box [(.d (.l true 4 (y3.l.map impl_Token.e))), (.d (.p (.int .i64 y3.at_))), (.d (.p (.int .i64 y3.end_))), (.d (.p (.int .i64 y3.code))), (.d (.p (.int .i64 y3.spot))), (.own 97 1005 2)]))), (97, 1005, 2, (some (.row true true 7 (y3.out.map impl_Node.e))))]) (fun J h => ?_) ?_
    · refine ifB h (fun c10 h => ?_) (fun c10 h => ?_)
      · refine Ask.T rfl ?_
        refine Ask.T rfl ?_
        refine Ask.T rfl ?_
        refine ifB h (fun c11 h => ?_) (fun c11 h => ?_)
        · refine Ask.T rfl ?_
          refine Ask.T rfl ?_
          refine Ask.T rfl ?_
          refine Ask.T rfl ?_
          exact ⟨true, h, ⟨rfl, ⟨rfl, rfl, rfl, rfl, rfl, trivial⟩, ⟨rfl, rfl, rfl, rfl, trivial⟩⟩⟩
        · refine Ask.F rfl ?_
          refine Ask.T rfl ?_
          refine Ask.F rfl ?_
          refine Ask.T rfl ?_
          exact ⟨(y6.toList == (⟨#[]⟩ : ByteArray).toList), h, ⟨rfl, ⟨rfl, rfl, rfl, rfl, rfl, trivial⟩, ⟨rfl, rfl, rfl, rfl, trivial⟩⟩⟩
      · refine Ask.F rfl ?_
        refine Ask.F rfl ?_
        refine Ask.F rfl ?_
        refine Ask.F rfl ?_
        refine Ask.F rfl ?_
        exact ⟨false, h, ⟨rfl, ⟨rfl, rfl, rfl, rfl, rfl, trivial⟩, ⟨rfl, rfl, rfl, rfl, trivial⟩⟩⟩
    · rintro v9 h e hp
      refine ifB h (fun c12 h => ?_) (fun c12 h => ?_)
      · refine bindG h fun y13 hy14 h => ?_
        refine exM ([], [(.ptr [(.d (.l true 4 (y13.l.map impl_Token.e))), (.d (.p (.int .i64 y13.at_))), (.d (.p (.int .i64 y13.end_))), (.d (.p (.int .i64 y13.code))), (.d (.p (.int .i64 y13.spot))), (.own true 7 (y13.out.map impl_Node.e))])]) ?_ ?_
        · exact impl_parser_fault.ev hy14
        exact ⟨y13, h, ⟨rfl, ⟨rfl, rfl, rfl, trivial⟩, ⟨rfl, rfl, rfl, trivial⟩⟩⟩
      · exact ⟨y3, h, ⟨rfl, ⟨rfl, rfl, rfl, trivial⟩, ⟨rfl, rfl, rfl, trivial⟩⟩⟩
  · rintro v8 h e hp
    refine seqJ h 97 (fun x => [(0, (.ptr 97 0 1 0)), (5, (.ptr 5 0 2 0))]) (fun x => [(5, 0, 2, (some (.box [(.d (.p (.int .i64 x.2.Kind))), (.d (.p (.int .i64 x.2.A))), (.d (.p (.int .i64 x.2.B))), (.d (.p (.int .i64 x.2.C))), (.d (.p (.int .i64 x.2.N))), (.d (.p (.string x.2.Name))), (.d (.p (.string x.2.Other)))]))), (97, 0, 1, (some (.box [(.d (.l true 4 (x.1.l.map impl_Token.e))), (.d (.p (.int .i64 x.1.at_))), (.d (.p (.int .i64 x.1.end_))), (.d (.p (.int .i64 x.1.code))), (.d (.p (.int .i64 x.1.spot))), (.own 97 1005 2)]))), (97, 1005, 2, (some (.row true true 7 (x.1.out.map impl_Node.e))))]) (fun J h => ?_) ?_
    · refine loopX (α := Int × Int × impl_parser × impl_Node) (a := (0, 0, v8, y5)) 97 (fun x => [(0, (.ptr 97 0 1 0)), (5, (.ptr 5 0 2 0)), (6, (.d (.p (.string y6)))), (7, (.d (.p (.int .i64 x.1)))), (8, (.d (.p (.int .i64 x.2.1))))]) (fun x => [(5, 0, 2, (some (.box [(.d (.p (.int .i64 x.2.2.2.Kind))), (.d (.p (.int .i64 x.2.2.2.A))), (.d (.p (.int .i64 x.2.2.2.B))), (.d (.p (.int .i64 x.2.2.2.C))), (.d (.p (.int .i64 x.2.2.2.N))), (.d (.p (.string x.2.2.2.Name))), (.d (.p (.string x.2.2.2.Other)))]))), (97, 0, 1, (some (.box [(.d (.l true 4 (x.2.2.1.l.map impl_Token.e))), (.d (.p (.int .i64 x.2.2.1.at_))), (.d (.p (.int .i64 x.2.2.1.end_))), (.d (.p (.int .i64 x.2.2.1.code))), (.d (.p (.int .i64 x.2.2.1.spot))), (.own 97 1005 2)]))), (97, 1005, 2, (some (.row true true 7 (x.2.2.1.out.map impl_Node.e))))]) (fun k x => impl_parser_form.l0 r_impl_parser_expr y6 K k x.1 x.2.1 x.2.2.1 x.2.2.2) 0 (fun x => [(0, (.ptr 97 0 1 0)), (5, (.ptr 5 0 2 0))]) (fun x => [(5, 0, 2, (some (.box [(.d (.p (.int .i64 x.2.Kind))), (.d (.p (.int .i64 x.2.A))), (.d (.p (.int .i64 x.2.B))), (.d (.p (.int .i64 x.2.C))), (.d (.p (.int .i64 x.2.N))), (.d (.p (.string x.2.Name))), (.d (.p (.string x.2.Other)))]))), (97, 0, 1, (some (.box [(.d (.l true 4 (x.1.l.map impl_Token.e))), (.d (.p (.int .i64 x.1.at_))), (.d (.p (.int .i64 x.1.end_))), (.d (.p (.int .i64 x.1.code))), (.d (.p (.int .i64 x.1.spot))), (.own 97 1005 2)]))), (97, 1005, 2, (some (.row true true 7 (x.1.out.map impl_Node.e))))]) h (fun _ => rfl) ?_ ⟨rfl, ⟨rfl, rfl, rfl, rfl, rfl, trivial⟩, ⟨rfl, rfl, rfl, trivial⟩⟩ ?_
      · rintro k ⟨v17, v18, v19, v20⟩ r h e hp
        replace h : impl_parser_form.l0 r_impl_parser_expr y6 K (k + 1) v17 v18 v19 v20 = some r := h
        unfold impl_parser_form.l0 at h
        refine goS ?_
        refine seqJ h 97 (fun x => [(0, (.ptr 97 0 1 0)), (5, (.ptr 5 0 2 0)), (6, (.d (.p (.string y6)))), (7, (.d (.p (.int .i64 v17)))), (8, (.d (.p (.int .i64 v18)))), (48, (.d (.p (.bool x))))]) (fun x => [(5, 0, 2, (some (.box [(.d (.p (.int .i64 v20.Kind))), (.d (.p (.int .i64 v20.A))), (.d (.p (.int .i64 v20.B))), (.d (.p (.int .i64 v20.C))), (.d (.p (.int .i64 v20.N))), (.d (.p (.string v20.Name))), (.d (.p (.string v20.Other)))]))), (97, 0, 1, (some (.box [(.d (.l true 4 (v19.l.map impl_Token.e))), (.d (.p (.int .i64 v19.at_))), (.d (.p (.int .i64 v19.end_))), (.d (.p (.int .i64 v19.code))), (.d (.p (.int .i64 v19.spot))), (.own 97 1005 2)]))), (97, 1005, 2, (some (.row true true 7 (v19.out.map impl_Node.e))))]) (fun J h => ?_) ?_
        · refine iteF h (fun c24 h => ?_) (fun c24 h => ?_)
          · refine Ask.T rfl ?_
            refine Ask.T rfl ?_
            refine Ask.T rfl ?_
            refine Ask.T rfl ?_
            refine Ask.T rfl ?_
            exact ⟨(decide (v19.code = 0)), h, ⟨rfl, ⟨rfl, rfl, rfl, rfl, rfl, rfl, trivial⟩, ⟨rfl, rfl, rfl, trivial⟩⟩⟩
          · refine Ask.F rfl ?_
            refine Ask.F rfl ?_
            refine Ask.F rfl ?_
            refine Ask.F rfl ?_
            refine Ask.F rfl ?_
            exact ⟨false, h, ⟨rfl, ⟨rfl, rfl, rfl, rfl, rfl, rfl, trivial⟩, ⟨rfl, rfl, rfl, trivial⟩⟩⟩
        · rintro v23 h e hp
          refine ifB h (fun c25 h => ?_) (fun c25 h => ?_)
          · refine seqJ h 97 (fun x => [(0, (.ptr 97 0 1 0)), (5, (.ptr 5 0 2 0)), (6, (.d (.p (.string y6)))), (7, (.d (.p (.int .i64 x.1)))), (8, (.d (.p (.int .i64 v18))))]) (fun x => [(5, 0, 2, (some (.box [(.d (.p (.int .i64 x.2.2.Kind))), (.d (.p (.int .i64 x.2.2.A))), (.d (.p (.int .i64 x.2.2.B))), (.d (.p (.int .i64 x.2.2.C))), (.d (.p (.int .i64 x.2.2.N))), (.d (.p (.string x.2.2.Name))), (.d (.p (.string x.2.2.Other)))]))), (97, 0, 1, (some (.box [(.d (.l true 4 (x.2.1.l.map impl_Token.e))), (.d (.p (.int .i64 x.2.1.at_))), (.d (.p (.int .i64 x.2.1.end_))), (.d (.p (.int .i64 x.2.1.code))), (.d (.p (.int .i64 x.2.1.spot))), (.own 97 1005 2)]))), (97, 1005, 2, (some (.row true true 7 (x.2.1.out.map impl_Node.e))))]) (fun J h => ?_) ?_
            · refine goS ?_
              refine bindG h fun x29 hx29 h => ?_
              refine exM x29 hx29 ?_
              refine iteF h (fun c30 h => ?_) (fun c30 h => ?_)
              · refine bindG h ?_
                rintro ⟨y31, y32⟩ hy33 h
                refine exM ([(.d (.p (.string y31)))], [(.ptr [(.d (.l true 4 (y32.l.map impl_Token.e))), (.d (.p (.int .i64 y32.at_))), (.d (.p (.int .i64 y32.end_))), (.d (.p (.int .i64 y32.code))), (.d (.p (.int .i64 y32.spot))), (.own true 7 (y32.out.map impl_Node.e))])]) ?_ ?_
                · exact impl_parser_name.ev hy33
                refine goS ?_
                refine ifB h (fun c34 h => ?_) (fun c34 h => ?_)
                · exact ⟨(v17, y32, (⟨v20.Kind, v20.A, v20.B, v20.C, v20.N, y31, v20.Other⟩ : impl_Node)), h, ⟨rfl, ⟨rfl, rfl, rfl, rfl, rfl, trivial⟩, ⟨rfl, rfl, rfl, trivial⟩⟩⟩
                · exact ⟨(v17, y32, (⟨v20.Kind, v20.A, v20.B, v20.C, v20.N, v20.Name, y31⟩ : impl_Node)), h, ⟨rfl, ⟨rfl, rfl, rfl, rfl, rfl, trivial⟩, ⟨rfl, rfl, rfl, trivial⟩⟩⟩
              · refine bindG h ?_
                rintro ⟨y35, y36⟩ hy37 h
                refine exM ([(.d (.p (.int .i64 y35)))], [(.ptr [(.d (.l true 4 (y36.l.map impl_Token.e))), (.d (.p (.int .i64 y36.at_))), (.d (.p (.int .i64 y36.end_))), (.d (.p (.int .i64 y36.code))), (.d (.p (.int .i64 y36.spot))), (.own true 7 (y36.out.map impl_Node.e))])]) ?_ ?_
                · exact hr_impl_parser_expr hy37
                refine seqJ h 97 (fun x => [(0, (.ptr 97 0 1 0)), (5, (.ptr 5 0 2 0)), (6, (.d (.p (.string y6)))), (7, (.d (.p (.int .i64 v17)))), (8, (.d (.p (.int .i64 v18))))]) (fun x => [(5, 0, 2, (some (.box [(.d (.p (.int .i64 x.Kind))), (.d (.p (.int .i64 x.A))), (.d (.p (.int .i64 x.B))), (.d (.p (.int .i64 x.C))), (.d (.p (.int .i64 x.N))), (.d (.p (.string x.Name))), (.d (.p (.string x.Other)))]))), (97, 0, 1, (some (.box [(.d (.l true 4 (y36.l.map impl_Token.e))), (.d (.p (.int .i64 y36.at_))), (.d (.p (.int .i64 y36.end_))), (.d (.p (.int .i64 y36.code))), (.d (.p (.int .i64 y36.spot))), (.own 97 1005 2)]))), (97, 1005, 2, (some (.row true true 7 (y36.out.map impl_Node.e))))]) (fun J h => ?_) ?_
                · refine iteF h (fun c39 h => ?_) (fun c39 h => ?_)
                  · exact ⟨(⟨v20.Kind, y35, v20.B, v20.C, v20.N, v20.Name, v20.Other⟩ : impl_Node), h, ⟨rfl, ⟨rfl, rfl, rfl, rfl, rfl, trivial⟩, ⟨rfl, rfl, rfl, trivial⟩⟩⟩
                  · refine iteF h (fun c40 h => ?_) (fun c40 h => ?_)
                    · exact ⟨(⟨v20.Kind, v20.A, y35, v20.C, v20.N, v20.Name, v20.Other⟩ : impl_Node), h, ⟨rfl, ⟨rfl, rfl, rfl, rfl, rfl, trivial⟩, ⟨rfl, rfl, rfl, trivial⟩⟩⟩
                    · exact ⟨(⟨v20.Kind, v20.A, v20.B, y35, v20.N, v20.Name, v20.Other⟩ : impl_Node), h, ⟨rfl, ⟨rfl, rfl, rfl, rfl, rfl, trivial⟩, ⟨rfl, rfl, rfl, trivial⟩⟩⟩
                · rintro v38 h e hp
                  exact ⟨((w64 (v17 + 1)), y36, v38), h, ⟨rfl, ⟨rfl, rfl, rfl, rfl, rfl, trivial⟩, ⟨rfl, rfl, rfl, trivial⟩⟩⟩
            · rintro ⟨v26, v27, v28⟩ h e hp
              exact ⟨(v26, (w64 (v18 + 1)), v27, v28), h, ⟨rfl, ⟨rfl, rfl, rfl, rfl, rfl, trivial⟩, ⟨rfl, rfl, rfl, trivial⟩⟩⟩
          · refine exQ h ?_
            exact ⟨rfl, ⟨rfl, rfl, trivial⟩, ⟨rfl, rfl, rfl, trivial⟩⟩
      · rintro ⟨v21, v22⟩ S' h ⟨qn, ⟨qa0, qa1, _⟩, ⟨qb0, qb1, qb2, _⟩⟩
        exact ⟨(v21, v22), h, ⟨qn, ⟨qa0, qa1, trivial⟩, ⟨qb0, qb1, qb2, trivial⟩⟩⟩
    · rintro ⟨v15, v16⟩ h e hp
      refine seqJ h 97 (fun x => [(0, (.ptr 97 0 1 0)), (5, (.ptr 5 0 2 0))]) (fun x => [(5, 0, 2, (some (.box [(.d (.p (.int .i64 v16.Kind))), (.d (.p (.int .i64 v16.A))), (.d (.p (.int .i64 v16.B))), (.d (.p (.int .i64 v16.C))), (.d (.p (.int .i64 v16.N))), (.d (.p (.string v16.Name))), (.d (.p (.string v16.Other)))]))), (97, 0, 1, (some (.box [(.d (.l true 4 (x.l.map impl_Token.e))), (.d (.p (.int .i64 x.at_))), (.d (.p (.int .i64 x.end_))), (.d (.p (.int .i64 x.code))), (.d (.p (.int .i64 x.spot))), (.own 97 1005 2)]))), (97, 1005, 2, (some (.row true true 7 (x.out.map impl_Node.e))))]) (fun J h => ?_) ?_
      · refine goS ?_
        refine bindG h ?_
        rintro ⟨y42, y43, y44⟩ hy45 h
        refine exM ([(.agg (y42.e.map .d)), (.d (.p (.bool y43)))], [(.ptr [(.d (.l true 4 (y44.l.map impl_Token.e))), (.d (.p (.int .i64 y44.at_))), (.d (.p (.int .i64 y44.end_))), (.d (.p (.int .i64 y44.code))), (.d (.p (.int .i64 y44.spot))), (.own true 7 (y44.out.map impl_Node.e))])]) ?_ ?_
        · exact impl_parser_next.ev hy45
        refine seqJ h 97 (fun x => [(0, (.ptr 97 0 1 0)), (5, (.ptr 5 0 2 0)), (11, (.ptr 11 0 2 0)), (89, (.d (.p (.bool x))))]) (fun x => [(5, 0, 2, (some (.box [(.d (.p (.int .i64 v16.Kind))), (.d (.p (.int .i64 v16.A))), (.d (.p (.int .i64 v16.B))), (.d (.p (.int .i64 v16.C))), (.d (.p (.int .i64 v16.N))), (.d (.p (.string v16.Name))), (.d (.p (.string v16.Other)))]))), (11, 0, 2, (some (.box [(.d (.p (.int .i64 y42.Kind))), (.d (.p (.string y42.Text))), (.d (.p (.int .i64 y42.N))), (.d (.p (.int .i64 y42.At)))]))), (97, 0, 1, (some (.box [(.d (.l true 4 (y44.l.map impl_Token.e))), (.d (.p (.int .i64 y44.at_))), (.d (.p (.int .i64 y44.end_))), (.d (.p (.int .i64 y44.code))), (.d (.p (.int .i64 y44.spot))), (.own 97 1005 2)]))), (97, 1005, 2, (some (.row true true 7 (y44.out.map impl_Node.e))))]) (fun J h => ?_) ?_
        · refine ifB h (fun c47 h => ?_) (fun c47 h => ?_)
          · refine Ask.T rfl ?_
            refine Ask.T rfl ?_
            refine Ask.T rfl ?_
            exact ⟨(!(decide (y42.Kind = 2))), h, ⟨rfl, ⟨rfl, rfl, rfl, rfl, trivial⟩, ⟨rfl, rfl, rfl, rfl, trivial⟩⟩⟩
          · refine Ask.F rfl ?_
            refine Ask.F rfl ?_
            refine Ask.F rfl ?_
            exact ⟨false, h, ⟨rfl, ⟨rfl, rfl, rfl, rfl, trivial⟩, ⟨rfl, rfl, rfl, rfl, trivial⟩⟩⟩
        · rintro v46 h e hp
          refine ifB h (fun c48 h => ?_) (fun c48 h => ?_)
          · refine bindG h fun y49 hy50 h => ?_
            refine exM ([], [(.ptr [(.d (.l true 4 (y49.l.map impl_Token.e))), (.d (.p (.int .i64 y49.at_))), (.d (.p (.int .i64 y49.end_))), (.d (.p (.int .i64 y49.code))), (.d (.p (.int .i64 y49.spot))), (.own true 7 (y49.out.map impl_Node.e))])]) ?_ ?_
            · exact impl_parser_fault.ev hy50
            exact ⟨y49, h, ⟨rfl, ⟨rfl, rfl, trivial⟩, ⟨rfl, rfl, rfl, trivial⟩⟩⟩
          · exact ⟨y44, h, ⟨rfl, ⟨rfl, rfl, trivial⟩, ⟨rfl, rfl, rfl, trivial⟩⟩⟩
      · rintro v41 h e hp
        refine bindG h ?_
        rintro ⟨y51, y52⟩ hy53 h
        refine exM ([(.d (.p (.int .i64 y51)))], [(.ptr [(.d (.l true 4 (y52.l.map impl_Token.e))), (.d (.p (.int .i64 y52.at_))), (.d (.p (.int .i64 y52.end_))), (.d (.p (.int .i64 y52.code))), (.d (.p (.int .i64 y52.spot))), (.own true 7 (y52.out.map impl_Node.e))])]) ?_ ?_
        · exact impl_parser_put.ev hy53
        exact retE (enc := impl_parser_form.enc) h rfl
def impl_parser_expr.enc (r : Int × impl_parser) : Res := ([(.d (.p (.int .i64 r.1)))], [(.ptr [(.d (.l true 4 (r.2.l.map impl_Token.e))), (.d (.p (.int .i64 r.2.at_))), (.d (.p (.int .i64 r.2.end_))), (.d (.p (.int .i64 r.2.code))), (.d (.p (.int .i64 r.2.spot))), (.own true 7 (r.2.out.map impl_Node.e))])])
def impl_parser_expr.b (r_impl_parser_expr : impl_parser → Option (Int × impl_parser)) (K : Nat) (a0 : impl_parser) : Option (Int × impl_parser) := (impl_parser_next.f K a0).bind fun (y1, y2, y3) => (if (!y2) = true then (some (0, y3)) else (if y1.Kind = 4 then ((impl_parser_put.f K y3 (⟨2, 0, 0, 0, y1.N, (⟨#[]⟩ : ByteArray), (⟨#[]⟩ : ByteArray)⟩ : impl_Node)).bind fun (y7, y8) => (some (y7, y8))) else (jn (fun (v10 : Bool) => if v10 = true then ((impl_parser_put.f K y3 (⟨12, 0, 0, 0, 0, (⟨#[]⟩ : ByteArray), (⟨#[]⟩ : ByteArray)⟩ : impl_Node)).bind fun (y13, y14) => (some (y13, y14))) else (jn (fun (v16 : Bool) => if v16 = true then ((impl_parser_put.f K y3 (⟨1, 0, 0, 0, 0, y1.Text, (⟨#[]⟩ : ByteArray)⟩ : impl_Node)).bind fun (y21, y22) => (some (y21, y22))) else (if y1.Kind = 1 then ((impl_parser_form.b r_impl_parser_expr K y3).bind fun (y25, y26) => (some (y25, y26))) else ((impl_parser_fault.f K y3 3 y1.At).bind fun y28 => (some (0, y28))))) (fun j => if y1.Kind = 3 then ((impl_IsKey.f K y1.Text).bind fun y18 => (j (!y18))) else (j false)))) (fun j => if y1.Kind = 3 then (j (y1.Text.toList == (⟨#[110, 105, 108]⟩ : ByteArray).toList)) else (j false)))))
theorem impl_parser_expr.b_ev {r_impl_parser_expr : impl_parser → Option (Int × impl_parser)} (hr_impl_parser_expr : ∀ {a0 : impl_parser} {r : Int × impl_parser}, r_impl_parser_expr a0 = some r → E 59 [(.ptr [(.d (.l true 4 (a0.l.map impl_Token.e))), (.d (.p (.int .i64 a0.at_))), (.d (.p (.int .i64 a0.end_))), (.d (.p (.int .i64 a0.code))), (.d (.p (.int .i64 a0.spot))), (.own true 7 (a0.out.map impl_Node.e))])] = some ([(.d (.p (.int .i64 r.1)))], [(.ptr [(.d (.l true 4 (r.2.l.map impl_Token.e))), (.d (.p (.int .i64 r.2.at_))), (.d (.p (.int .i64 r.2.end_))), (.d (.p (.int .i64 r.2.code))), (.d (.p (.int .i64 r.2.spot))), (.own true 7 (r.2.out.map impl_Node.e))])])) {K : Nat} {a0 : impl_parser} {r : Int × impl_parser} (h : impl_parser_expr.b r_impl_parser_expr K a0 = some r) : E 59 [(.ptr [(.d (.l true 4 (a0.l.map impl_Token.e))), (.d (.p (.int .i64 a0.at_))), (.d (.p (.int .i64 a0.end_))), (.d (.p (.int .i64 a0.code))), (.d (.p (.int .i64 a0.spot))), (.own true 7 (a0.out.map impl_Node.e))])] = some ([(.d (.p (.int .i64 r.1)))], [(.ptr [(.d (.l true 4 (r.2.l.map impl_Token.e))), (.d (.p (.int .i64 r.2.at_))), (.d (.p (.int .i64 r.2.end_))), (.d (.p (.int .i64 r.2.code))), (.d (.p (.int .i64 r.2.spot))), (.own true 7 (r.2.out.map impl_Node.e))])]) := by
  refine Ev_intro (fn := Tryd.f59) rfl (by kernel_rfl) (c := _) rfl ⟨rfl, by simp⟩ rfl (evP_spec _ ?_)
  unfold impl_parser_expr.b at h
  refine goS ?_
  refine bindG h ?_
  rintro ⟨y1, y2, y3⟩ hy4 h
  refine exM ([(.agg (y1.e.map .d)), (.d (.p (.bool y2)))], [(.ptr [(.d (.l true 4 (y3.l.map impl_Token.e))), (.d (.p (.int .i64 y3.at_))), (.d (.p (.int .i64 y3.end_))), (.d (.p (.int .i64 y3.code))), (.d (.p (.int .i64 y3.spot))), (.own true 7 (y3.out.map impl_Node.e))])]) ?_ ?_
  · exact impl_parser_next.ev hy4
  refine goS ?_
  refine ifB h (fun c5 h => ?_) (fun c5 h => ?_)
  · exact retE (enc := impl_parser_expr.enc) h rfl
  · refine goS ?_
    refine iteF h (fun c6 h => ?_) (fun c6 h => ?_)
    · refine bindG h ?_
      rintro ⟨y7, y8⟩ hy9 h
      refine exM ([(.d (.p (.int .i64 y7)))], [(.ptr [(.d (.l true 4 (y8.l.map impl_Token.e))), (.d (.p (.int .i64 y8.at_))), (.d (.p (.int .i64 y8.end_))), (.d (.p (.int .i64 y8.code))), (.d (.p (.int .i64 y8.spot))), (.own true 7 (y8.out.map impl_Node.e))])]) ?_ ?_
      · exact impl_parser_put.ev hy9
      exact retE (enc := impl_parser_expr.enc) h rfl
    · refine seqJ h 58 (fun x => [(0, (.ptr 58 0 1 0)), (3, (.ptr 3 0 2 0)), (21, (.d (.p (.bool x))))]) (fun x => [(3, 0, 2, (some (.box [(.d (.p (.int .i64 y1.Kind))), (.d (.p (.string y1.Text))), (.d (.p (.int .i64 y1.N))), (.d (.p (.int .i64 y1.At)))]))), (58, 0, 1, (some (.box [(.d (.l true 4 (y3.l.map impl_Token.e))), (.d (.p (.int .i64 y3.at_))), (.d (.p (.int .i64 y3.end_))), (.d (.p (.int .i64 y3.code))), (.d (.p (.int .i64 y3.spot))), (.own 58 1005 2)]))), (58, 1005, 2, (some (.row true true 7 (y3.out.map impl_Node.e))))]) (fun J h => ?_) ?_
      · refine iteF h (fun c11 h => ?_) (fun c11 h => ?_)
        · refine Ask.T rfl ?_
          refine Ask.T rfl ?_
          refine Ask.T rfl ?_
          exact ⟨(y1.Text.toList == (⟨#[110, 105, 108]⟩ : ByteArray).toList), h, ⟨rfl, ⟨rfl, rfl, rfl, trivial⟩, ⟨rfl, rfl, rfl, trivial⟩⟩⟩
        · refine Ask.F rfl ?_
          refine Ask.F rfl ?_
          refine Ask.F rfl ?_
          exact ⟨false, h, ⟨rfl, ⟨rfl, rfl, rfl, trivial⟩, ⟨rfl, rfl, rfl, trivial⟩⟩⟩
      · rintro v10 h e hp
        refine ifB h (fun c12 h => ?_) (fun c12 h => ?_)
        · refine bindG h ?_
          rintro ⟨y13, y14⟩ hy15 h
          refine exM ([(.d (.p (.int .i64 y13)))], [(.ptr [(.d (.l true 4 (y14.l.map impl_Token.e))), (.d (.p (.int .i64 y14.at_))), (.d (.p (.int .i64 y14.end_))), (.d (.p (.int .i64 y14.code))), (.d (.p (.int .i64 y14.spot))), (.own true 7 (y14.out.map impl_Node.e))])]) ?_ ?_
          · exact impl_parser_put.ev hy15
          exact retE (enc := impl_parser_expr.enc) h rfl
        · refine seqJ h 58 (fun x => [(0, (.ptr 58 0 1 0)), (3, (.ptr 3 0 2 0)), (33, (.d (.p (.bool x))))]) (fun x => [(3, 0, 2, (some (.box [(.d (.p (.int .i64 y1.Kind))), (.d (.p (.string y1.Text))), (.d (.p (.int .i64 y1.N))), (.d (.p (.int .i64 y1.At)))]))), (58, 0, 1, (some (.box [(.d (.l true 4 (y3.l.map impl_Token.e))), (.d (.p (.int .i64 y3.at_))), (.d (.p (.int .i64 y3.end_))), (.d (.p (.int .i64 y3.code))), (.d (.p (.int .i64 y3.spot))), (.own 58 1005 2)]))), (58, 1005, 2, (some (.row true true 7 (y3.out.map impl_Node.e))))]) (fun J h => ?_) ?_
          · refine iteF h (fun c17 h => ?_) (fun c17 h => ?_)
            · refine Ask.T rfl ?_
              refine Ask.T rfl ?_
              refine bindG h fun y18 hy19 h => ?_
              refine exM ([(.d (.p (.bool y18)))], []) ?_ ?_
              · exact impl_IsKey.ev hy19
              refine Ask.T rfl ?_
              refine Ask.T rfl ?_
              exact ⟨(!y18), h, ⟨rfl, ⟨rfl, rfl, rfl, trivial⟩, ⟨rfl, rfl, rfl, trivial⟩⟩⟩
            · refine Ask.F rfl ?_
              refine Ask.F rfl ?_
              refine Ask.F rfl ?_
              refine Ask.F rfl ?_
              exact ⟨false, h, ⟨rfl, ⟨rfl, rfl, rfl, trivial⟩, ⟨rfl, rfl, rfl, trivial⟩⟩⟩
          · rintro v16 h e hp
            refine ifB h (fun c20 h => ?_) (fun c20 h => ?_)
            · refine bindG h ?_
              rintro ⟨y21, y22⟩ hy23 h
              refine exM ([(.d (.p (.int .i64 y21)))], [(.ptr [(.d (.l true 4 (y22.l.map impl_Token.e))), (.d (.p (.int .i64 y22.at_))), (.d (.p (.int .i64 y22.end_))), (.d (.p (.int .i64 y22.code))), (.d (.p (.int .i64 y22.spot))), (.own true 7 (y22.out.map impl_Node.e))])]) ?_ ?_
              · exact impl_parser_put.ev hy23
              exact retE (enc := impl_parser_expr.enc) h rfl
            · refine iteF h (fun c24 h => ?_) (fun c24 h => ?_)
              · refine bindG h ?_
                rintro ⟨y25, y26⟩ hy27 h
                refine exM ([(.d (.p (.int .i64 y25)))], [(.ptr [(.d (.l true 4 (y26.l.map impl_Token.e))), (.d (.p (.int .i64 y26.at_))), (.d (.p (.int .i64 y26.end_))), (.d (.p (.int .i64 y26.code))), (.d (.p (.int .i64 y26.spot))), (.own true 7 (y26.out.map impl_Node.e))])]) ?_ ?_
                · exact impl_parser_form.b_ev hr_impl_parser_expr hy27
                exact retE (enc := impl_parser_expr.enc) h rfl
              · refine bindG h fun y28 hy29 h => ?_
                refine exM ([], [(.ptr [(.d (.l true 4 (y28.l.map impl_Token.e))), (.d (.p (.int .i64 y28.at_))), (.d (.p (.int .i64 y28.end_))), (.d (.p (.int .i64 y28.code))), (.d (.p (.int .i64 y28.spot))), (.own true 7 (y28.out.map impl_Node.e))])]) ?_ ?_
                · exact impl_parser_fault.ev hy29
                exact retE (enc := impl_parser_expr.enc) h rfl
def impl_parser_expr.r (K : Nat) : Nat → impl_parser → Option (Int × impl_parser)
  | 0, _ => none
  | d + 1, a0 => impl_parser_expr.b (impl_parser_expr.r K d) K a0
theorem impl_parser_expr.r_ev {K : Nat} : ∀ (d : Nat) {a0 : impl_parser} {r : Int × impl_parser}, impl_parser_expr.r K d a0 = some r → E 59 [(.ptr [(.d (.l true 4 (a0.l.map impl_Token.e))), (.d (.p (.int .i64 a0.at_))), (.d (.p (.int .i64 a0.end_))), (.d (.p (.int .i64 a0.code))), (.d (.p (.int .i64 a0.spot))), (.own true 7 (a0.out.map impl_Node.e))])] = some ([(.d (.p (.int .i64 r.1)))], [(.ptr [(.d (.l true 4 (r.2.l.map impl_Token.e))), (.d (.p (.int .i64 r.2.at_))), (.d (.p (.int .i64 r.2.end_))), (.d (.p (.int .i64 r.2.code))), (.d (.p (.int .i64 r.2.spot))), (.own true 7 (r.2.out.map impl_Node.e))])]) := by
  intro d
  induction d with
  | zero => intro a0 r h; cases h
  | succ d ih => intro a0 r h; exact impl_parser_expr.b_ev ih h
def impl_parser_expr.f (K : Nat) (a0 : impl_parser) : Option (Int × impl_parser) := impl_parser_expr.r K K a0
theorem impl_parser_expr.ev {K : Nat} {a0 : impl_parser} {r : Int × impl_parser} (h : impl_parser_expr.f K a0 = some r) : E 59 [(.ptr [(.d (.l true 4 (a0.l.map impl_Token.e))), (.d (.p (.int .i64 a0.at_))), (.d (.p (.int .i64 a0.end_))), (.d (.p (.int .i64 a0.code))), (.d (.p (.int .i64 a0.spot))), (.own true 7 (a0.out.map impl_Node.e))])] = some ([(.d (.p (.int .i64 r.1)))], [(.ptr [(.d (.l true 4 (r.2.l.map impl_Token.e))), (.d (.p (.int .i64 r.2.at_))), (.d (.p (.int .i64 r.2.end_))), (.d (.p (.int .i64 r.2.code))), (.d (.p (.int .i64 r.2.spot))), (.own true 7 (r.2.out.map impl_Node.e))])]) := impl_parser_expr.r_ev K h
def impl_Parse.enc (r : List impl_Node × Int × Int) : Res := ([(.own true 7 (r.1.map impl_Node.e)), (.d (.p (.int .i64 r.2.1))), (.d (.p (.int .i64 r.2.2)))], [])
def impl_Parse.f  (K : Nat) (a0 : ByteArray) : Option (List impl_Node × Int × Int) := (impl_Lex.f K a0).bind fun (y1, y2) => (if y2 ≥ 0 then (some (([] : List impl_Node), 1, y2)) else ((impl_parser_expr.f K (⟨y1, 0, (a0.size : Int), 0, 0, ([] : List impl_Node)⟩ : impl_parser)).bind fun (y5, y6) => (if (!(decide (y6.code = 0))) = true then (some (([] : List impl_Node), y6.code, y6.spot)) else (if y6.at_ < (y1.length : Int) then ((at_ y1 y6.at_).bind fun x10 => (some (([] : List impl_Node), 4, x10.At))) else (if (y6.out.length : Int) > 150 then (some (([] : List impl_Node), 5, 0)) else (some (y6.out, 0, 0)))))))
theorem impl_Parse.ev   {K : Nat} {a0 : ByteArray} {r : List impl_Node × Int × Int} (h : impl_Parse.f  K a0 = some r) : E 30 [(.d (.p (.string a0)))] = some ([(.own true 7 (r.1.map impl_Node.e)), (.d (.p (.int .i64 r.2.1))), (.d (.p (.int .i64 r.2.2)))], []) := by
  refine Ev_intro (fn := Tryd.f30) rfl (by kernel_rfl) (c := _) rfl ⟨rfl, by simp⟩ rfl (evP_spec _ ?_)
  unfold impl_Parse.f at h
  refine bindG h ?_
  rintro ⟨y1, y2⟩ hy3 h
  refine exM ([(.d (.l true 4 (y1.map impl_Token.e))), (.d (.p (.int .i64 y2)))], []) ?_ ?_
  · exact impl_Lex.ev hy3
  refine goS ?_
  refine iteF h (fun c4 h => ?_) (fun c4 h => ?_)
  · exact retE (enc := impl_Parse.enc) h rfl
  · refine bindG h ?_
    rintro ⟨y5, y6⟩ hy7 h
    refine exM ([(.d (.p (.int .i64 y5)))], [(.ptr [(.d (.l true 4 (y6.l.map impl_Token.e))), (.d (.p (.int .i64 y6.at_))), (.d (.p (.int .i64 y6.end_))), (.d (.p (.int .i64 y6.code))), (.d (.p (.int .i64 y6.spot))), (.own true 7 (y6.out.map impl_Node.e))])]) ?_ ?_
    · exact impl_parser_expr.ev hy7
    refine goS ?_
    refine ifB h (fun c8 h => ?_) (fun c8 h => ?_)
    · refine ⟨[[], [34, 35, 36, 2], [34, 35, 36, 2], [34, 35, 36, 2], [], [30, 31, 32, 2, 3], [30, 31, 32, 2, 3], [30, 31, 32, 2, 3], [30, 999999, 7, 20, 31, 999999, 7, 20, 32, 999999, 7, 20, 34, 999999, 7, 20, 35, 999999, 7, 20, 36, 999999, 7, 20], [34, 999999, 7, 20, 35, 999999, 7, 20, 36, 999999, 7, 20], []], [[], [999999, 7, 20], [999999, 7, 20], [999999, 7, 20], [], [999999, 7, 20], [999999, 7, 20], [999999, 7, 20], [], [], []], by kernel_rfl, ?_⟩
      exact retE (enc := impl_Parse.enc) h rfl
    · refine eqM ((y1.length : Int) : Int) (mLen rfl) ?_
      refine iteF h (fun c9 h => ?_) (fun c9 h => ?_)
      · refine ⟨[[], [], [2, 3], [2, 3], [2, 3], [2, 3], [2, 3], [2, 3], [47, 999999, 7, 20, 48, 999999, 7, 20, 49, 999999, 7, 20, 50, 999999, 5, 49, 51, 999999, 5, 52, 999999, 5], [47, 999999, 7, 20, 48, 999999, 7, 20, 49, 999999, 7, 20, 50, 999999, 5, 49, 51, 999999, 5, 52, 999999, 5], []], [[], [], [999999, 7, 20], [999999, 7, 20], [999999, 7, 20], [999999, 5, 49], [999999, 5], [999999, 5], [], [], []], by kernel_rfl, ?_⟩
        refine bindG h fun x10 hx10 h => ?_
        refine anM (at_ix rfl hx10) ?_
        refine exM (impl_Token.e x10) (at_get rfl hx10) ?_
        exact retE (enc := impl_Parse.enc) h rfl
      · refine eqM ((y6.out.length : Int) : Int) (mLen rfl) ?_
        refine iteF h (fun c11 h => ?_) (fun c11 h => ?_)
        · exact retE (enc := impl_Parse.enc) h rfl
        · exact retE (enc := impl_Parse.enc) h rfl
def laws_eqNode.enc (r : Bool) : Res := ([(.d (.p (.bool r)))], [])
def laws_eqNode.f  (K : Nat) (a0 : impl_Node) (a1 : impl_Node) : Option (Bool) := if (!(decide (a0.Kind = a1.Kind))) = true then (some false) else (if (!(decide (a0.A = a1.A))) = true then (some false) else (if (!(decide (a0.B = a1.B))) = true then (some false) else (if (!(decide (a0.C = a1.C))) = true then (some false) else (if (!(decide (a0.N = a1.N))) = true then (some false) else (if (!(a0.Name.toList == a1.Name.toList)) = true then (some false) else (if (!(a0.Other.toList == a1.Other.toList)) = true then (some false) else (some true)))))))
theorem laws_eqNode.ev   {K : Nat} {a0 : impl_Node} {a1 : impl_Node} {r : Bool} (h : laws_eqNode.f  K a0 a1 = some r) : E 60 [(.agg (a0.e.map .d)), (.agg (a1.e.map .d))] = some ([(.d (.p (.bool r)))], []) := by
  refine Ev_intro (fn := Tryd.f60) rfl (by kernel_rfl) (c := _) rfl ⟨rfl, by simp⟩ rfl (evP_spec _ ?_)
  unfold laws_eqNode.f at h
  refine goS ?_
  refine ifB h (fun c1 h => ?_) (fun c1 h => ?_)
  · exact retE (enc := laws_eqNode.enc) h rfl
  · refine goS ?_
    refine ifB h (fun c2 h => ?_) (fun c2 h => ?_)
    · exact retE (enc := laws_eqNode.enc) h rfl
    · refine goS ?_
      refine ifB h (fun c3 h => ?_) (fun c3 h => ?_)
      · exact retE (enc := laws_eqNode.enc) h rfl
      · refine goS ?_
        refine ifB h (fun c4 h => ?_) (fun c4 h => ?_)
        · exact retE (enc := laws_eqNode.enc) h rfl
        · refine goS ?_
          refine ifB h (fun c5 h => ?_) (fun c5 h => ?_)
          · exact retE (enc := laws_eqNode.enc) h rfl
          · refine goS ?_
            refine ifB h (fun c6 h => ?_) (fun c6 h => ?_)
            · exact retE (enc := laws_eqNode.enc) h rfl
            · refine goS ?_
              refine ifB h (fun c7 h => ?_) (fun c7 h => ?_)
              · exact retE (enc := laws_eqNode.enc) h rfl
              · exact retE (enc := laws_eqNode.enc) h rfl
def laws_eqNodeS.enc (r : Bool) : Res := ([(.d (.p (.bool r)))], [])
def laws_eqNodeS.en (a0 : List impl_Node) (a1 : List impl_Node) (r : Bool) (S : St) : Prop := endV tb md 31 Tryd.f31 [(.d (.l true 7 (a0.map impl_Node.e))), (.d (.l true 7 (a1.map impl_Node.e)))] .ret S = some (laws_eqNodeS.enc r)
def laws_eqNodeS.l0 (a0 : List impl_Node) (a1 : List impl_Node) (K : Nat) : Nat → Int → Option (Bool ⊕ Unit)
  | 0, _ => none
  | k + 1, v2 => if v2 < (a0.length : Int) then ((at_ a0 v2).bind fun x4 => ((at_ a1 v2).bind fun x5 => ((laws_eqNode.f K x4 x5).bind fun y6 => (if (!y6) = true then (some (.inl false)) else (laws_eqNodeS.l0 a0 a1 K k (w64 (v2 + 1))))))) else (some (.inr ()))
def laws_eqNodeS.f  (K : Nat) (a0 : List impl_Node) (a1 : List impl_Node) : Option (Bool) := if (!(decide ((a0.length : Int) = (a1.length : Int)))) = true then (some false) else (jn (fun (_ : Unit) => some true) (fun j => lb (laws_eqNodeS.l0 a0 a1 K K 0) (fun r => some r) (fun (_ : Unit) => j ())))
theorem laws_eqNodeS.ev   {K : Nat} {a0 : List impl_Node} {a1 : List impl_Node} {r : Bool} (h : laws_eqNodeS.f  K a0 a1 = some r) : E 31 [(.d (.l true 7 (a0.map impl_Node.e))), (.d (.l true 7 (a1.map impl_Node.e)))] = some ([(.d (.p (.bool r)))], []) := by
  refine Ev_intro (fn := Tryd.f31) rfl (by kernel_rfl) (c := _) rfl ⟨rfl, by simp⟩ rfl (evP_spec _ ?_)
  unfold laws_eqNodeS.f at h
  refine goS ?_
  refine eqM ((a0.length : Int) : Int) (mLen rfl) ?_
  refine eqM ((a1.length : Int) : Int) (mLen rfl) ?_
  refine ifB h (fun c1 h => ?_) (fun c1 h => ?_)
  · exact retE (enc := laws_eqNodeS.enc) h rfl
  · refine seqJ h 27 (fun x => []) (fun x => []) (fun J h => ?_) ?_
    · refine loopB (α := Int) (a := 0) 27 (fun x => [(0, (.d (.l true 7 (a0.map impl_Node.e)))), (1, (.d (.l true 7 (a1.map impl_Node.e)))), (5, (.d (.p (.int .i64 x))))]) (fun x => []) (fun k x => laws_eqNodeS.l0 a0 a1 K k x) (laws_eqNodeS.en a0 a1) 0 (fun x => []) (fun x => []) h (fun _ => rfl) ?_ ⟨rfl, ⟨rfl, rfl, rfl, trivial⟩, trivial⟩ ?_ ?_
      · rintro k v2 r h e hp
        replace h : laws_eqNodeS.l0 a0 a1 K (k + 1) v2 = some r := h
        unfold laws_eqNodeS.l0 at h
        refine goS ?_
        refine eqM ((a0.length : Int) : Int) (mLen rfl) ?_
        refine iteF h (fun c3 h => ?_) (fun c3 h => ?_)
        · refine goS ?_
          refine ⟨[[], [], [23, 24], [23, 24], [], [], [19, 20], [19, 20], [], []], [], by kernel_rfl, ?_⟩
          refine bindG h fun x4 hx4 h => ?_
          refine anM (at_ix rfl hx4) ?_
          refine exM (impl_Node.e x4) (at_get rfl hx4) ?_
          refine bindG h fun x5 hx5 h => ?_
          refine anM (at_ix rfl hx5) ?_
          refine exM (impl_Node.e x5) (at_get rfl hx5) ?_
          refine bindG h fun y6 hy7 h => ?_
          refine exM ([(.d (.p (.bool y6)))], []) ?_ ?_
          · exact laws_eqNode.ev hy7
          refine ifB h (fun c8 h => ?_) (fun c8 h => ?_)
          · exact lqL h rfl
          · exact ⟨(w64 (v2 + 1)), h, ⟨rfl, ⟨rfl, rfl, rfl, trivial⟩, trivial⟩⟩
        · refine lqR h ?_
          exact ⟨rfl, trivial, trivial⟩
      · intro r' S' h q
        exact retE (enc := laws_eqNodeS.enc) h q
      · rintro _ S' h ⟨qn, ⟨_⟩, ⟨_⟩⟩
        exact ⟨(), h, ⟨qn, trivial, trivial⟩⟩
    · rintro _ h e hp
      exact retE (enc := laws_eqNodeS.enc) h rfl
def laws_markText.enc (r : ByteArray) : Res := ([(.d (.p (.string r)))], [])
def laws_markText.l0 (K : Nat) : Nat → Int → ByteArray → Option (ByteArray)
  | 0, _, _ => none
  | k + 1, v3, v4 => if v3 > 0 then (gd ((strOfNums ([(IntKind.u8.wrap (w64 (48 + (Int.tmod v3 10))))] : List Int)).size + v4.size ≤ 9223372036854775807) (laws_markText.l0 K k (w64 (Int.tdiv v3 10)) ((strOfNums ([(IntKind.u8.wrap (w64 (48 + (Int.tmod v3 10))))] : List Int)) ++ v4))) else (some v4)
def laws_markText.f  (K : Nat) (a0 : Int) : Option (ByteArray) := if a0 ≤ 0 then (some (⟨#[109, 48]⟩ : ByteArray)) else (jn (fun (v2 : ByteArray) => gd ((⟨#[109]⟩ : ByteArray).size + v2.size ≤ 9223372036854775807) (some ((⟨#[109]⟩ : ByteArray) ++ v2))) (fun j => (laws_markText.l0 K K a0 (⟨#[]⟩ : ByteArray)).bind fun (v5 : ByteArray) => j v5))
theorem laws_markText.ev   {K : Nat} {a0 : Int} {r : ByteArray} (h : laws_markText.f  K a0 = some r) : E 61 [(.d (.p (.int .i64 a0)))] = some ([(.d (.p (.string r)))], []) := by
  refine Ev_intro (fn := Tryd.f61) rfl (by kernel_rfl) (c := _) rfl ⟨rfl, by simp⟩ rfl (evP_spec _ ?_)
  unfold laws_markText.f at h
  refine goS ?_
  refine iteF h (fun c1 h => ?_) (fun c1 h => ?_)
  · exact retE (enc := laws_markText.enc) h rfl
  · refine seqJ h 20 (fun x => [(3, (.d (.p (.string x))))]) (fun x => []) (fun J h => ?_) ?_
    · refine loopX (α := Int × ByteArray) (a := (a0, (⟨#[]⟩ : ByteArray))) 20 (fun x => [(0, (.d (.p (.int .i64 x.1)))), (3, (.d (.p (.string x.2))))]) (fun x => []) (fun k x => laws_markText.l0 K k x.1 x.2) 0 (fun x => [(3, (.d (.p (.string x))))]) (fun x => []) h (fun _ => rfl) ?_ ⟨rfl, ⟨rfl, rfl, trivial⟩, trivial⟩ ?_
      · rintro k ⟨v3, v4⟩ r h e hp
        replace h : laws_markText.l0 K (k + 1) v3 v4 = some r := h
        unfold laws_markText.l0 at h
        refine goS ?_
        refine iteF h (fun c6 h => ?_) (fun c6 h => ?_)
        · refine anM (by decide) ?_
          refine eqM (([(IntKind.u8.wrap (w64 (48 + (Int.tmod v3 10))))] : List Int).map eY) rfl ?_
          refine exM ([(IntKind.u8.wrap (w64 (48 + (Int.tmod v3 10))))] : List Int) (numsOf_map _) ?_
          refine gdG h fun hc h => ?_
          refine anM hc ?_
          refine anM (by decide) ?_
          exact ⟨((w64 (Int.tdiv v3 10)), ((strOfNums ([(IntKind.u8.wrap (w64 (48 + (Int.tmod v3 10))))] : List Int)) ++ v4)), h, ⟨rfl, ⟨rfl, rfl, trivial⟩, trivial⟩⟩
        · refine exQ h ?_
          exact ⟨rfl, ⟨rfl, trivial⟩, trivial⟩
      · rintro v5 S' h ⟨qn, ⟨qa0, _⟩, ⟨_⟩⟩
        exact ⟨v5, h, ⟨qn, ⟨qa0, trivial⟩, trivial⟩⟩
    · rintro v2 h e hp
      refine gdG h fun hc h => ?_
      refine anM hc ?_
      exact retE (enc := laws_markText.enc) h rfl
def laws_markNodeS.enc (r : Int × List impl_Node) : Res := ([(.d (.p (.int .i64 r.1)))], [(.own true 7 (r.2.map impl_Node.e))])
def laws_markNodeS.l0 (K : Nat) : Nat → Int → Int → (List impl_Node) → Option (Int × List impl_Node)
  | 0, _, _, _ => none
  | k + 1, v3, v4, v5 => if v4 < (v5.length : Int) then ((at_ v5 v4).bind fun x9 => ((at_ (v5.set (v4).toNat (⟨v3, x9.A, x9.B, x9.C, x9.N, x9.Name, x9.Other⟩ : impl_Node)) v4).bind fun x10 => ((at_ ((v5.set (v4).toNat (⟨v3, x9.A, x9.B, x9.C, x9.N, x9.Name, x9.Other⟩ : impl_Node)).set (v4).toNat (⟨x10.Kind, (w64 (v3 + 1)), x10.B, x10.C, x10.N, x10.Name, x10.Other⟩ : impl_Node)) v4).bind fun x11 => ((at_ (((v5.set (v4).toNat (⟨v3, x9.A, x9.B, x9.C, x9.N, x9.Name, x9.Other⟩ : impl_Node)).set (v4).toNat (⟨x10.Kind, (w64 (v3 + 1)), x10.B, x10.C, x10.N, x10.Name, x10.Other⟩ : impl_Node)).set (v4).toNat (⟨x11.Kind, x11.A, (w64 ((w64 (v3 + 1)) + 1)), x11.C, x11.N, x11.Name, x11.Other⟩ : impl_Node)) v4).bind fun x12 => ((at_ ((((v5.set (v4).toNat (⟨v3, x9.A, x9.B, x9.C, x9.N, x9.Name, x9.Other⟩ : impl_Node)).set (v4).toNat (⟨x10.Kind, (w64 (v3 + 1)), x10.B, x10.C, x10.N, x10.Name, x10.Other⟩ : impl_Node)).set (v4).toNat (⟨x11.Kind, x11.A, (w64 ((w64 (v3 + 1)) + 1)), x11.C, x11.N, x11.Name, x11.Other⟩ : impl_Node)).set (v4).toNat (⟨x12.Kind, x12.A, x12.B, (w64 ((w64 ((w64 (v3 + 1)) + 1)) + 1)), x12.N, x12.Name, x12.Other⟩ : impl_Node)) v4).bind fun x13 => ((laws_markText.f K (w64 ((w64 ((w64 ((w64 ((w64 (v3 + 1)) + 1)) + 1)) + 1)) + 1))).bind fun y14 => ((at_ (((((v5.set (v4).toNat (⟨v3, x9.A, x9.B, x9.C, x9.N, x9.Name, x9.Other⟩ : impl_Node)).set (v4).toNat (⟨x10.Kind, (w64 (v3 + 1)), x10.B, x10.C, x10.N, x10.Name, x10.Other⟩ : impl_Node)).set (v4).toNat (⟨x11.Kind, x11.A, (w64 ((w64 (v3 + 1)) + 1)), x11.C, x11.N, x11.Name, x11.Other⟩ : impl_Node)).set (v4).toNat (⟨x12.Kind, x12.A, x12.B, (w64 ((w64 ((w64 (v3 + 1)) + 1)) + 1)), x12.N, x12.Name, x12.Other⟩ : impl_Node)).set (v4).toNat (⟨x13.Kind, x13.A, x13.B, x13.C, (w64 ((w64 ((w64 ((w64 (v3 + 1)) + 1)) + 1)) + 1)), x13.Name, x13.Other⟩ : impl_Node)) v4).bind fun x16 => ((laws_markText.f K (w64 ((w64 ((w64 ((w64 ((w64 ((w64 (v3 + 1)) + 1)) + 1)) + 1)) + 1)) + 1))).bind fun y17 => ((at_ ((((((v5.set (v4).toNat (⟨v3, x9.A, x9.B, x9.C, x9.N, x9.Name, x9.Other⟩ : impl_Node)).set (v4).toNat (⟨x10.Kind, (w64 (v3 + 1)), x10.B, x10.C, x10.N, x10.Name, x10.Other⟩ : impl_Node)).set (v4).toNat (⟨x11.Kind, x11.A, (w64 ((w64 (v3 + 1)) + 1)), x11.C, x11.N, x11.Name, x11.Other⟩ : impl_Node)).set (v4).toNat (⟨x12.Kind, x12.A, x12.B, (w64 ((w64 ((w64 (v3 + 1)) + 1)) + 1)), x12.N, x12.Name, x12.Other⟩ : impl_Node)).set (v4).toNat (⟨x13.Kind, x13.A, x13.B, x13.C, (w64 ((w64 ((w64 ((w64 (v3 + 1)) + 1)) + 1)) + 1)), x13.Name, x13.Other⟩ : impl_Node)).set (v4).toNat (⟨x16.Kind, x16.A, x16.B, x16.C, x16.N, y14, x16.Other⟩ : impl_Node)) v4).bind fun x19 => (laws_markNodeS.l0 K k (w64 ((w64 ((w64 ((w64 ((w64 ((w64 ((w64 (v3 + 1)) + 1)) + 1)) + 1)) + 1)) + 1)) + 1)) (w64 (v4 + 1)) (((((((v5.set (v4).toNat (⟨v3, x9.A, x9.B, x9.C, x9.N, x9.Name, x9.Other⟩ : impl_Node)).set (v4).toNat (⟨x10.Kind, (w64 (v3 + 1)), x10.B, x10.C, x10.N, x10.Name, x10.Other⟩ : impl_Node)).set (v4).toNat (⟨x11.Kind, x11.A, (w64 ((w64 (v3 + 1)) + 1)), x11.C, x11.N, x11.Name, x11.Other⟩ : impl_Node)).set (v4).toNat (⟨x12.Kind, x12.A, x12.B, (w64 ((w64 ((w64 (v3 + 1)) + 1)) + 1)), x12.N, x12.Name, x12.Other⟩ : impl_Node)).set (v4).toNat (⟨x13.Kind, x13.A, x13.B, x13.C, (w64 ((w64 ((w64 ((w64 (v3 + 1)) + 1)) + 1)) + 1)), x13.Name, x13.Other⟩ : impl_Node)).set (v4).toNat (⟨x16.Kind, x16.A, x16.B, x16.C, x16.N, y14, x16.Other⟩ : impl_Node)).set (v4).toNat (⟨x19.Kind, x19.A, x19.B, x19.C, x19.N, x19.Name, y17⟩ : impl_Node)))))))))))) else (some (v3, v5))
def laws_markNodeS.f  (K : Nat) (a0 : List impl_Node) (a1 : Int) : Option (Int × List impl_Node) := jn (fun (v1, v2) => some (v1, v2)) (fun j => (laws_markNodeS.l0 K K a1 0 a0).bind fun (v6, v7) => j (v6, v7))
theorem laws_markNodeS.ev   {K : Nat} {a0 : List impl_Node} {a1 : Int} {r : Int × List impl_Node} (h : laws_markNodeS.f  K a0 a1 = some r) : E 32 [(.lend true 7 (a0.map impl_Node.e)), (.d (.p (.int .i64 a1)))] = some ([(.d (.p (.int .i64 r.1)))], [(.own true 7 (r.2.map impl_Node.e))]) := by
  refine Ev_intro (fn := Tryd.f32) rfl (by kernel_rfl) (c := _) rfl ⟨rfl, by simp⟩ rfl (evP_spec _ ?_)
  unfold laws_markNodeS.f at h
  refine seqJ h 64 (fun x => [(1, (.d (.p (.int .i64 x.1))))]) (fun x => [(64, 0, 1, (some (.row true true 7 (x.2.map impl_Node.e))))]) (fun J h => ?_) ?_
  · refine loopX (α := Int × Int × List impl_Node) (a := (a1, 0, a0)) 64 (fun x => [(0, (.own 64 0 1)), (1, (.d (.p (.int .i64 x.1)))), (5, (.d (.p (.int .i64 x.2.1))))]) (fun x => [(64, 0, 1, (some (.row true true 7 (x.2.2.map impl_Node.e))))]) (fun k x => laws_markNodeS.l0 K k x.1 x.2.1 x.2.2) 0 (fun x => [(1, (.d (.p (.int .i64 x.1))))]) (fun x => [(64, 0, 1, (some (.row true true 7 (x.2.map impl_Node.e))))]) h (fun _ => rfl) ?_ ⟨rfl, ⟨rfl, rfl, rfl, trivial⟩, ⟨rfl, trivial⟩⟩ ?_
    · rintro k ⟨v3, v4, v5⟩ r h e hp
      replace h : laws_markNodeS.l0 K (k + 1) v3 v4 v5 = some r := h
      unfold laws_markNodeS.l0 at h
      refine goS ?_
      refine eqM ((v5.length : Int) : Int) (mLen rfl) ?_
      refine iteF h (fun c8 h => ?_) (fun c8 h => ?_)
      · refine goS ?_
        refine goS ?_
        refine bindG h fun x9 hx9 h => ?_
        refine anM (at_ix rfl hx9) ?_
        refine anM (at_lt rfl hx9) ?_
        refine exM (impl_Node.e x9) (at_get rfl hx9) ?_
        refine eqM ((v5.set (v4).toNat (⟨v3, x9.A, x9.B, x9.C, x9.N, x9.Name, x9.Other⟩ : impl_Node)).map impl_Node.e) (mSet rfl rfl) ?_
        refine goS ?_
        refine bindG h fun x10 hx10 h => ?_
        refine anM (at_ix rfl hx10) ?_
        refine anM (at_lt rfl hx10) ?_
        refine exM (impl_Node.e x10) (at_get rfl hx10) ?_
        refine eqM (((v5.set (v4).toNat (⟨v3, x9.A, x9.B, x9.C, x9.N, x9.Name, x9.Other⟩ : impl_Node)).set (v4).toNat (⟨x10.Kind, (w64 (v3 + 1)), x10.B, x10.C, x10.N, x10.Name, x10.Other⟩ : impl_Node)).map impl_Node.e) (mSet rfl rfl) ?_
        refine goR ?_
        refine bindG h fun x11 hx11 h => ?_
        refine anM (at_ix rfl hx11) ?_
        refine anM (at_lt rfl hx11) ?_
        refine exM (impl_Node.e x11) (at_get rfl hx11) ?_
        refine eqM ((((v5.set (v4).toNat (⟨v3, x9.A, x9.B, x9.C, x9.N, x9.Name, x9.Other⟩ : impl_Node)).set (v4).toNat (⟨x10.Kind, (w64 (v3 + 1)), x10.B, x10.C, x10.N, x10.Name, x10.Other⟩ : impl_Node)).set (v4).toNat (⟨x11.Kind, x11.A, (w64 ((w64 (v3 + 1)) + 1)), x11.C, x11.N, x11.Name, x11.Other⟩ : impl_Node)).map impl_Node.e) (mSet rfl rfl) ?_
        refine Re.mk 64 [(0, (.own 64 0 1)), (1, (.d (.p (.int .i64 (w64 ((w64 (v3 + 1)) + 1)))))), (5, (.d (.p (.int .i64 v4))))] [(64, 0, 1, (some (.row true true 7 ((((v5.set (v4).toNat (⟨v3, x9.A, x9.B, x9.C, x9.N, x9.Name, x9.Other⟩ : impl_Node)).set (v4).toNat (⟨x10.Kind, (w64 (v3 + 1)), x10.B, x10.C, x10.N, x10.Name, x10.Other⟩ : impl_Node)).set (v4).toNat (⟨x11.Kind, x11.A, (w64 ((w64 (v3 + 1)) + 1)), x11.C, x11.N, x11.Name, x11.Other⟩ : impl_Node)).map impl_Node.e))))] (by exact ⟨rfl, ⟨rfl, rfl, rfl, trivial⟩, ⟨rfl, trivial⟩⟩) ?_
        intro e hp
        refine goS ?_
        refine bindG h fun x12 hx12 h => ?_
        refine anM (at_ix rfl hx12) ?_
        refine anM (at_lt rfl hx12) ?_
        refine exM (impl_Node.e x12) (at_get rfl hx12) ?_
        refine eqM (((((v5.set (v4).toNat (⟨v3, x9.A, x9.B, x9.C, x9.N, x9.Name, x9.Other⟩ : impl_Node)).set (v4).toNat (⟨x10.Kind, (w64 (v3 + 1)), x10.B, x10.C, x10.N, x10.Name, x10.Other⟩ : impl_Node)).set (v4).toNat (⟨x11.Kind, x11.A, (w64 ((w64 (v3 + 1)) + 1)), x11.C, x11.N, x11.Name, x11.Other⟩ : impl_Node)).set (v4).toNat (⟨x12.Kind, x12.A, x12.B, (w64 ((w64 ((w64 (v3 + 1)) + 1)) + 1)), x12.N, x12.Name, x12.Other⟩ : impl_Node)).map impl_Node.e) (mSet rfl rfl) ?_
        refine goS ?_
        refine bindG h fun x13 hx13 h => ?_
        refine anM (at_ix rfl hx13) ?_
        refine anM (at_lt rfl hx13) ?_
        refine exM (impl_Node.e x13) (at_get rfl hx13) ?_
        refine eqM ((((((v5.set (v4).toNat (⟨v3, x9.A, x9.B, x9.C, x9.N, x9.Name, x9.Other⟩ : impl_Node)).set (v4).toNat (⟨x10.Kind, (w64 (v3 + 1)), x10.B, x10.C, x10.N, x10.Name, x10.Other⟩ : impl_Node)).set (v4).toNat (⟨x11.Kind, x11.A, (w64 ((w64 (v3 + 1)) + 1)), x11.C, x11.N, x11.Name, x11.Other⟩ : impl_Node)).set (v4).toNat (⟨x12.Kind, x12.A, x12.B, (w64 ((w64 ((w64 (v3 + 1)) + 1)) + 1)), x12.N, x12.Name, x12.Other⟩ : impl_Node)).set (v4).toNat (⟨x13.Kind, x13.A, x13.B, x13.C, (w64 ((w64 ((w64 ((w64 (v3 + 1)) + 1)) + 1)) + 1)), x13.Name, x13.Other⟩ : impl_Node)).map impl_Node.e) (mSet rfl rfl) ?_
        refine goR ?_
        refine bindG h fun y14 hy15 h => ?_
        refine exM ([(.d (.p (.string y14)))], []) ?_ ?_
        · exact laws_markText.ev hy15
        refine bindG h fun x16 hx16 h => ?_
        refine anM (at_ix rfl hx16) ?_
        refine anM (at_lt rfl hx16) ?_
        refine exM (impl_Node.e x16) (at_get rfl hx16) ?_
        refine eqM (((((((v5.set (v4).toNat (⟨v3, x9.A, x9.B, x9.C, x9.N, x9.Name, x9.Other⟩ : impl_Node)).set (v4).toNat (⟨x10.Kind, (w64 (v3 + 1)), x10.B, x10.C, x10.N, x10.Name, x10.Other⟩ : impl_Node)).set (v4).toNat (⟨x11.Kind, x11.A, (w64 ((w64 (v3 + 1)) + 1)), x11.C, x11.N, x11.Name, x11.Other⟩ : impl_Node)).set (v4).toNat (⟨x12.Kind, x12.A, x12.B, (w64 ((w64 ((w64 (v3 + 1)) + 1)) + 1)), x12.N, x12.Name, x12.Other⟩ : impl_Node)).set (v4).toNat (⟨x13.Kind, x13.A, x13.B, x13.C, (w64 ((w64 ((w64 ((w64 (v3 + 1)) + 1)) + 1)) + 1)), x13.Name, x13.Other⟩ : impl_Node)).set (v4).toNat (⟨x16.Kind, x16.A, x16.B, x16.C, x16.N, y14, x16.Other⟩ : impl_Node)).map impl_Node.e) (mSet rfl rfl) ?_
        refine Re.mk 64 [(0, (.own 64 0 1)), (1, (.d (.p (.int .i64 (w64 ((w64 ((w64 ((w64 ((w64 (v3 + 1)) + 1)) + 1)) + 1)) + 1)))))), (5, (.d (.p (.int .i64 v4))))] [(64, 0, 1, (some (.row true true 7 (((((((v5.set (v4).toNat (⟨v3, x9.A, x9.B, x9.C, x9.N, x9.Name, x9.Other⟩ : impl_Node)).set (v4).toNat (⟨x10.Kind, (w64 (v3 + 1)), x10.B, x10.C, x10.N, x10.Name, x10.Other⟩ : impl_Node)).set (v4).toNat (⟨x11.Kind, x11.A, (w64 ((w64 (v3 + 1)) + 1)), x11.C, x11.N, x11.Name, x11.Other⟩ : impl_Node)).set (v4).toNat (⟨x12.Kind, x12.A, x12.B, (w64 ((w64 ((w64 (v3 + 1)) + 1)) + 1)), x12.N, x12.Name, x12.Other⟩ : impl_Node)).set (v4).toNat (⟨x13.Kind, x13.A, x13.B, x13.C, (w64 ((w64 ((w64 ((w64 (v3 + 1)) + 1)) + 1)) + 1)), x13.Name, x13.Other⟩ : impl_Node)).set (v4).toNat (⟨x16.Kind, x16.A, x16.B, x16.C, x16.N, y14, x16.Other⟩ : impl_Node)).map impl_Node.e))))] (by exact ⟨rfl, ⟨rfl, rfl, rfl, trivial⟩, ⟨rfl, trivial⟩⟩) ?_
        intro e hp
        refine goS ?_
        refine bindG h fun y17 hy18 h => ?_
        refine exM ([(.d (.p (.string y17)))], []) ?_ ?_
        · exact laws_markText.ev hy18
        refine bindG h fun x19 hx19 h => ?_
        refine anM (at_ix rfl hx19) ?_
        refine anM (at_lt rfl hx19) ?_
        refine exM (impl_Node.e x19) (at_get rfl hx19) ?_
        refine eqM ((((((((v5.set (v4).toNat (⟨v3, x9.A, x9.B, x9.C, x9.N, x9.Name, x9.Other⟩ : impl_Node)).set (v4).toNat (⟨x10.Kind, (w64 (v3 + 1)), x10.B, x10.C, x10.N, x10.Name, x10.Other⟩ : impl_Node)).set (v4).toNat (⟨x11.Kind, x11.A, (w64 ((w64 (v3 + 1)) + 1)), x11.C, x11.N, x11.Name, x11.Other⟩ : impl_Node)).set (v4).toNat (⟨x12.Kind, x12.A, x12.B, (w64 ((w64 ((w64 (v3 + 1)) + 1)) + 1)), x12.N, x12.Name, x12.Other⟩ : impl_Node)).set (v4).toNat (⟨x13.Kind, x13.A, x13.B, x13.C, (w64 ((w64 ((w64 ((w64 (v3 + 1)) + 1)) + 1)) + 1)), x13.Name, x13.Other⟩ : impl_Node)).set (v4).toNat (⟨x16.Kind, x16.A, x16.B, x16.C, x16.N, y14, x16.Other⟩ : impl_Node)).set (v4).toNat (⟨x19.Kind, x19.A, x19.B, x19.C, x19.N, x19.Name, y17⟩ : impl_Node)).map impl_Node.e) (mSet rfl rfl) ?_
        exact ⟨((w64 ((w64 ((w64 ((w64 ((w64 ((w64 ((w64 (v3 + 1)) + 1)) + 1)) + 1)) + 1)) + 1)) + 1)), (w64 (v4 + 1)), (((((((v5.set (v4).toNat (⟨v3, x9.A, x9.B, x9.C, x9.N, x9.Name, x9.Other⟩ : impl_Node)).set (v4).toNat (⟨x10.Kind, (w64 (v3 + 1)), x10.B, x10.C, x10.N, x10.Name, x10.Other⟩ : impl_Node)).set (v4).toNat (⟨x11.Kind, x11.A, (w64 ((w64 (v3 + 1)) + 1)), x11.C, x11.N, x11.Name, x11.Other⟩ : impl_Node)).set (v4).toNat (⟨x12.Kind, x12.A, x12.B, (w64 ((w64 ((w64 (v3 + 1)) + 1)) + 1)), x12.N, x12.Name, x12.Other⟩ : impl_Node)).set (v4).toNat (⟨x13.Kind, x13.A, x13.B, x13.C, (w64 ((w64 ((w64 ((w64 (v3 + 1)) + 1)) + 1)) + 1)), x13.Name, x13.Other⟩ : impl_Node)).set (v4).toNat (⟨x16.Kind, x16.A, x16.B, x16.C, x16.N, y14, x16.Other⟩ : impl_Node)).set (v4).toNat (⟨x19.Kind, x19.A, x19.B, x19.C, x19.N, x19.Name, y17⟩ : impl_Node))), h, ⟨rfl, ⟨rfl, rfl, rfl, trivial⟩, ⟨rfl, trivial⟩⟩⟩
      · refine exQ h ?_
        exact ⟨rfl, ⟨rfl, trivial⟩, ⟨rfl, trivial⟩⟩
    · rintro ⟨v6, v7⟩ S' h ⟨qn, ⟨qa0, _⟩, ⟨qb0, _⟩⟩
      exact ⟨(v6, v7), h, ⟨qn, ⟨qa0, trivial⟩, ⟨qb0, trivial⟩⟩⟩
  · rintro ⟨v1, v2⟩ h e hp
    exact retE (enc := laws_markNodeS.enc) h rfl
def laws_heldNodeS.enc (r : Int) : Res := ([(.d (.p (.int .i64 r)))], [])
def laws_heldNodeS.en (a0 : List impl_Node) (a1 : Int) (r : Int) (S : St) : Prop := endV tb md 33 Tryd.f33 [(.d (.l true 7 (a0.map impl_Node.e))), (.d (.p (.int .i64 a1)))] .ret S = some (laws_heldNodeS.enc r)
def laws_heldNodeS.l0 (a0 : List impl_Node) (K : Nat) : Nat → Int → Int → Option (Int ⊕ Int)
  | 0, _, _ => none
  | k + 1, v2, v3 => if v3 < (a0.length : Int) then ((at_ a0 v3).bind fun x6 => (if (!(decide (x6.Kind = v2))) = true then (some (.inl (-1))) else (if (!(decide (x6.A = (w64 (v2 + 1))))) = true then (some (.inl (-1))) else (if (!(decide (x6.B = (w64 ((w64 (v2 + 1)) + 1))))) = true then (some (.inl (-1))) else (if (!(decide (x6.C = (w64 ((w64 ((w64 (v2 + 1)) + 1)) + 1))))) = true then (some (.inl (-1))) else (if (!(decide (x6.N = (w64 ((w64 ((w64 ((w64 (v2 + 1)) + 1)) + 1)) + 1))))) = true then (some (.inl (-1))) else ((laws_markText.f K (w64 ((w64 ((w64 ((w64 ((w64 (v2 + 1)) + 1)) + 1)) + 1)) + 1))).bind fun y12 => (if (!(x6.Name.toList == y12.toList)) = true then (some (.inl (-1))) else ((laws_markText.f K (w64 ((w64 ((w64 ((w64 ((w64 ((w64 (v2 + 1)) + 1)) + 1)) + 1)) + 1)) + 1))).bind fun y15 => (if (!(x6.Other.toList == y15.toList)) = true then (some (.inl (-1))) else (laws_heldNodeS.l0 a0 K k (w64 ((w64 ((w64 ((w64 ((w64 ((w64 ((w64 (v2 + 1)) + 1)) + 1)) + 1)) + 1)) + 1)) + 1)) (w64 (v3 + 1))))))))))))) else (some (.inr v2))
def laws_heldNodeS.f  (K : Nat) (a0 : List impl_Node) (a1 : Int) : Option (Int) := jn (fun (v1 : Int) => some v1) (fun j => lb (laws_heldNodeS.l0 a0 K K a1 0) (fun r => some r) (fun (v4 : Int) => j v4))
theorem laws_heldNodeS.ev   {K : Nat} {a0 : List impl_Node} {a1 : Int} {r : Int} (h : laws_heldNodeS.f  K a0 a1 = some r) : E 33 [(.d (.l true 7 (a0.map impl_Node.e))), (.d (.p (.int .i64 a1)))] = some ([(.d (.p (.int .i64 r)))], []) := by
  refine Ev_intro (fn := Tryd.f33) rfl (by kernel_rfl) (c := _) rfl ⟨rfl, by simp⟩ rfl (evP_spec _ ?_)
  unfold laws_heldNodeS.f at h
  refine seqJ h 78 (fun x => [(1, (.d (.p (.int .i64 x))))]) (fun x => []) (fun J h => ?_) ?_
  · refine loopB (α := Int × Int) (a := (a1, 0)) 78 (fun x => [(0, (.d (.l true 7 (a0.map impl_Node.e)))), (1, (.d (.p (.int .i64 x.1)))), (5, (.d (.p (.int .i64 x.2))))]) (fun x => []) (fun k x => laws_heldNodeS.l0 a0 K k x.1 x.2) (laws_heldNodeS.en a0 a1) 0 (fun x => [(1, (.d (.p (.int .i64 x))))]) (fun x => []) h (fun _ => rfl) ?_ ⟨rfl, ⟨rfl, rfl, rfl, trivial⟩, trivial⟩ ?_ ?_
    · rintro k ⟨v2, v3⟩ r h e hp
      replace h : laws_heldNodeS.l0 a0 K (k + 1) v2 v3 = some r := h
      unfold laws_heldNodeS.l0 at h
      refine goS ?_
      refine eqM ((a0.length : Int) : Int) (mLen rfl) ?_
      refine iteF h (fun c5 h => ?_) (fun c5 h => ?_)
      · refine goS ?_
        refine goS ?_
        refine bindG h fun x6 hx6 h => ?_
        refine anM (at_ix rfl hx6) ?_
        refine exM (impl_Node.e x6) (at_get rfl hx6) ?_
        refine ifB h (fun c7 h => ?_) (fun c7 h => ?_)
        · exact lqL h rfl
        · refine goS ?_
          refine anM (at_ix rfl hx6) ?_
          refine exM (impl_Node.e x6) (at_get rfl hx6) ?_
          refine ifB h (fun c8 h => ?_) (fun c8 h => ?_)
          · exact lqL h rfl
          · refine goS ?_
            refine anM (at_ix rfl hx6) ?_
            refine exM (impl_Node.e x6) (at_get rfl hx6) ?_
            refine ifB h (fun c9 h => ?_) (fun c9 h => ?_)
            · exact lqL h rfl
            · refine goS ?_
              refine anM (at_ix rfl hx6) ?_
              refine exM (impl_Node.e x6) (at_get rfl hx6) ?_
              refine ifB h (fun c10 h => ?_) (fun c10 h => ?_)
              · exact lqL h rfl
              · refine goS ?_
                refine anM (at_ix rfl hx6) ?_
                refine exM (impl_Node.e x6) (at_get rfl hx6) ?_
                refine ifB h (fun c11 h => ?_) (fun c11 h => ?_)
                · exact lqL h rfl
                · refine goS ?_
                  refine ⟨[[], [], [63], [63], [63], [], [59, 60, 61], []], [], by kernel_rfl, ?_⟩
                  refine anM (at_ix rfl hx6) ?_
                  refine exM (impl_Node.e x6) (at_get rfl hx6) ?_
                  refine bindG h fun y12 hy13 h => ?_
                  refine exM ([(.d (.p (.string y12)))], []) ?_ ?_
                  · exact laws_markText.ev hy13
                  refine ifB h (fun c14 h => ?_) (fun c14 h => ?_)
                  · exact lqL h rfl
                  · refine goS ?_
                    refine ⟨[[], [], [73], [73], [73], [], [69, 70, 71], []], [], by kernel_rfl, ?_⟩
                    refine anM (at_ix rfl hx6) ?_
                    refine exM (impl_Node.e x6) (at_get rfl hx6) ?_
                    refine bindG h fun y15 hy16 h => ?_
                    refine exM ([(.d (.p (.string y15)))], []) ?_ ?_
                    · exact laws_markText.ev hy16
                    refine ifB h (fun c17 h => ?_) (fun c17 h => ?_)
                    · exact lqL h rfl
                    · exact ⟨((w64 ((w64 ((w64 ((w64 ((w64 ((w64 ((w64 (v2 + 1)) + 1)) + 1)) + 1)) + 1)) + 1)) + 1)), (w64 (v3 + 1))), h, ⟨rfl, ⟨rfl, rfl, rfl, trivial⟩, trivial⟩⟩
      · refine lqR h ?_
        exact ⟨rfl, ⟨rfl, trivial⟩, trivial⟩
    · intro r' S' h q
      exact retE (enc := laws_heldNodeS.enc) h q
    · rintro v4 S' h ⟨qn, ⟨qa0, _⟩, ⟨_⟩⟩
      exact ⟨v4, h, ⟨qn, ⟨qa0, trivial⟩, trivial⟩⟩
  · rintro v1 h e hp
    exact retE (enc := laws_heldNodeS.enc) h rfl
def laws_FnExactParse.enc (r : Bool) : Res := ([(.d (.p (.bool r)))], [])
def laws_FnExactParse.f  (K : Nat) (a0 : ByteArray) : Option (Bool) := if (a0.size : Int) > 1048576 then (some true) else ((spec_Parse.f K a0).bind fun (y2, y3, y4) => ((impl_Parse.f K a0).bind fun (y6, y7, y8) => (jn (fun (v10 : Bool) => if v10 = true then (some false) else ((laws_markNodeS.f K y6 1).bind fun (y16, y17) => (gd (y17.length = y6.length) ((laws_heldNodeS.f K y17 1).bind fun y19 => (if y19 < 0 then (some false) else (if (!(decide (y19 = y16))) = true then (some false) else ((impl_Parse.f K a0).bind fun (y23, y24, y25) => (jn (fun (v27 : Bool) => if v27 = true then (some false) else ((laws_heldNodeS.f K y17 1).bind fun y33 => (if y33 < 0 then (some false) else (if (!(decide (y33 = y16))) = true then (some false) else (some true))))) (fun j => (laws_eqNodeS.f K y23 y2).bind fun y28 => (if (!y28) = true then (j true) else (if (!(decide (y24 = y3))) = true then (j true) else (j (!(decide (y25 = y4))))))))))))))) (fun j => (laws_eqNodeS.f K y6 y2).bind fun y11 => (if (!y11) = true then (j true) else (if (!(decide (y7 = y3))) = true then (j true) else (j (!(decide (y8 = y4))))))))))
theorem laws_FnExactParse.ev   {K : Nat} {a0 : ByteArray} {r : Bool} (h : laws_FnExactParse.f  K a0 = some r) : E 6 [(.d (.p (.string a0)))] = some ([(.d (.p (.bool r)))], []) := by
  refine Ev_intro (fn := Tryd.f6) rfl (by kernel_rfl) (c := _) rfl ⟨rfl, by simp⟩ rfl (evP_spec _ ?_)
  unfold laws_FnExactParse.f at h
  refine goS ?_
  refine iteF h (fun c1 h => ?_) (fun c1 h => ?_)
  · exact retE (enc := laws_FnExactParse.enc) h rfl
  · refine bindG h ?_
    rintro ⟨y2, y3, y4⟩ hy5 h
    refine exM ([(.own true 7 (y2.map impl_Node.e)), (.d (.p (.int .i64 y3))), (.d (.p (.int .i64 y4)))], []) ?_ ?_
    · exact spec_Parse.ev hy5
    refine bindG h ?_
    rintro ⟨y6, y7, y8⟩ hy9 h
    refine exM ([(.own true 7 (y6.map impl_Node.e)), (.d (.p (.int .i64 y7))), (.d (.p (.int .i64 y8)))], []) ?_ ?_
    · exact impl_Parse.ev hy9
    refine goS ?_
    refine seqJ h 82 (fun x => [(0, (.d (.p (.string a0)))), (3, (.own 3 1 2)), (4, (.d (.p (.int .i64 y3)))), (5, (.d (.p (.int .i64 y4)))), (6, (.own 6 1 2)), (42, (.d (.p (.bool x))))]) (fun x => [(3, 1, 2, (some (.row true true 7 (y2.map impl_Node.e)))), (6, 1, 2, (some (.row true true 7 (y6.map impl_Node.e))))]) (fun J h => ?_) ?_
    · refine bindG h fun y11 hy12 h => ?_
      refine exM ([(.d (.p (.bool y11)))], []) ?_ ?_
      · exact laws_eqNodeS.ev hy12
      refine ifB h (fun c13 h => ?_) (fun c13 h => ?_)
      · refine Ask.T rfl ?_
        refine Ask.T rfl ?_
        refine Ask.T rfl ?_
        refine Ask.T rfl ?_
        refine Ask.T rfl ?_
        refine Ask.T rfl ?_
        refine Ask.T rfl ?_
        exact ⟨true, h, ⟨rfl, ⟨rfl, rfl, rfl, rfl, rfl, rfl, trivial⟩, ⟨rfl, rfl, trivial⟩⟩⟩
      · refine Ask.F rfl ?_
        refine Ask.F rfl ?_
        refine Ask.F rfl ?_
        refine ifB h (fun c14 h => ?_) (fun c14 h => ?_)
        · refine Ask.T rfl ?_
          refine Ask.T rfl ?_
          refine Ask.T rfl ?_
          exact ⟨true, h, ⟨rfl, ⟨rfl, rfl, rfl, rfl, rfl, rfl, trivial⟩, ⟨rfl, rfl, trivial⟩⟩⟩
        · refine Ask.F rfl ?_
          refine Ask.F rfl ?_
          refine Ask.F rfl ?_
          exact ⟨(!(decide (y8 = y4))), h, ⟨rfl, ⟨rfl, rfl, rfl, rfl, rfl, rfl, trivial⟩, ⟨rfl, rfl, trivial⟩⟩⟩
    · rintro v10 h e hp
      refine ifB h (fun c15 h => ?_) (fun c15 h => ?_)
      · exact retE (enc := laws_FnExactParse.enc) h rfl
      · refine bindG h ?_
        rintro ⟨y16, y17⟩ hy18 h
        refine exM ([(.d (.p (.int .i64 y16)))], [(.own true 7 (y17.map impl_Node.e))]) ?_ ?_
        · exact laws_markNodeS.ev hy18
        refine gdG h fun g h => ?_
        refine anM (lenM g) ?_
        refine bindG h fun y19 hy20 h => ?_
        refine exM ([(.d (.p (.int .i64 y19)))], []) ?_ ?_
        · exact laws_heldNodeS.ev hy20
        refine goS ?_
        refine iteF h (fun c21 h => ?_) (fun c21 h => ?_)
        · exact retE (enc := laws_FnExactParse.enc) h rfl
        · refine goS ?_
          refine ifB h (fun c22 h => ?_) (fun c22 h => ?_)
          · exact retE (enc := laws_FnExactParse.enc) h rfl
          · refine bindG h ?_
            rintro ⟨y23, y24, y25⟩ hy26 h
            refine exM ([(.own true 7 (y23.map impl_Node.e)), (.d (.p (.int .i64 y24))), (.d (.p (.int .i64 y25)))], []) ?_ ?_
            · exact impl_Parse.ev hy26
            refine goS ?_
            refine seqJ h 82 (fun x => [(6, (.own 6 1 2)), (9, (.d (.p (.int .i64 y16)))), (73, (.d (.p (.bool x))))]) (fun x => [(6, 1, 2, (some (.row true true 7 (y17.map impl_Node.e))))]) (fun J h => ?_) ?_
            · refine bindG h fun y28 hy29 h => ?_
              refine exM ([(.d (.p (.bool y28)))], []) ?_ ?_
              · exact laws_eqNodeS.ev hy29
              refine ifB h (fun c30 h => ?_) (fun c30 h => ?_)
              · refine Ask.T rfl ?_
                refine Ask.T rfl ?_
                refine Ask.T rfl ?_
                refine Ask.T rfl ?_
                refine Ask.T rfl ?_
                refine Ask.T rfl ?_
                refine Ask.T rfl ?_
                exact ⟨true, h, ⟨rfl, ⟨rfl, rfl, rfl, trivial⟩, ⟨rfl, trivial⟩⟩⟩
              · refine Ask.F rfl ?_
                refine Ask.F rfl ?_
                refine Ask.F rfl ?_
                refine ifB h (fun c31 h => ?_) (fun c31 h => ?_)
                · refine Ask.T rfl ?_
                  refine Ask.T rfl ?_
                  refine Ask.T rfl ?_
                  exact ⟨true, h, ⟨rfl, ⟨rfl, rfl, rfl, trivial⟩, ⟨rfl, trivial⟩⟩⟩
                · refine Ask.F rfl ?_
                  refine Ask.F rfl ?_
                  refine Ask.F rfl ?_
                  exact ⟨(!(decide (y25 = y4))), h, ⟨rfl, ⟨rfl, rfl, rfl, trivial⟩, ⟨rfl, trivial⟩⟩⟩
            · rintro v27 h e hp
              refine ifB h (fun c32 h => ?_) (fun c32 h => ?_)
              · exact retE (enc := laws_FnExactParse.enc) h rfl
              · refine bindG h fun y33 hy34 h => ?_
                refine exM ([(.d (.p (.int .i64 y33)))], []) ?_ ?_
                · exact laws_heldNodeS.ev hy34
                refine goS ?_
                refine iteF h (fun c35 h => ?_) (fun c35 h => ?_)
                · exact retE (enc := laws_FnExactParse.enc) h rfl
                · refine goS ?_
                  refine ifB h (fun c36 h => ?_) (fun c36 h => ?_)
                  · exact retE (enc := laws_FnExactParse.enc) h rfl
                  · exact retE (enc := laws_FnExactParse.enc) h rfl
def spec_Parses.enc (r : Bool) : Res := ([(.d (.p (.bool r)))], [])
def spec_Parses.f  (K : Nat) (a0 : ByteArray) : Option (Bool) := (spec_Parse.f K a0).bind fun (y1, y2, y3) => (some (decide (y2 = 0)))
theorem spec_Parses.ev   {K : Nat} {a0 : ByteArray} {r : Bool} (h : spec_Parses.f  K a0 = some r) : E 27 [(.d (.p (.string a0)))] = some ([(.d (.p (.bool r)))], []) := by
  refine Ev_intro (fn := Tryd.f27) rfl (by kernel_rfl) (c := _) rfl ⟨rfl, by simp⟩ rfl (evP_spec _ ?_)
  unfold spec_Parses.f at h
  refine bindG h ?_
  rintro ⟨y1, y2, y3⟩ hy4 h
  refine exM ([(.own true 7 (y1.map impl_Node.e)), (.d (.p (.int .i64 y2))), (.d (.p (.int .i64 y3)))], []) ?_ ?_
  · exact spec_Parse.ev hy4
  exact retE (enc := spec_Parses.enc) h rfl
def impl_Parses.enc (r : Bool) : Res := ([(.d (.p (.bool r)))], [])
def impl_Parses.f  (K : Nat) (a0 : ByteArray) : Option (Bool) := (impl_Parse.f K a0).bind fun (y1, y2, y3) => (some (decide (y2 = 0)))
theorem impl_Parses.ev   {K : Nat} {a0 : ByteArray} {r : Bool} (h : impl_Parses.f  K a0 = some r) : E 28 [(.d (.p (.string a0)))] = some ([(.d (.p (.bool r)))], []) := by
  refine Ev_intro (fn := Tryd.f28) rfl (by kernel_rfl) (c := _) rfl ⟨rfl, by simp⟩ rfl (evP_spec _ ?_)
  unfold impl_Parses.f at h
  refine bindG h ?_
  rintro ⟨y1, y2, y3⟩ hy4 h
  refine exM ([(.own true 7 (y1.map impl_Node.e)), (.d (.p (.int .i64 y2))), (.d (.p (.int .i64 y3)))], []) ?_ ?_
  · exact impl_Parse.ev hy4
  exact retE (enc := impl_Parses.enc) h rfl
def laws_FnExactParses.enc (r : Bool) : Res := ([(.d (.p (.bool r)))], [])
def laws_FnExactParses.f  (K : Nat) (a0 : ByteArray) : Option (Bool) := if (a0.size : Int) > 1048576 then (some true) else ((spec_Parses.f K a0).bind fun y2 => ((impl_Parses.f K a0).bind fun y4 => (if (y4 != y2) = true then (some false) else (some true))))
theorem laws_FnExactParses.ev   {K : Nat} {a0 : ByteArray} {r : Bool} (h : laws_FnExactParses.f  K a0 = some r) : E 5 [(.d (.p (.string a0)))] = some ([(.d (.p (.bool r)))], []) := by
  refine Ev_intro (fn := Tryd.f5) rfl (by kernel_rfl) (c := _) rfl ⟨rfl, by simp⟩ rfl (evP_spec _ ?_)
  unfold laws_FnExactParses.f at h
  refine goS ?_
  refine iteF h (fun c1 h => ?_) (fun c1 h => ?_)
  · exact retE (enc := laws_FnExactParses.enc) h rfl
  · refine bindG h fun y2 hy3 h => ?_
    refine exM ([(.d (.p (.bool y2)))], []) ?_ ?_
    · exact spec_Parses.ev hy3
    refine bindG h fun y4 hy5 h => ?_
    refine exM ([(.d (.p (.bool y4)))], []) ?_ ?_
    · exact impl_Parses.ev hy5
    refine goS ?_
    refine ifB h (fun c6 h => ?_) (fun c6 h => ?_)
    · exact retE (enc := laws_FnExactParses.enc) h rfl
    · exact retE (enc := laws_FnExactParses.enc) h rfl
end Go.Proofs.YtfkanjgfjejgiaaDoorE
