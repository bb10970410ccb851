/- For Go functions of the program: their Lean functions, and that Go answers as these do. Written by a program of the session (evprint.py). -/
import Derived.Test.YtfkanjgfjejgiaaDoorZEvPr
import Derived.Test.YtfkanjgfjejgiaaDoorEvG
set_option linter.unusedSimpArgs false
set_option linter.unusedVariables false
namespace Go.Proofs.YtfkanjgfjejgiaaDoorE
open Go.Ev
set_option linter.unusedVariables false
set_option maxRecDepth 100000
set_option maxHeartbeats 4000000
def md : Md := fun f => match f with
  | 19 => ([], [true, false])
  | 20 => ([], [true])
  | 21 => ([], [true])
  | 22 => ([], [true])
  | 23 => ([], [true])
  | 24 => ([], [true])
  | 29 => ([], [true, false, false])
  | 35 => ([], [true])
  | 39 => ([], [true, false])
  | 43 => ([], [true])
  | 45 => ([], [true, false])
  | 47 => ([], [true])
  | 48 => ([], [true])
  | 52 => ([], [true])
  | 55 => ([], [true, false])
  | 56 => ([0, 1], [false, true])
  | 62 => ([], [true])
  | 69 => ([], [true])
  | 74 => ([], [true])
  | 79 => ([], [true, true])
  | 95 => ([], [true])
  | 96 => ([], [true])
  | 109 => ([], [true, true])
  | 117 => ([], [true])
  | 118 => ([], [true])
  | 119 => ([], [true])
  | 124 => ([], [true])
  | 126 => ([], [true])
  | 127 => ([], [true])
  | 128 => ([], [true])
  | 129 => ([], [true])
  | 1000003 => ([100020], [])
  | _ => ([], [])
noncomputable abbrev E := Go.Ev.Ev Tryd.prog tb md prim
theorem strings_Split.ev {a b : ByteArray} {r : List ByteArray} (h : strings_Split.f a b = some r) : E 103 [(.d (.p (.string a))), (.d (.p (.string b)))] = some ([(.own true 1 (r.map eS))], []) := Ev_prim rfl (by show (strings_Split.f a b).map _ = _; rw [h]; rfl)
structure impl_Node where
  Kind : Int
  A : Int
  B : Int
  C : Int
  N : Int
  Name : ByteArray
  Other : ByteArray
def impl_Node.e (x : impl_Node) : List D := [(.p (.int .i64 x.Kind)), (.p (.int .i64 x.A)), (.p (.int .i64 x.B)), (.p (.int .i64 x.C)), (.p (.int .i64 x.N)), (.p (.string x.Name)), (.p (.string x.Other))]
structure impl_Bind where
  Node : Int
  Role : Int
def impl_Bind.e (x : impl_Bind) : List D := [(.p (.int .i64 x.Node)), (.p (.int .i64 x.Role))]
structure impl_Token where
  Kind : Int
  Text : ByteArray
  N : Int
  At : Int
def impl_Token.e (x : impl_Token) : List D := [(.p (.int .i64 x.Kind)), (.p (.string x.Text)), (.p (.int .i64 x.N)), (.p (.int .i64 x.At))]
structure spec_l4State where
  toks : List impl_Token
  i : Int
  code : Int
  at_ : Int
  end_ : Int
def spec_l4State.e (x : spec_l4State) : List D := [(.l true 4 (x.toks.map impl_Token.e)), (.p (.int .i64 x.i)), (.p (.int .i64 x.code)), (.p (.int .i64 x.at_)), (.p (.int .i64 x.end_))]
structure spec_l1Cur where
  b : List Int
  i : Int
  h_ : Int
def spec_l1Cur.e (x : spec_l1Cur) : List D := [(.l true 1 (x.b.map eY)), (.p (.int .i64 x.i)), (.p (.int .i64 x.h_))]
theorem eqT43 : flatEq Tryd.prog 43 = some [0, 0] := by kernel_rfl
def laws_big.enc (r : Bool) : Res := ([(.d (.p (.bool r)))], [])
def laws_big.f  (K : Nat) (a0 : List Int) : Option (Bool) := some (decide ((a0.length : Int) > 1048576))
theorem laws_big.ev   {K : Nat} {a0 : List Int} {r : Bool} (h : laws_big.f  K a0 = some r) : E 7 [(.d (.l true 1 (a0.map eY)))] = some ([(.d (.p (.bool r)))], []) := by
  refine Ev_intro (fn := Tryd.f7) rfl (by kernel_rfl) (c := _) rfl ⟨rfl, by simp⟩ rfl (evP_spec _ ?_)
  unfold laws_big.f at h
  refine eqM ((a0.length : Int) : Int) (mLen rfl) ?_
  exact retE (enc := laws_big.enc) h rfl
def spec_l1New.enc (r : spec_l1Cur) : Res := ([(.ptr [(.d (.l true 1 (r.b.map eY))), (.d (.p (.int .i64 r.i))), (.d (.p (.int .i64 r.h_)))])], [])
def spec_l1New.l0 (a0 : List Int) (K : Nat) : Nat → Int → Int → Option (Int)
  | 0, _, _ => none
  | k + 1, v2, v3 => jn (fun (v5 : Bool) => if v5 = true then ((at_ a0 v3).bind fun x8 => (spec_l1New.l0 a0 K k (w64 (((BitVec.ofInt 64 (w64 ((w64 ((w64 (v2 * 131)) + (w64 x8))) + 7))) &&& (BitVec.ofInt 64 1073741823)).toNat : Int)) (w64 (v3 + 1)))) else (some v2)) (fun j => if v3 < (a0.length : Int) then (j (decide (v3 < 4000))) else (j false))
def spec_l1New.f  (K : Nat) (a0 : List Int) : Option (spec_l1Cur) := jn (fun (v1 : Int) => some (⟨a0, 0, v1⟩ : spec_l1Cur)) (fun j => (spec_l1New.l0 a0 K K (w64 (10101 + (a0.length : Int))) 0).bind fun (v4 : Int) => j v4)
theorem spec_l1New.ev   {K : Nat} {a0 : List Int} {r : spec_l1Cur} (h : spec_l1New.f  K a0 = some r) : E 34 [(.d (.l true 1 (a0.map eY)))] = some ([(.ptr [(.d (.l true 1 (r.b.map eY))), (.d (.p (.int .i64 r.i))), (.d (.p (.int .i64 r.h_)))])], []) := by
  refine Ev_intro (fn := Tryd.f34) rfl (by kernel_rfl) (c := _) rfl ⟨rfl, by simp⟩ rfl (evP_spec _ ?_)
  unfold spec_l1New.f at h
  refine eqM ((a0.length : Int) : Int) (mLen rfl) ?_
  refine seqJ h 32 (fun x => [(0, (.d (.l true 1 (a0.map eY)))), (3, (.d (.p (.int .i64 x))))]) (fun x => []) (fun J h => ?_) ?_
  · refine loopX (α := Int × Int) (a := ((w64 (10101 + (a0.length : Int))), 0)) 32 (fun x => [(0, (.d (.l true 1 (a0.map eY)))), (3, (.d (.p (.int .i64 x.1)))), (4, (.d (.p (.int .i64 x.2))))]) (fun x => []) (fun k x => spec_l1New.l0 a0 K k x.1 x.2) 0 (fun x => [(0, (.d (.l true 1 (a0.map eY)))), (3, (.d (.p (.int .i64 x))))]) (fun x => []) h (fun _ => rfl) ?_ ⟨rfl, ⟨rfl, rfl, rfl, trivial⟩, trivial⟩ ?_
    · rintro k ⟨v2, v3⟩ r h e hp
      replace h : spec_l1New.l0 a0 K (k + 1) v2 v3 = some r := h
      unfold spec_l1New.l0 at h
      refine goS ?_
      refine seqJ h 32 (fun x => [(0, (.d (.l true 1 (a0.map eY)))), (3, (.d (.p (.int .i64 v2)))), (4, (.d (.p (.int .i64 v3)))), (15, (.d (.p (.bool x))))]) (fun x => []) (fun J h => ?_) ?_
      · refine eqM ((a0.length : Int) : Int) (mLen rfl) ?_
        refine iteF h (fun c6 h => ?_) (fun c6 h => ?_)
        · refine Ask.T rfl ?_
          refine Ask.T rfl ?_
          exact ⟨(decide (v3 < 4000)), h, ⟨rfl, ⟨rfl, rfl, rfl, rfl, trivial⟩, trivial⟩⟩
        · refine Ask.F rfl ?_
          refine Ask.F rfl ?_
          exact ⟨false, h, ⟨rfl, ⟨rfl, rfl, rfl, rfl, trivial⟩, trivial⟩⟩
      · rintro v5 h e hp
        try ((with_reducible apply cdX); exact rfl)
        refine ifB h (fun c7 h => ?_) (fun c7 h => ?_)
        · refine goS ?_
          refine bindG h fun x8 hx8 h => ?_
          refine anM (at_ix rfl hx8) ?_
          refine exM (eY x8) (at_get rfl hx8) ?_
          exact ⟨((w64 (((BitVec.ofInt 64 (w64 ((w64 ((w64 (v2 * 131)) + (w64 x8))) + 7))) &&& (BitVec.ofInt 64 1073741823)).toNat : Int)), (w64 (v3 + 1))), h, ⟨rfl, ⟨rfl, rfl, rfl, trivial⟩, trivial⟩⟩
        · refine exQ h ?_
          exact ⟨rfl, ⟨rfl, rfl, trivial⟩, trivial⟩
    · rintro v4 S' h ⟨qn, ⟨qa0, qa1, _⟩, ⟨_⟩⟩
      exact ⟨v4, h, ⟨qn, ⟨qa0, qa1, trivial⟩, trivial⟩⟩
  · rintro v1 h e hp
    exact retE (enc := spec_l1New.enc) h rfl
def spec_l1Byte.enc (r : Int × spec_l1Cur) : Res := ([(.d (.p (.int .i64 r.1)))], [(.ptr [(.d (.l true 1 (r.2.b.map eY))), (.d (.p (.int .i64 r.2.i))), (.d (.p (.int .i64 r.2.h_)))])])
def spec_l1Byte.f  (K : Nat) (a0 : spec_l1Cur) : Option (Int × spec_l1Cur) := jn (fun (v1, v2) => some (v1, v2)) (fun j => if a0.i < (a0.b.length : Int) then ((at_ a0.b a0.i).bind fun x4 => (j ((w64 (((BitVec.ofInt 64 (w64 ((w64 (((BitVec.ofInt 64 (w64 (((BitVec.ofInt 64 (Int.fdiv (w64 ((w64 (a0.h_ * 6364136223846793005)) + 1442695040888963407)) 8589934592)) ^^^ (BitVec.ofInt 64 (Int.fdiv (w64 ((w64 (a0.h_ * 6364136223846793005)) + 1442695040888963407)) 35184372088832))).toNat : Int))) &&& (BitVec.ofInt 64 255)).toNat : Int)) + (w64 x4)))) &&& (BitVec.ofInt 64 255)).toNat : Int)), (⟨a0.b, (w64 (a0.i + 1)), (w64 ((w64 (a0.h_ * 6364136223846793005)) + 1442695040888963407))⟩ : spec_l1Cur)))) else (j ((w64 (((BitVec.ofInt 64 (w64 (((BitVec.ofInt 64 (Int.fdiv (w64 ((w64 (a0.h_ * 6364136223846793005)) + 1442695040888963407)) 8589934592)) ^^^ (BitVec.ofInt 64 (Int.fdiv (w64 ((w64 (a0.h_ * 6364136223846793005)) + 1442695040888963407)) 35184372088832))).toNat : Int))) &&& (BitVec.ofInt 64 255)).toNat : Int)), (⟨a0.b, a0.i, (w64 ((w64 (a0.h_ * 6364136223846793005)) + 1442695040888963407))⟩ : spec_l1Cur))))
theorem spec_l1Byte.ev   {K : Nat} {a0 : spec_l1Cur} {r : Int × spec_l1Cur} (h : spec_l1Byte.f  K a0 = some r) : E 97 [(.ptr [(.d (.l true 1 (a0.b.map eY))), (.d (.p (.int .i64 a0.i))), (.d (.p (.int .i64 a0.h_)))])] = some ([(.d (.p (.int .i64 r.1)))], [(.ptr [(.d (.l true 1 (r.2.b.map eY))), (.d (.p (.int .i64 r.2.i))), (.d (.p (.int .i64 r.2.h_)))])]) := by
  refine Ev_intro (fn := Tryd.f97) rfl (by kernel_rfl) (c := _) rfl ⟨rfl, by simp⟩ rfl (evP_spec _ ?_)
  unfold spec_l1Byte.f at h
  refine goS ?_
  refine ⟨[[], [19, 20, 21], [19, 20, 21], [19, 20, 21], [], [], [14, 15, 16], [14, 15, 16], [14, 15, 16], [], [], [], []], [], by kernel_rfl, ?_⟩
  refine seqJ h 58 (fun x => [(3, (.d (.p (.int .i64 x.1))))]) (fun x => [(58, 0, 1, (some (.box [(.d (.l true 1 (x.2.b.map eY))), (.d (.p (.int .i64 x.2.i))), (.d (.p (.int .i64 x.2.h_)))])))]) (fun J h => ?_) ?_
  · refine ⟨[[], [30, 31, 32, 33], [30, 31, 32, 33], [30, 31, 32, 33], [], [26, 27, 28], [26, 27, 28], [26, 27, 28], [26, 27, 28], []], [], by kernel_rfl, ?_⟩
    refine eqM ((a0.b.length : Int) : Int) (mLen rfl) ?_
    refine iteF h (fun c3 h => ?_) (fun c3 h => ?_)
    · refine ⟨[[], [], [41, 42, 43], [41, 42, 43], [41, 42, 43], [], [37, 38, 39], [37, 38, 39], [37, 38, 39], [], [], [], [], [], []], [], by kernel_rfl, ?_⟩
      refine bindG h fun x4 hx4 h => ?_
      refine anM (at_ix rfl hx4) ?_
      refine exM (eY x4) (at_get rfl hx4) ?_
      exact ⟨((w64 (((BitVec.ofInt 64 (w64 ((w64 (((BitVec.ofInt 64 (w64 (((BitVec.ofInt 64 (Int.fdiv (w64 ((w64 (a0.h_ * 6364136223846793005)) + 1442695040888963407)) 8589934592)) ^^^ (BitVec.ofInt 64 (Int.fdiv (w64 ((w64 (a0.h_ * 6364136223846793005)) + 1442695040888963407)) 35184372088832))).toNat : Int))) &&& (BitVec.ofInt 64 255)).toNat : Int)) + (w64 x4)))) &&& (BitVec.ofInt 64 255)).toNat : Int)), (⟨a0.b, (w64 (a0.i + 1)), (w64 ((w64 (a0.h_ * 6364136223846793005)) + 1442695040888963407))⟩ : spec_l1Cur)), h, ⟨rfl, ⟨rfl, trivial⟩, ⟨rfl, trivial⟩⟩⟩
    · exact ⟨((w64 (((BitVec.ofInt 64 (w64 (((BitVec.ofInt 64 (Int.fdiv (w64 ((w64 (a0.h_ * 6364136223846793005)) + 1442695040888963407)) 8589934592)) ^^^ (BitVec.ofInt 64 (Int.fdiv (w64 ((w64 (a0.h_ * 6364136223846793005)) + 1442695040888963407)) 35184372088832))).toNat : Int))) &&& (BitVec.ofInt 64 255)).toNat : Int)), (⟨a0.b, a0.i, (w64 ((w64 (a0.h_ * 6364136223846793005)) + 1442695040888963407))⟩ : spec_l1Cur)), h, ⟨rfl, ⟨rfl, trivial⟩, ⟨rfl, trivial⟩⟩⟩
  · rintro ⟨v1, v2⟩ h e hp
    exact retE (enc := spec_l1Byte.enc) h rfl
def spec_l1Below.enc (r : Int × spec_l1Cur) : Res := ([(.d (.p (.int .i64 r.1)))], [(.ptr [(.d (.l true 1 (r.2.b.map eY))), (.d (.p (.int .i64 r.2.i))), (.d (.p (.int .i64 r.2.h_)))])])
def spec_l1Below.f  (K : Nat) (a0 : spec_l1Cur) (a1 : Int) : Option (Int × spec_l1Cur) := if a1 ≤ 0 then (some (0, a0)) else (if a1 ≤ 256 then ((spec_l1Byte.f K a0).bind fun (y3, y4) => (gd (a1 ≠ 0) (some ((Int.tmod y3 a1), y4)))) else ((spec_l1Byte.f K a0).bind fun (y6, y7) => ((spec_l1Byte.f K y7).bind fun (y9, y10) => ((spec_l1Byte.f K y10).bind fun (y12, y13) => ((spec_l1Byte.f K y13).bind fun (y15, y16) => (gd (a1 ≠ 0) (some ((Int.tmod (w64 ((w64 ((w64 ((w64 (y6 * 16777216)) + (w64 (y9 * 65536)))) + (w64 (y12 * 256)))) + y15)) a1), y16))))))))
theorem spec_l1Below.ev   {K : Nat} {a0 : spec_l1Cur} {a1 : Int} {r : Int × spec_l1Cur} (h : spec_l1Below.f  K a0 a1 = some r) : E 63 [(.ptr [(.d (.l true 1 (a0.b.map eY))), (.d (.p (.int .i64 a0.i))), (.d (.p (.int .i64 a0.h_)))]), (.d (.p (.int .i64 a1)))] = some ([(.d (.p (.int .i64 r.1)))], [(.ptr [(.d (.l true 1 (r.2.b.map eY))), (.d (.p (.int .i64 r.2.i))), (.d (.p (.int .i64 r.2.h_)))])]) := by
  refine Ev_intro (fn := Tryd.f63) rfl (by kernel_rfl) (c := _) rfl ⟨rfl, by simp⟩ rfl (evP_spec _ ?_)
  unfold spec_l1Below.f at h
  refine goS ?_
  try ((with_reducible apply cdX); exact rfl)
  refine iteF h (fun c1 h => ?_) (fun c1 h => ?_)
  · exact retE (enc := spec_l1Below.enc) h rfl
  · refine goS ?_
    try ((with_reducible apply cdX); exact rfl)
    refine iteF h (fun c2 h => ?_) (fun c2 h => ?_)
    · refine bindG h ?_
      rintro ⟨y3, y4⟩ hy5 h
      refine exM ([(.d (.p (.int .i64 y3)))], [(.ptr [(.d (.l true 1 (y4.b.map eY))), (.d (.p (.int .i64 y4.i))), (.d (.p (.int .i64 y4.h_)))])]) ?_ ?_
      · exact spec_l1Byte.ev hy5
      refine gdG h fun hc h => ?_
      refine anM hc ?_
      exact retE (enc := spec_l1Below.enc) h rfl
    · refine bindG h ?_
      rintro ⟨y6, y7⟩ hy8 h
      refine exM ([(.d (.p (.int .i64 y6)))], [(.ptr [(.d (.l true 1 (y7.b.map eY))), (.d (.p (.int .i64 y7.i))), (.d (.p (.int .i64 y7.h_)))])]) ?_ ?_
      · exact spec_l1Byte.ev hy8
      refine bindG h ?_
      rintro ⟨y9, y10⟩ hy11 h
      refine exM ([(.d (.p (.int .i64 y9)))], [(.ptr [(.d (.l true 1 (y10.b.map eY))), (.d (.p (.int .i64 y10.i))), (.d (.p (.int .i64 y10.h_)))])]) ?_ ?_
      · exact spec_l1Byte.ev hy11
      refine bindG h ?_
      rintro ⟨y12, y13⟩ hy14 h
      refine exM ([(.d (.p (.int .i64 y12)))], [(.ptr [(.d (.l true 1 (y13.b.map eY))), (.d (.p (.int .i64 y13.i))), (.d (.p (.int .i64 y13.h_)))])]) ?_ ?_
      · exact spec_l1Byte.ev hy14
      refine bindG h ?_
      rintro ⟨y15, y16⟩ hy17 h
      refine exM ([(.d (.p (.int .i64 y15)))], [(.ptr [(.d (.l true 1 (y16.b.map eY))), (.d (.p (.int .i64 y16.i))), (.d (.p (.int .i64 y16.h_)))])]) ?_ ?_
      · exact spec_l1Byte.ev hy17
      refine gdG h fun hc h => ?_
      refine anM hc ?_
      exact retE (enc := spec_l1Below.enc) h rfl
def spec_l1Once.enc (r : Bool × spec_l1Cur) : Res := ([(.d (.p (.bool r.1)))], [(.ptr [(.d (.l true 1 (r.2.b.map eY))), (.d (.p (.int .i64 r.2.i))), (.d (.p (.int .i64 r.2.h_)))])])
def spec_l1Once.f  (K : Nat) (a0 : spec_l1Cur) (a1 : Int) : Option (Bool × spec_l1Cur) := (spec_l1Below.f K a0 a1).bind fun (y1, y2) => (some ((decide (y1 = 0)), y2))
theorem spec_l1Once.ev   {K : Nat} {a0 : spec_l1Cur} {a1 : Int} {r : Bool × spec_l1Cur} (h : spec_l1Once.f  K a0 a1 = some r) : E 94 [(.ptr [(.d (.l true 1 (a0.b.map eY))), (.d (.p (.int .i64 a0.i))), (.d (.p (.int .i64 a0.h_)))]), (.d (.p (.int .i64 a1)))] = some ([(.d (.p (.bool r.1)))], [(.ptr [(.d (.l true 1 (r.2.b.map eY))), (.d (.p (.int .i64 r.2.i))), (.d (.p (.int .i64 r.2.h_)))])]) := by
  refine Ev_intro (fn := Tryd.f94) rfl (by kernel_rfl) (c := _) rfl ⟨rfl, by simp⟩ rfl (evP_spec _ ?_)
  unfold spec_l1Once.f at h
  refine bindG h ?_
  rintro ⟨y1, y2⟩ hy3 h
  refine exM ([(.d (.p (.int .i64 y1)))], [(.ptr [(.d (.l true 1 (y2.b.map eY))), (.d (.p (.int .i64 y2.i))), (.d (.p (.int .i64 y2.h_)))])]) ?_ ?_
  · exact spec_l1Below.ev hy3
  exact retE (enc := spec_l1Once.enc) h rfl
def spec_l1PickInt.enc (r : Int × spec_l1Cur) : Res := ([(.d (.p (.int .i64 r.1)))], [(.ptr [(.d (.l true 1 (r.2.b.map eY))), (.d (.p (.int .i64 r.2.i))), (.d (.p (.int .i64 r.2.h_)))])])
def spec_l1PickInt.f  (K : Nat) (a0 : spec_l1Cur) (a1 : List Int) : Option (Int × spec_l1Cur) := (spec_l1Below.f K a0 (a1.length : Int)).bind fun (y1, y2) => ((at_ a1 y1).bind fun x4 => (some (x4, y2)))
theorem spec_l1PickInt.ev   {K : Nat} {a0 : spec_l1Cur} {a1 : List Int} {r : Int × spec_l1Cur} (h : spec_l1PickInt.f  K a0 a1 = some r) : E 64 [(.ptr [(.d (.l true 1 (a0.b.map eY))), (.d (.p (.int .i64 a0.i))), (.d (.p (.int .i64 a0.h_)))]), (.d (.l true 1 (a1.map eI)))] = some ([(.d (.p (.int .i64 r.1)))], [(.ptr [(.d (.l true 1 (r.2.b.map eY))), (.d (.p (.int .i64 r.2.i))), (.d (.p (.int .i64 r.2.h_)))])]) := by
  refine Ev_intro (fn := Tryd.f64) rfl (by kernel_rfl) (c := _) rfl ⟨rfl, by simp⟩ rfl (evP_spec _ ?_)
  unfold spec_l1PickInt.f at h
  refine eqM ((a1.length : Int) : Int) (mLen rfl) ?_
  refine bindG h ?_
  rintro ⟨y1, y2⟩ hy3 h
  refine exM ([(.d (.p (.int .i64 y1)))], [(.ptr [(.d (.l true 1 (y2.b.map eY))), (.d (.p (.int .i64 y2.i))), (.d (.p (.int .i64 y2.h_)))])]) ?_ ?_
  · exact spec_l1Below.ev hy3
  refine bindG h fun x4 hx4 h => ?_
  refine anM (at_ix rfl hx4) ?_
  refine exM (eI x4) (at_get rfl hx4) ?_
  exact retE (enc := spec_l1PickInt.enc) h rfl
def spec_l3Names.enc (r : Int) : Res := ([(.d (.p (.int .i64 r)))], [])
def spec_l3Names.f  (K : Nat) (a0 : Int) : Option (Int) := jn (fun (v1 : Bool) => if v1 = true then (some 1) else (jn (fun (v6 : Bool) => if v6 = true then (some 2) else (some 0)) (fun j => if a0 = 6 then (j true) else (j (decide (a0 = 14)))))) (fun j => if a0 = 1 then (j true) else (if a0 = 3 then (j true) else (if a0 = 5 then (j true) else (j (decide (a0 = 19))))))
theorem spec_l3Names.ev   {K : Nat} {a0 : Int} {r : Int} (h : spec_l3Names.f  K a0 = some r) : E 100 [(.d (.p (.int .i64 a0)))] = some ([(.d (.p (.int .i64 r)))], []) := by
  refine Ev_intro (fn := Tryd.f100) rfl (by kernel_rfl) (c := _) rfl ⟨rfl, by simp⟩ rfl (evP_spec _ ?_)
  unfold spec_l3Names.f at h
  refine goS ?_
  refine seqJ h 12 (fun x => [(3, (.d (.p (.int .i64 a0)))), (4, (.d (.p (.bool x))))]) (fun x => []) (fun J h => ?_) ?_
  · try ((with_reducible apply cdX); exact rfl)
    refine iteF h (fun c2 h => ?_) (fun c2 h => ?_)
    · exact ⟨true, h, ⟨rfl, ⟨rfl, rfl, trivial⟩, trivial⟩⟩
    · try ((with_reducible apply cdX); exact rfl)
      refine iteF h (fun c3 h => ?_) (fun c3 h => ?_)
      · exact ⟨true, h, ⟨rfl, ⟨rfl, rfl, trivial⟩, trivial⟩⟩
      · try ((with_reducible apply cdX); exact rfl)
        refine iteF h (fun c4 h => ?_) (fun c4 h => ?_)
        · exact ⟨true, h, ⟨rfl, ⟨rfl, rfl, trivial⟩, trivial⟩⟩
        · exact ⟨(decide (a0 = 19)), h, ⟨rfl, ⟨rfl, rfl, trivial⟩, trivial⟩⟩
  · rintro v1 h e hp
    try ((with_reducible apply cdX); exact rfl)
    refine ifB h (fun c5 h => ?_) (fun c5 h => ?_)
    · exact retE (enc := spec_l3Names.enc) h rfl
    · refine seqJ h 12 (fun x => [(9, (.d (.p (.bool x))))]) (fun x => []) (fun J h => ?_) ?_
      · try ((with_reducible apply cdX); exact rfl)
        refine iteF h (fun c7 h => ?_) (fun c7 h => ?_)
        · exact ⟨true, h, ⟨rfl, ⟨rfl, trivial⟩, trivial⟩⟩
        · exact ⟨(decide (a0 = 14)), h, ⟨rfl, ⟨rfl, trivial⟩, trivial⟩⟩
      · rintro v6 h e hp
        try ((with_reducible apply cdX); exact rfl)
        refine ifB h (fun c8 h => ?_) (fun c8 h => ?_)
        · exact retE (enc := spec_l3Names.enc) h rfl
        · exact retE (enc := spec_l3Names.enc) h rfl
def spec_l1Pick.enc (r : ByteArray × spec_l1Cur) : Res := ([(.d (.p (.string r.1)))], [(.ptr [(.d (.l true 1 (r.2.b.map eY))), (.d (.p (.int .i64 r.2.i))), (.d (.p (.int .i64 r.2.h_)))])])
def spec_l1Pick.f  (K : Nat) (a0 : spec_l1Cur) (a1 : List ByteArray) : Option (ByteArray × spec_l1Cur) := (spec_l1Below.f K a0 (a1.length : Int)).bind fun (y1, y2) => ((at_ a1 y1).bind fun x4 => (some (x4, y2)))
theorem spec_l1Pick.ev   {K : Nat} {a0 : spec_l1Cur} {a1 : List ByteArray} {r : ByteArray × spec_l1Cur} (h : spec_l1Pick.f  K a0 a1 = some r) : E 65 [(.ptr [(.d (.l true 1 (a0.b.map eY))), (.d (.p (.int .i64 a0.i))), (.d (.p (.int .i64 a0.h_)))]), (.d (.l true 1 (a1.map eS)))] = some ([(.d (.p (.string r.1)))], [(.ptr [(.d (.l true 1 (r.2.b.map eY))), (.d (.p (.int .i64 r.2.i))), (.d (.p (.int .i64 r.2.h_)))])]) := by
  refine Ev_intro (fn := Tryd.f65) rfl (by kernel_rfl) (c := _) rfl ⟨rfl, by simp⟩ rfl (evP_spec _ ?_)
  unfold spec_l1Pick.f at h
  refine eqM ((a1.length : Int) : Int) (mLen rfl) ?_
  refine bindG h ?_
  rintro ⟨y1, y2⟩ hy3 h
  refine exM ([(.d (.p (.int .i64 y1)))], [(.ptr [(.d (.l true 1 (y2.b.map eY))), (.d (.p (.int .i64 y2.i))), (.d (.p (.int .i64 y2.h_)))])]) ?_ ?_
  · exact spec_l1Below.ev hy3
  refine bindG h fun x4 hx4 h => ?_
  refine anM (at_ix rfl hx4) ?_
  refine exM (eS x4) (at_get rfl hx4) ?_
  exact retE (enc := spec_l1Pick.enc) h rfl
def spec_Arity.enc (r : Int) : Res := ([(.d (.p (.int .i64 r)))], [])
def spec_Arity.f  (K : Nat) (a0 : Int) : Option (Int) := jn (fun (v1 : Bool) => if v1 = true then (some 1) else (jn (fun (v8 : Bool) => if v8 = true then (some 2) else (jn (fun (v17 : Bool) => if v17 = true then (some 3) else (some 0)) (fun j => if a0 = 7 then (j true) else (j (decide (a0 = 14)))))) (fun j => if a0 = 4 then (j true) else (if a0 = 5 then (j true) else (if a0 = 6 then (j true) else (if a0 = 8 then (j true) else (if a0 = 9 then (j true) else (if a0 = 13 then (j true) else (if a0 = 17 then (j true) else (j (decide (a0 = 19)))))))))))) (fun j => if a0 = 3 then (j true) else (if a0 = 10 then (j true) else (if a0 = 11 then (j true) else (if a0 = 15 then (j true) else (if a0 = 16 then (j true) else (j (decide (a0 = 18))))))))
theorem spec_Arity.ev   {K : Nat} {a0 : Int} {r : Int} (h : spec_Arity.f  K a0 = some r) : E 99 [(.d (.p (.int .i64 a0)))] = some ([(.d (.p (.int .i64 r)))], []) := by
  refine Ev_intro (fn := Tryd.f99) rfl (by kernel_rfl) (c := _) rfl ⟨rfl, by simp⟩ rfl (evP_spec _ ?_)
  unfold spec_Arity.f at h
  refine goS ?_
  refine seqJ h 23 (fun x => [(3, (.d (.p (.int .i64 a0)))), (4, (.d (.p (.bool x))))]) (fun x => []) (fun J h => ?_) ?_
  · try ((with_reducible apply cdX); exact rfl)
    refine iteF h (fun c2 h => ?_) (fun c2 h => ?_)
    · exact ⟨true, h, ⟨rfl, ⟨rfl, rfl, trivial⟩, trivial⟩⟩
    · try ((with_reducible apply cdX); exact rfl)
      refine iteF h (fun c3 h => ?_) (fun c3 h => ?_)
      · exact ⟨true, h, ⟨rfl, ⟨rfl, rfl, trivial⟩, trivial⟩⟩
      · try ((with_reducible apply cdX); exact rfl)
        refine iteF h (fun c4 h => ?_) (fun c4 h => ?_)
        · exact ⟨true, h, ⟨rfl, ⟨rfl, rfl, trivial⟩, trivial⟩⟩
        · try ((with_reducible apply cdX); exact rfl)
          refine iteF h (fun c5 h => ?_) (fun c5 h => ?_)
          · exact ⟨true, h, ⟨rfl, ⟨rfl, rfl, trivial⟩, trivial⟩⟩
          · try ((with_reducible apply cdX); exact rfl)
            refine iteF h (fun c6 h => ?_) (fun c6 h => ?_)
            · exact ⟨true, h, ⟨rfl, ⟨rfl, rfl, trivial⟩, trivial⟩⟩
            · exact ⟨(decide (a0 = 18)), h, ⟨rfl, ⟨rfl, rfl, trivial⟩, trivial⟩⟩
  · rintro v1 h e hp
    try ((with_reducible apply cdX); exact rfl)
    refine ifB h (fun c7 h => ?_) (fun c7 h => ?_)
    · exact retE (enc := spec_Arity.enc) h rfl
    · refine seqJ h 23 (fun x => [(3, (.d (.p (.int .i64 a0)))), (11, (.d (.p (.bool x))))]) (fun x => []) (fun J h => ?_) ?_
      · try ((with_reducible apply cdX); exact rfl)
        refine iteF h (fun c9 h => ?_) (fun c9 h => ?_)
        · exact ⟨true, h, ⟨rfl, ⟨rfl, rfl, trivial⟩, trivial⟩⟩
        · try ((with_reducible apply cdX); exact rfl)
          refine iteF h (fun c10 h => ?_) (fun c10 h => ?_)
          · exact ⟨true, h, ⟨rfl, ⟨rfl, rfl, trivial⟩, trivial⟩⟩
          · try ((with_reducible apply cdX); exact rfl)
            refine iteF h (fun c11 h => ?_) (fun c11 h => ?_)
            · exact ⟨true, h, ⟨rfl, ⟨rfl, rfl, trivial⟩, trivial⟩⟩
            · try ((with_reducible apply cdX); exact rfl)
              refine iteF h (fun c12 h => ?_) (fun c12 h => ?_)
              · exact ⟨true, h, ⟨rfl, ⟨rfl, rfl, trivial⟩, trivial⟩⟩
              · try ((with_reducible apply cdX); exact rfl)
                refine iteF h (fun c13 h => ?_) (fun c13 h => ?_)
                · exact ⟨true, h, ⟨rfl, ⟨rfl, rfl, trivial⟩, trivial⟩⟩
                · try ((with_reducible apply cdX); exact rfl)
                  refine iteF h (fun c14 h => ?_) (fun c14 h => ?_)
                  · exact ⟨true, h, ⟨rfl, ⟨rfl, rfl, trivial⟩, trivial⟩⟩
                  · try ((with_reducible apply cdX); exact rfl)
                    refine iteF h (fun c15 h => ?_) (fun c15 h => ?_)
                    · exact ⟨true, h, ⟨rfl, ⟨rfl, rfl, trivial⟩, trivial⟩⟩
                    · exact ⟨(decide (a0 = 19)), h, ⟨rfl, ⟨rfl, rfl, trivial⟩, trivial⟩⟩
      · rintro v8 h e hp
        try ((with_reducible apply cdX); exact rfl)
        refine ifB h (fun c16 h => ?_) (fun c16 h => ?_)
        · exact retE (enc := spec_Arity.enc) h rfl
        · refine seqJ h 23 (fun x => [(20, (.d (.p (.bool x))))]) (fun x => []) (fun J h => ?_) ?_
          · try ((with_reducible apply cdX); exact rfl)
            refine iteF h (fun c18 h => ?_) (fun c18 h => ?_)
            · exact ⟨true, h, ⟨rfl, ⟨rfl, trivial⟩, trivial⟩⟩
            · exact ⟨(decide (a0 = 14)), h, ⟨rfl, ⟨rfl, trivial⟩, trivial⟩⟩
          · rintro v17 h e hp
            try ((with_reducible apply cdX); exact rfl)
            refine ifB h (fun c19 h => ?_) (fun c19 h => ?_)
            · exact retE (enc := spec_Arity.enc) h rfl
            · exact retE (enc := spec_Arity.enc) h rfl
def spec_l3Shift.enc (r : List impl_Node) : Res := ([(.own true 7 (r.map impl_Node.e))], [])
def spec_l3Shift.l0 (a0 : List impl_Node) (a1 : Int) (K : Nat) : Nat → Int → (List impl_Node) → Option (List impl_Node)
  | 0, _, _ => none
  | k + 1, v2, v3 => if v2 < (a0.length : Int) then ((at_ a0 v2).bind fun x6 => ((spec_Arity.f K x6.Kind).bind fun y7 => (jn (fun (v9 : impl_Node) => jn (fun (v11 : impl_Node) => jn (fun (v13 : impl_Node) => gd ((v3.length + 1) * 72 ≤ 140737488355328) (spec_l3Shift.l0 a0 a1 K k (w64 (v2 + 1)) (v3 ++ ([v13] : List impl_Node)))) (fun j => if y7 > 2 then (j (⟨v11.Kind, v11.A, v11.B, (w64 (v11.C + a1)), v11.N, v11.Name, v11.Other⟩ : impl_Node)) else (j v11))) (fun j => if y7 > 1 then (j (⟨v9.Kind, v9.A, (w64 (v9.B + a1)), v9.C, v9.N, v9.Name, v9.Other⟩ : impl_Node)) else (j v9))) (fun j => if y7 > 0 then (j (⟨x6.Kind, (w64 (x6.A + a1)), x6.B, x6.C, x6.N, x6.Name, x6.Other⟩ : impl_Node)) else (j x6))))) else (some v3)
def spec_l3Shift.f  (K : Nat) (a0 : List impl_Node) (a1 : Int) : Option (List impl_Node) := jn (fun (v1 : List impl_Node) => some v1) (fun j => (spec_l3Shift.l0 a0 a1 K K 0 ([] : List impl_Node)).bind fun (v4 : List impl_Node) => j v4)
theorem spec_l3Shift.ev   {K : Nat} {a0 : List impl_Node} {a1 : Int} {r : List impl_Node} (h : spec_l3Shift.f  K a0 a1 = some r) : E 126 [(.d (.l true 7 (a0.map impl_Node.e))), (.d (.p (.int .i64 a1)))] = some ([(.own true 7 (r.map impl_Node.e))], []) := by
  refine Ev_intro (fn := Tryd.f126) rfl (by kernel_rfl) (c := _) rfl ⟨rfl, by simp⟩ rfl (evP_spec _ ?_)
  unfold spec_l3Shift.f at h
  refine eqM (([] : List impl_Node).map impl_Node.e) rfl ?_
  refine seqJ h 49 (fun x => [(5, (.own 5 1 2))]) (fun x => [(5, 1, 2, (some (.row true true 7 (x.map impl_Node.e))))]) (fun J h => ?_) ?_
  · refine loopX (α := Int × List impl_Node) (a := (0, ([] : List impl_Node))) 49 (fun x => [(0, (.d (.l true 7 (a0.map impl_Node.e)))), (1, (.d (.p (.int .i64 a1)))), (5, (.own 5 1 2)), (6, (.d (.p (.int .i64 x.1))))]) (fun x => [(5, 1, 2, (some (.row true true 7 (x.2.map impl_Node.e))))]) (fun k x => spec_l3Shift.l0 a0 a1 K k x.1 x.2) 0 (fun x => [(5, (.own 5 1 2))]) (fun x => [(5, 1, 2, (some (.row true true 7 (x.map impl_Node.e))))]) h (fun _ => rfl) ?_ ⟨rfl, ⟨rfl, rfl, rfl, rfl, trivial⟩, ⟨rfl, trivial⟩⟩ ?_
    · rintro k ⟨v2, v3⟩ r h e hp
      replace h : spec_l3Shift.l0 a0 a1 K (k + 1) v2 v3 = some r := h
      unfold spec_l3Shift.l0 at h
      refine goS ?_
      refine eqM ((a0.length : Int) : Int) (mLen rfl) ?_
      refine iteF h (fun c5 h => ?_) (fun c5 h => ?_)
      · refine goS ?_
        refine goS ?_
        refine bindG h fun x6 hx6 h => ?_
        refine anM (at_ix rfl hx6) ?_
        refine exM (impl_Node.e x6) (at_get rfl hx6) ?_
        refine bindG h fun y7 hy8 h => ?_
        refine exM ([(.d (.p (.int .i64 y7)))], []) ?_ ?_
        · exact spec_Arity.ev hy8
        refine seqJ h 49 (fun x => [(0, (.d (.l true 7 (a0.map impl_Node.e)))), (1, (.d (.p (.int .i64 a1)))), (5, (.own 5 1 2)), (6, (.d (.p (.int .i64 v2)))), (7, (.ptr 7 0 2 0)), (8, (.d (.p (.int .i64 y7))))]) (fun x => [(5, 1, 2, (some (.row true true 7 (v3.map impl_Node.e)))), (7, 0, 2, (some (.box [(.d (.p (.int .i64 x.Kind))), (.d (.p (.int .i64 x.A))), (.d (.p (.int .i64 x.B))), (.d (.p (.int .i64 x.C))), (.d (.p (.int .i64 x.N))), (.d (.p (.string x.Name))), (.d (.p (.string x.Other)))])))]) (fun J h => ?_) ?_
        · try ((with_reducible apply cdX); exact rfl)
          refine iteF h (fun c10 h => ?_) (fun c10 h => ?_)
          · exact ⟨(⟨x6.Kind, (w64 (x6.A + a1)), x6.B, x6.C, x6.N, x6.Name, x6.Other⟩ : impl_Node), h, ⟨rfl, ⟨rfl, rfl, rfl, rfl, rfl, rfl, trivial⟩, ⟨rfl, rfl, trivial⟩⟩⟩
          · exact ⟨x6, h, ⟨rfl, ⟨rfl, rfl, rfl, rfl, rfl, rfl, trivial⟩, ⟨rfl, rfl, trivial⟩⟩⟩
        · rintro v9 h e hp
          refine seqJ h 49 (fun x => [(0, (.d (.l true 7 (a0.map impl_Node.e)))), (1, (.d (.p (.int .i64 a1)))), (5, (.own 5 1 2)), (6, (.d (.p (.int .i64 v2)))), (7, (.ptr 7 0 2 0)), (8, (.d (.p (.int .i64 y7))))]) (fun x => [(5, 1, 2, (some (.row true true 7 (v3.map impl_Node.e)))), (7, 0, 2, (some (.box [(.d (.p (.int .i64 x.Kind))), (.d (.p (.int .i64 x.A))), (.d (.p (.int .i64 x.B))), (.d (.p (.int .i64 x.C))), (.d (.p (.int .i64 x.N))), (.d (.p (.string x.Name))), (.d (.p (.string x.Other)))])))]) (fun J h => ?_) ?_
          · try ((with_reducible apply cdX); exact rfl)
            refine iteF h (fun c12 h => ?_) (fun c12 h => ?_)
            · exact ⟨(⟨v9.Kind, v9.A, (w64 (v9.B + a1)), v9.C, v9.N, v9.Name, v9.Other⟩ : impl_Node), h, ⟨rfl, ⟨rfl, rfl, rfl, rfl, rfl, rfl, trivial⟩, ⟨rfl, rfl, trivial⟩⟩⟩
            · exact ⟨v9, h, ⟨rfl, ⟨rfl, rfl, rfl, rfl, rfl, rfl, trivial⟩, ⟨rfl, rfl, trivial⟩⟩⟩
          · rintro v11 h e hp
            refine seqJ h 49 (fun x => [(0, (.d (.l true 7 (a0.map impl_Node.e)))), (1, (.d (.p (.int .i64 a1)))), (5, (.own 5 1 2)), (6, (.d (.p (.int .i64 v2)))), (7, (.ptr 7 0 2 0))]) (fun x => [(5, 1, 2, (some (.row true true 7 (v3.map impl_Node.e)))), (7, 0, 2, (some (.box [(.d (.p (.int .i64 x.Kind))), (.d (.p (.int .i64 x.A))), (.d (.p (.int .i64 x.B))), (.d (.p (.int .i64 x.C))), (.d (.p (.int .i64 x.N))), (.d (.p (.string x.Name))), (.d (.p (.string x.Other)))])))]) (fun J h => ?_) ?_
            · try ((with_reducible apply cdX); exact rfl)
              refine iteF h (fun c14 h => ?_) (fun c14 h => ?_)
              · exact ⟨(⟨v11.Kind, v11.A, v11.B, (w64 (v11.C + a1)), v11.N, v11.Name, v11.Other⟩ : impl_Node), h, ⟨rfl, ⟨rfl, rfl, rfl, rfl, rfl, trivial⟩, ⟨rfl, rfl, trivial⟩⟩⟩
              · exact ⟨v11, h, ⟨rfl, ⟨rfl, rfl, rfl, rfl, rfl, trivial⟩, ⟨rfl, rfl, trivial⟩⟩⟩
            · rintro v13 h e hp
              refine eqM (([v13] : List impl_Node).map impl_Node.e) rfl ?_
              refine gdG h fun hc h => ?_
              refine anM (apB hc) ?_
              refine eqM ((v3 ++ ([v13] : List impl_Node)).map impl_Node.e) (mApp rfl rfl) ?_
              exact ⟨((w64 (v2 + 1)), (v3 ++ ([v13] : List impl_Node))), h, ⟨rfl, ⟨rfl, rfl, rfl, rfl, trivial⟩, ⟨rfl, trivial⟩⟩⟩
      · refine exQ h ?_
        exact ⟨rfl, ⟨rfl, trivial⟩, ⟨rfl, trivial⟩⟩
    · rintro v4 S' h ⟨qn, ⟨qa0, _⟩, ⟨qb0, _⟩⟩
      exact ⟨v4, h, ⟨qn, ⟨qa0, trivial⟩, ⟨qb0, trivial⟩⟩⟩
  · rintro v1 h e hp
    exact retE (enc := spec_l3Shift.enc) h rfl
def spec_l3Make.enc (r : List impl_Node) : Res := ([(.own true 7 (r.map impl_Node.e))], [])
def spec_l3Make.l0 (a1 : List (List impl_Node)) (K : Nat) : Nat → Int → impl_Node → (List impl_Node) → Option (impl_Node × List impl_Node)
  | 0, _, _, _ => none
  | k + 1, v3, v4, v5 => if v3 < (a1.length : Int) then (jn (fun (v9, v10) => spec_l3Make.l0 a1 K k (w64 (v3 + 1)) v9 v10) (fun j => (at_ a1 v3).bind fun x11 => ((spec_l3Shift.f K x11 (v5.length : Int)).bind fun y12 => (gd ((v5.length + y12.length) * 72 ≤ 140737488355328) (if v3 = 0 then (j ((⟨v4.Kind, (w64 (((v5 ++ y12).length : Int) - 1)), v4.B, v4.C, v4.N, v4.Name, v4.Other⟩ : impl_Node), (v5 ++ y12))) else (if v3 = 1 then (j ((⟨v4.Kind, v4.A, (w64 (((v5 ++ y12).length : Int) - 1)), v4.C, v4.N, v4.Name, v4.Other⟩ : impl_Node), (v5 ++ y12))) else (j ((⟨v4.Kind, v4.A, v4.B, (w64 (((v5 ++ y12).length : Int) - 1)), v4.N, v4.Name, v4.Other⟩ : impl_Node), (v5 ++ y12))))))))) else (some (v4, v5))
def spec_l3Make.f  (K : Nat) (a0 : impl_Node) (a1 : List (List impl_Node)) : Option (List impl_Node) := jn (fun (v1, v2) => gd ((v2.length + 1) * 72 ≤ 140737488355328) (some (v2 ++ ([v1] : List impl_Node)))) (fun j => (spec_l3Make.l0 a1 K K 0 a0 ([] : List impl_Node)).bind fun (v6, v7) => j (v6, v7))
theorem spec_l3Make.ev   {K : Nat} {a0 : impl_Node} {a1 : List (List impl_Node)} {r : List impl_Node} (h : spec_l3Make.f  K a0 a1 = some r) : E 117 [(.agg (a0.e.map .d)), (.d (.l false 1 (a1.map (eL true 7 impl_Node.e))))] = some ([(.own true 7 (r.map impl_Node.e))], []) := by
  refine Ev_intro (fn := Tryd.f117) rfl (by kernel_rfl) (c := _) rfl ⟨rfl, by simp⟩ rfl (evP_spec _ ?_)
  unfold spec_l3Make.f at h
  refine eqM (([] : List impl_Node).map impl_Node.e) rfl ?_
  refine seqJ h 44 (fun x => [(2, (.ptr 2 0 2 0)), (5, (.own 5 1 2))]) (fun x => [(2, 0, 2, (some (.box [(.d (.p (.int .i64 x.1.Kind))), (.d (.p (.int .i64 x.1.A))), (.d (.p (.int .i64 x.1.B))), (.d (.p (.int .i64 x.1.C))), (.d (.p (.int .i64 x.1.N))), (.d (.p (.string x.1.Name))), (.d (.p (.string x.1.Other)))]))), (5, 1, 2, (some (.row true true 7 (x.2.map impl_Node.e))))]) (fun J h => ?_) ?_
  · refine loopX (α := Int × impl_Node × List impl_Node) (a := (0, a0, ([] : List impl_Node))) 44 (fun x => [(1, (.d (.l false 1 (a1.map (eL true 7 impl_Node.e))))), (2, (.ptr 2 0 2 0)), (5, (.own 5 1 2)), (6, (.d (.p (.int .i64 x.1))))]) (fun x => [(2, 0, 2, (some (.box [(.d (.p (.int .i64 x.2.1.Kind))), (.d (.p (.int .i64 x.2.1.A))), (.d (.p (.int .i64 x.2.1.B))), (.d (.p (.int .i64 x.2.1.C))), (.d (.p (.int .i64 x.2.1.N))), (.d (.p (.string x.2.1.Name))), (.d (.p (.string x.2.1.Other)))]))), (5, 1, 2, (some (.row true true 7 (x.2.2.map impl_Node.e))))]) (fun k x => spec_l3Make.l0 a1 K k x.1 x.2.1 x.2.2) 0 (fun x => [(2, (.ptr 2 0 2 0)), (5, (.own 5 1 2))]) (fun x => [(2, 0, 2, (some (.box [(.d (.p (.int .i64 x.1.Kind))), (.d (.p (.int .i64 x.1.A))), (.d (.p (.int .i64 x.1.B))), (.d (.p (.int .i64 x.1.C))), (.d (.p (.int .i64 x.1.N))), (.d (.p (.string x.1.Name))), (.d (.p (.string x.1.Other)))]))), (5, 1, 2, (some (.row true true 7 (x.2.map impl_Node.e))))]) h (fun _ => rfl) ?_ ⟨rfl, ⟨rfl, rfl, rfl, rfl, trivial⟩, ⟨rfl, rfl, trivial⟩⟩ ?_
    · rintro k ⟨v3, v4, v5⟩ r h e hp
      replace h : spec_l3Make.l0 a1 K (k + 1) v3 v4 v5 = some r := h
      unfold spec_l3Make.l0 at h
      refine goS ?_
      refine eqM ((a1.length : Int) : Int) (mLen rfl) ?_
      refine iteF h (fun c8 h => ?_) (fun c8 h => ?_)
      · refine seqJ h 44 (fun x => [(1, (.d (.l false 1 (a1.map (eL true 7 impl_Node.e))))), (2, (.ptr 2 0 2 0)), (5, (.own 5 1 2)), (6, (.d (.p (.int .i64 v3))))]) (fun x => [(2, 0, 2, (some (.box [(.d (.p (.int .i64 x.1.Kind))), (.d (.p (.int .i64 x.1.A))), (.d (.p (.int .i64 x.1.B))), (.d (.p (.int .i64 x.1.C))), (.d (.p (.int .i64 x.1.N))), (.d (.p (.string x.1.Name))), (.d (.p (.string x.1.Other)))]))), (5, 1, 2, (some (.row true true 7 (x.2.map impl_Node.e))))]) (fun J h => ?_) ?_
        · refine bindG h fun x11 hx11 h => ?_
          refine anM (at_ix rfl hx11) ?_
          refine exM ((eL true 7 impl_Node.e) x11) (at_get rfl hx11) ?_
          refine eqM ((v5.length : Int) : Int) (mLen rfl) ?_
          refine bindG h fun y12 hy13 h => ?_
          refine exM ([(.own true 7 (y12.map impl_Node.e))], []) ?_ ?_
          · exact spec_l3Shift.ev hy13
          refine gdG h fun hc h => ?_
          refine anM (apB hc) ?_
          refine eqM ((v5 ++ y12).map impl_Node.e) (mApp rfl rfl) ?_
          refine iteF h (fun c14 h => ?_) (fun c14 h => ?_)
          · refine eqM (((v5 ++ y12).length : Int) : Int) (mLen rfl) ?_
            exact ⟨((⟨v4.Kind, (w64 (((v5 ++ y12).length : Int) - 1)), v4.B, v4.C, v4.N, v4.Name, v4.Other⟩ : impl_Node), (v5 ++ y12)), h, ⟨rfl, ⟨rfl, rfl, rfl, rfl, trivial⟩, ⟨rfl, rfl, trivial⟩⟩⟩
          · try ((with_reducible apply cdX); exact rfl)
            refine iteF h (fun c15 h => ?_) (fun c15 h => ?_)
            · refine eqM (((v5 ++ y12).length : Int) : Int) (mLen rfl) ?_
              exact ⟨((⟨v4.Kind, v4.A, (w64 (((v5 ++ y12).length : Int) - 1)), v4.C, v4.N, v4.Name, v4.Other⟩ : impl_Node), (v5 ++ y12)), h, ⟨rfl, ⟨rfl, rfl, rfl, rfl, trivial⟩, ⟨rfl, rfl, trivial⟩⟩⟩
            · refine eqM (((v5 ++ y12).length : Int) : Int) (mLen rfl) ?_
              exact ⟨((⟨v4.Kind, v4.A, v4.B, (w64 (((v5 ++ y12).length : Int) - 1)), v4.N, v4.Name, v4.Other⟩ : impl_Node), (v5 ++ y12)), h, ⟨rfl, ⟨rfl, rfl, rfl, rfl, trivial⟩, ⟨rfl, rfl, trivial⟩⟩⟩
        · rintro ⟨v9, v10⟩ h e hp
          exact ⟨((w64 (v3 + 1)), v9, v10), h, ⟨rfl, ⟨rfl, rfl, rfl, rfl, trivial⟩, ⟨rfl, rfl, trivial⟩⟩⟩
      · refine exQ h ?_
        exact ⟨rfl, ⟨rfl, rfl, trivial⟩, ⟨rfl, rfl, trivial⟩⟩
    · rintro ⟨v6, v7⟩ S' h ⟨qn, ⟨qa0, qa1, _⟩, ⟨qb0, qb1, _⟩⟩
      exact ⟨(v6, v7), h, ⟨qn, ⟨qa0, qa1, trivial⟩, ⟨qb0, qb1, trivial⟩⟩⟩
  · rintro ⟨v1, v2⟩ h e hp
    refine eqM (([v1] : List impl_Node).map impl_Node.e) rfl ?_
    refine gdG h fun hc h => ?_
    refine anM (apB hc) ?_
    refine eqM ((v2 ++ ([v1] : List impl_Node)).map impl_Node.e) (mApp rfl rfl) ?_
    exact retE (enc := spec_l3Make.enc) h rfl
def spec_l3Loose.enc (r : List impl_Node × spec_l1Cur) : Res := ([(.own true 7 (r.1.map impl_Node.e))], [(.ptr [(.d (.l true 1 (r.2.b.map eY))), (.d (.p (.int .i64 r.2.i))), (.d (.p (.int .i64 r.2.h_)))])])
def spec_l3Loose.l0 (r_spec_l3Loose : spec_l1Cur → Int → Option (List impl_Node × spec_l1Cur)) (a1 : Int) (v4 : Int) (K : Nat) : Nat → Int → spec_l1Cur → (List (List impl_Node)) → Option (List (List impl_Node) × spec_l1Cur)
  | 0, _, _, _ => none
  | k + 1, v40, v41, v42 => (spec_Arity.f K v4).bind fun y45 => (if v40 < y45 then ((spec_l1Below.f K v41 2).bind fun (y48, y49) => ((r_spec_l3Loose y49 (w64 ((w64 (a1 - 1)) - y48))).bind fun (y51, y52) => (gd ((v42.length + 1) * 24 ≤ 140737488355328) (spec_l3Loose.l0 r_spec_l3Loose a1 v4 K k (w64 (v40 + 1)) y52 (v42 ++ ([y51] : List (List impl_Node))))))) else (some (v42, v41)))
def spec_l3Loose.b (r_spec_l3Loose : spec_l1Cur → Int → Option (List impl_Node × spec_l1Cur)) (K : Nat) (a0 : spec_l1Cur) (a1 : Int) : Option (List impl_Node × spec_l1Cur) := (spec_l1Below.f K a0 19).bind fun (y1, y2) => (jn (fun (v4, v5) => jn (fun (v10, v11) => jn (fun (v18, v19) => jn (fun (v26, v27) => jn (fun (v32, v33) => jn (fun (v38, v39) => if (v38.length : Int) = 0 then (some (([v33] : List impl_Node), v39)) else (if (v38.length : Int) = 1 then ((at_ v38 0).bind fun x56 => ((spec_l3Make.f K v33 ([x56] : List (List impl_Node))).bind fun y57 => (some (y57, v39)))) else (if (v38.length : Int) = 2 then ((at_ v38 0).bind fun x60 => ((at_ v38 1).bind fun x61 => ((spec_l3Make.f K v33 ([x60, x61] : List (List impl_Node))).bind fun y62 => (some (y62, v39))))) else ((at_ v38 0).bind fun x64 => ((at_ v38 1).bind fun x65 => ((at_ v38 2).bind fun x66 => ((spec_l3Make.f K v33 ([x64, x65, x66] : List (List impl_Node))).bind fun y67 => (some (y67, v39))))))))) (fun j => (spec_l3Loose.l0 r_spec_l3Loose a1 v4 K K 0 v32 ([] : List (List impl_Node))).bind fun (v43, v44) => j (v43, v44))) (fun j => if v4 = 8 then ((spec_l1Below.f K v26 4).bind fun (y35, y36) => (j (y36, (⟨v27.Kind, v27.A, v27.B, v27.C, y35, v27.Name, v27.Other⟩ : impl_Node)))) else (j (v26, v27)))) (fun j => if v4 = 2 then ((spec_l1Below.f K v18 9).bind fun (y29, y30) => (j (y30, (⟨v19.Kind, v19.A, v19.B, v19.C, y29, v19.Name, v19.Other⟩ : impl_Node)))) else (j (v18, v19)))) (fun j => (spec_l3Names.f K v4).bind fun y20 => (if y20 > 1 then ((spec_l1Pick.f K v10 ([(⟨#[120]⟩ : ByteArray), (⟨#[121]⟩ : ByteArray), (⟨#[122]⟩ : ByteArray)] : List ByteArray)).bind fun (y23, y24) => (j (y24, (⟨v11.Kind, v11.A, v11.B, v11.C, v11.N, v11.Name, y23⟩ : impl_Node)))) else (j (v10, v11))))) (fun j => (spec_l3Names.f K v4).bind fun y12 => (if y12 > 0 then ((spec_l1Pick.f K v5 ([(⟨#[120]⟩ : ByteArray), (⟨#[121]⟩ : ByteArray), (⟨#[102]⟩ : ByteArray)] : List ByteArray)).bind fun (y15, y16) => (j (y16, (⟨v4, 0, 0, 0, 0, y15, (⟨#[]⟩ : ByteArray)⟩ : impl_Node)))) else (j (v5, (⟨v4, 0, 0, 0, 0, (⟨#[]⟩ : ByteArray), (⟨#[]⟩ : ByteArray)⟩ : impl_Node)))))) (fun j => if a1 ≤ 0 then ((spec_l1PickInt.f K y2 ([1, 2, 12, 1] : List Int)).bind fun (y7, y8) => (j (y7, y8))) else (j ((w64 (1 + y1)), y2))))
theorem spec_l3Loose.b_ev {r_spec_l3Loose : spec_l1Cur → Int → Option (List impl_Node × spec_l1Cur)} (hr_spec_l3Loose : ∀ {a0 : spec_l1Cur} {a1 : Int} {r : List impl_Node × spec_l1Cur}, r_spec_l3Loose a0 a1 = some r → E 95 [(.ptr [(.d (.l true 1 (a0.b.map eY))), (.d (.p (.int .i64 a0.i))), (.d (.p (.int .i64 a0.h_)))]), (.d (.p (.int .i64 a1)))] = some ([(.own true 7 (r.1.map impl_Node.e))], [(.ptr [(.d (.l true 1 (r.2.b.map eY))), (.d (.p (.int .i64 r.2.i))), (.d (.p (.int .i64 r.2.h_)))])])) {K : Nat} {a0 : spec_l1Cur} {a1 : Int} {r : List impl_Node × spec_l1Cur} (h : spec_l3Loose.b r_spec_l3Loose K a0 a1 = some r) : E 95 [(.ptr [(.d (.l true 1 (a0.b.map eY))), (.d (.p (.int .i64 a0.i))), (.d (.p (.int .i64 a0.h_)))]), (.d (.p (.int .i64 a1)))] = some ([(.own true 7 (r.1.map impl_Node.e))], [(.ptr [(.d (.l true 1 (r.2.b.map eY))), (.d (.p (.int .i64 r.2.i))), (.d (.p (.int .i64 r.2.h_)))])]) := by
  refine Ev_intro (fn := Tryd.f95) rfl (by kernel_rfl) (c := _) rfl ⟨rfl, by simp⟩ rfl (evP_spec _ ?_)
  unfold spec_l3Loose.b at h
  refine bindG h ?_
  rintro ⟨y1, y2⟩ hy3 h
  refine exM ([(.d (.p (.int .i64 y1)))], [(.ptr [(.d (.l true 1 (y2.b.map eY))), (.d (.p (.int .i64 y2.i))), (.d (.p (.int .i64 y2.h_)))])]) ?_ ?_
  · exact spec_l1Below.ev hy3
  refine seqJ h 97 (fun x => [(0, (.ptr 97 0 1 0)), (1, (.d (.p (.int .i64 a1)))), (5, (.d (.p (.int .i64 x.1))))]) (fun x => [(97, 0, 1, (some (.box [(.d (.l true 1 (x.2.b.map eY))), (.d (.p (.int .i64 x.2.i))), (.d (.p (.int .i64 x.2.h_)))])))]) (fun J h => ?_) ?_
  · try ((with_reducible apply cdX); exact rfl)
    refine iteF h (fun c6 h => ?_) (fun c6 h => ?_)
    · refine eqM (([1, 2, 12, 1] : List Int).map eI) rfl ?_
      refine bindG h ?_
      rintro ⟨y7, y8⟩ hy9 h
      refine exM ([(.d (.p (.int .i64 y7)))], [(.ptr [(.d (.l true 1 (y8.b.map eY))), (.d (.p (.int .i64 y8.i))), (.d (.p (.int .i64 y8.h_)))])]) ?_ ?_
      · exact spec_l1PickInt.ev hy9
      exact ⟨(y7, y8), h, ⟨rfl, ⟨rfl, rfl, rfl, trivial⟩, ⟨rfl, trivial⟩⟩⟩
    · exact ⟨((w64 (1 + y1)), y2), h, ⟨rfl, ⟨rfl, rfl, rfl, trivial⟩, ⟨rfl, trivial⟩⟩⟩
  · rintro ⟨v4, v5⟩ h e hp
    refine goS ?_
    refine seqJ h 97 (fun x => [(0, (.ptr 97 0 1 0)), (1, (.d (.p (.int .i64 a1)))), (5, (.d (.p (.int .i64 v4)))), (6, (.ptr 6 0 2 0))]) (fun x => [(6, 0, 2, (some (.box [(.d (.p (.int .i64 x.2.Kind))), (.d (.p (.int .i64 x.2.A))), (.d (.p (.int .i64 x.2.B))), (.d (.p (.int .i64 x.2.C))), (.d (.p (.int .i64 x.2.N))), (.d (.p (.string x.2.Name))), (.d (.p (.string x.2.Other)))]))), (97, 0, 1, (some (.box [(.d (.l true 1 (x.1.b.map eY))), (.d (.p (.int .i64 x.1.i))), (.d (.p (.int .i64 x.1.h_)))])))]) (fun J h => ?_) ?_
    · refine bindG h fun y12 hy13 h => ?_
      refine exM ([(.d (.p (.int .i64 y12)))], []) ?_ ?_
      · exact spec_l3Names.ev hy13
      refine iteF h (fun c14 h => ?_) (fun c14 h => ?_)
      · refine eqM (([(⟨#[120]⟩ : ByteArray), (⟨#[121]⟩ : ByteArray), (⟨#[102]⟩ : ByteArray)] : List ByteArray).map eS) rfl ?_
        refine bindG h ?_
        rintro ⟨y15, y16⟩ hy17 h
        refine exM ([(.d (.p (.string y15)))], [(.ptr [(.d (.l true 1 (y16.b.map eY))), (.d (.p (.int .i64 y16.i))), (.d (.p (.int .i64 y16.h_)))])]) ?_ ?_
        · exact spec_l1Pick.ev hy17
        exact ⟨(y16, (⟨v4, 0, 0, 0, 0, y15, (⟨#[]⟩ : ByteArray)⟩ : impl_Node)), h, ⟨rfl, ⟨rfl, rfl, rfl, rfl, trivial⟩, ⟨rfl, rfl, trivial⟩⟩⟩
      · exact ⟨(v5, (⟨v4, 0, 0, 0, 0, (⟨#[]⟩ : ByteArray), (⟨#[]⟩ : ByteArray)⟩ : impl_Node)), h, ⟨rfl, ⟨rfl, rfl, rfl, rfl, trivial⟩, ⟨rfl, rfl, trivial⟩⟩⟩
    · rintro ⟨v10, v11⟩ h e hp
      refine seqJ h 97 (fun x => [(0, (.ptr 97 0 1 0)), (1, (.d (.p (.int .i64 a1)))), (5, (.d (.p (.int .i64 v4)))), (6, (.ptr 6 0 2 0))]) (fun x => [(6, 0, 2, (some (.box [(.d (.p (.int .i64 x.2.Kind))), (.d (.p (.int .i64 x.2.A))), (.d (.p (.int .i64 x.2.B))), (.d (.p (.int .i64 x.2.C))), (.d (.p (.int .i64 x.2.N))), (.d (.p (.string x.2.Name))), (.d (.p (.string x.2.Other)))]))), (97, 0, 1, (some (.box [(.d (.l true 1 (x.1.b.map eY))), (.d (.p (.int .i64 x.1.i))), (.d (.p (.int .i64 x.1.h_)))])))]) (fun J h => ?_) ?_
      · refine bindG h fun y20 hy21 h => ?_
        refine exM ([(.d (.p (.int .i64 y20)))], []) ?_ ?_
        · exact spec_l3Names.ev hy21
        refine iteF h (fun c22 h => ?_) (fun c22 h => ?_)
        · refine eqM (([(⟨#[120]⟩ : ByteArray), (⟨#[121]⟩ : ByteArray), (⟨#[122]⟩ : ByteArray)] : List ByteArray).map eS) rfl ?_
          refine bindG h ?_
          rintro ⟨y23, y24⟩ hy25 h
          refine exM ([(.d (.p (.string y23)))], [(.ptr [(.d (.l true 1 (y24.b.map eY))), (.d (.p (.int .i64 y24.i))), (.d (.p (.int .i64 y24.h_)))])]) ?_ ?_
          · exact spec_l1Pick.ev hy25
          exact ⟨(y24, (⟨v11.Kind, v11.A, v11.B, v11.C, v11.N, v11.Name, y23⟩ : impl_Node)), h, ⟨rfl, ⟨rfl, rfl, rfl, rfl, trivial⟩, ⟨rfl, rfl, trivial⟩⟩⟩
        · exact ⟨(v10, v11), h, ⟨rfl, ⟨rfl, rfl, rfl, rfl, trivial⟩, ⟨rfl, rfl, trivial⟩⟩⟩
      · rintro ⟨v18, v19⟩ h e hp
        refine seqJ h 97 (fun x => [(0, (.ptr 97 0 1 0)), (1, (.d (.p (.int .i64 a1)))), (5, (.d (.p (.int .i64 v4)))), (6, (.ptr 6 0 2 0))]) (fun x => [(6, 0, 2, (some (.box [(.d (.p (.int .i64 x.2.Kind))), (.d (.p (.int .i64 x.2.A))), (.d (.p (.int .i64 x.2.B))), (.d (.p (.int .i64 x.2.C))), (.d (.p (.int .i64 x.2.N))), (.d (.p (.string x.2.Name))), (.d (.p (.string x.2.Other)))]))), (97, 0, 1, (some (.box [(.d (.l true 1 (x.1.b.map eY))), (.d (.p (.int .i64 x.1.i))), (.d (.p (.int .i64 x.1.h_)))])))]) (fun J h => ?_) ?_
        · try ((with_reducible apply cdX); exact rfl)
          refine iteF h (fun c28 h => ?_) (fun c28 h => ?_)
          · refine bindG h ?_
            rintro ⟨y29, y30⟩ hy31 h
            refine exM ([(.d (.p (.int .i64 y29)))], [(.ptr [(.d (.l true 1 (y30.b.map eY))), (.d (.p (.int .i64 y30.i))), (.d (.p (.int .i64 y30.h_)))])]) ?_ ?_
            · exact spec_l1Below.ev hy31
            exact ⟨(y30, (⟨v19.Kind, v19.A, v19.B, v19.C, y29, v19.Name, v19.Other⟩ : impl_Node)), h, ⟨rfl, ⟨rfl, rfl, rfl, rfl, trivial⟩, ⟨rfl, rfl, trivial⟩⟩⟩
          · exact ⟨(v18, v19), h, ⟨rfl, ⟨rfl, rfl, rfl, rfl, trivial⟩, ⟨rfl, rfl, trivial⟩⟩⟩
        · rintro ⟨v26, v27⟩ h e hp
          refine seqJ h 97 (fun x => [(0, (.ptr 97 0 1 0)), (1, (.d (.p (.int .i64 a1)))), (5, (.d (.p (.int .i64 v4)))), (6, (.ptr 6 0 2 0))]) (fun x => [(6, 0, 2, (some (.box [(.d (.p (.int .i64 x.2.Kind))), (.d (.p (.int .i64 x.2.A))), (.d (.p (.int .i64 x.2.B))), (.d (.p (.int .i64 x.2.C))), (.d (.p (.int .i64 x.2.N))), (.d (.p (.string x.2.Name))), (.d (.p (.string x.2.Other)))]))), (97, 0, 1, (some (.box [(.d (.l true 1 (x.1.b.map eY))), (.d (.p (.int .i64 x.1.i))), (.d (.p (.int .i64 x.1.h_)))])))]) (fun J h => ?_) ?_
          · try ((with_reducible apply cdX); exact rfl)
            refine iteF h (fun c34 h => ?_) (fun c34 h => ?_)
            · refine bindG h ?_
              rintro ⟨y35, y36⟩ hy37 h
              refine exM ([(.d (.p (.int .i64 y35)))], [(.ptr [(.d (.l true 1 (y36.b.map eY))), (.d (.p (.int .i64 y36.i))), (.d (.p (.int .i64 y36.h_)))])]) ?_ ?_
              · exact spec_l1Below.ev hy37
              exact ⟨(y36, (⟨v27.Kind, v27.A, v27.B, v27.C, y35, v27.Name, v27.Other⟩ : impl_Node)), h, ⟨rfl, ⟨rfl, rfl, rfl, rfl, trivial⟩, ⟨rfl, rfl, trivial⟩⟩⟩
            · exact ⟨(v26, v27), h, ⟨rfl, ⟨rfl, rfl, rfl, rfl, trivial⟩, ⟨rfl, rfl, trivial⟩⟩⟩
          · rintro ⟨v32, v33⟩ h e hp
            refine eqM (([] : List (List impl_Node)).map (eL true 7 impl_Node.e)) rfl ?_
            refine seqJ h 97 (fun x => [(6, (.ptr 6 0 2 0)), (7, (.own 7 1 2))]) (fun x => [(6, 0, 2, (some (.box [(.d (.p (.int .i64 v33.Kind))), (.d (.p (.int .i64 v33.A))), (.d (.p (.int .i64 v33.B))), (.d (.p (.int .i64 v33.C))), (.d (.p (.int .i64 v33.N))), (.d (.p (.string v33.Name))), (.d (.p (.string v33.Other)))]))), (7, 1, 2, (some (.row true false 1 (x.1.map (eL true 7 impl_Node.e))))), (97, 0, 1, (some (.box [(.d (.l true 1 (x.2.b.map eY))), (.d (.p (.int .i64 x.2.i))), (.d (.p (.int .i64 x.2.h_)))])))]) (fun J h => ?_) ?_
            · refine loopX (α := Int × spec_l1Cur × List (List impl_Node)) (a := (0, v32, ([] : List (List impl_Node)))) 97 (fun x => [(0, (.ptr 97 0 1 0)), (1, (.d (.p (.int .i64 a1)))), (5, (.d (.p (.int .i64 v4)))), (6, (.ptr 6 0 2 0)), (7, (.own 7 1 2)), (8, (.d (.p (.int .i64 x.1))))]) (fun x => [(6, 0, 2, (some (.box [(.d (.p (.int .i64 v33.Kind))), (.d (.p (.int .i64 v33.A))), (.d (.p (.int .i64 v33.B))), (.d (.p (.int .i64 v33.C))), (.d (.p (.int .i64 v33.N))), (.d (.p (.string v33.Name))), (.d (.p (.string v33.Other)))]))), (7, 1, 2, (some (.row true false 1 (x.2.2.map (eL true 7 impl_Node.e))))), (97, 0, 1, (some (.box [(.d (.l true 1 (x.2.1.b.map eY))), (.d (.p (.int .i64 x.2.1.i))), (.d (.p (.int .i64 x.2.1.h_)))])))]) (fun k x => spec_l3Loose.l0 r_spec_l3Loose a1 v4 K k x.1 x.2.1 x.2.2) 0 (fun x => [(6, (.ptr 6 0 2 0)), (7, (.own 7 1 2))]) (fun x => [(6, 0, 2, (some (.box [(.d (.p (.int .i64 v33.Kind))), (.d (.p (.int .i64 v33.A))), (.d (.p (.int .i64 v33.B))), (.d (.p (.int .i64 v33.C))), (.d (.p (.int .i64 v33.N))), (.d (.p (.string v33.Name))), (.d (.p (.string v33.Other)))]))), (7, 1, 2, (some (.row true false 1 (x.1.map (eL true 7 impl_Node.e))))), (97, 0, 1, (some (.box [(.d (.l true 1 (x.2.b.map eY))), (.d (.p (.int .i64 x.2.i))), (.d (.p (.int .i64 x.2.h_)))])))]) h (fun _ => rfl) ?_ ⟨rfl, ⟨rfl, rfl, rfl, rfl, rfl, rfl, trivial⟩, ⟨rfl, rfl, rfl, trivial⟩⟩ ?_
              · rintro k ⟨v40, v41, v42⟩ r h e hp
                replace h : spec_l3Loose.l0 r_spec_l3Loose a1 v4 K (k + 1) v40 v41 v42 = some r := h
                unfold spec_l3Loose.l0 at h
                refine goS ?_
                refine bindG h fun y45 hy46 h => ?_
                refine exM ([(.d (.p (.int .i64 y45)))], []) ?_ ?_
                · exact spec_Arity.ev hy46
                refine iteF h (fun c47 h => ?_) (fun c47 h => ?_)
                · refine goS ?_
                  refine bindG h ?_
                  rintro ⟨y48, y49⟩ hy50 h
                  refine exM ([(.d (.p (.int .i64 y48)))], [(.ptr [(.d (.l true 1 (y49.b.map eY))), (.d (.p (.int .i64 y49.i))), (.d (.p (.int .i64 y49.h_)))])]) ?_ ?_
                  · exact spec_l1Below.ev hy50
                  refine bindG h ?_
                  rintro ⟨y51, y52⟩ hy53 h
                  refine exM ([(.own true 7 (y51.map impl_Node.e))], [(.ptr [(.d (.l true 1 (y52.b.map eY))), (.d (.p (.int .i64 y52.i))), (.d (.p (.int .i64 y52.h_)))])]) ?_ ?_
                  · exact hr_spec_l3Loose hy53
                  refine eqM (([y51] : List (List impl_Node)).map (eL true 7 impl_Node.e)) rfl ?_
                  refine gdG h fun hc h => ?_
                  refine anM (apB hc) ?_
                  refine eqM ((v42 ++ ([y51] : List (List impl_Node))).map (eL true 7 impl_Node.e)) (mApp rfl rfl) ?_
                  exact ⟨((w64 (v40 + 1)), y52, (v42 ++ ([y51] : List (List impl_Node)))), h, ⟨rfl, ⟨rfl, rfl, rfl, rfl, rfl, rfl, trivial⟩, ⟨rfl, rfl, rfl, trivial⟩⟩⟩
                · refine exQ h ?_
                  exact ⟨rfl, ⟨rfl, rfl, trivial⟩, ⟨rfl, rfl, rfl, trivial⟩⟩
              · rintro ⟨v43, v44⟩ S' h ⟨qn, ⟨qa0, qa1, _⟩, ⟨qb0, qb1, qb2, _⟩⟩
                exact ⟨(v43, v44), h, ⟨qn, ⟨qa0, qa1, trivial⟩, ⟨qb0, qb1, qb2, trivial⟩⟩⟩
            · rintro ⟨v38, v39⟩ h e hp
              refine goS ?_
              refine eqM ((v38.length : Int) : Int) (mLen rfl) ?_
              refine iteF h (fun c54 h => ?_) (fun c54 h => ?_)
              · refine eqM (([v33] : List impl_Node).map impl_Node.e) rfl ?_
                exact retE (enc := spec_l3Loose.enc) h rfl
              · try ((with_reducible apply cdX); exact rfl)
                refine iteF h (fun c55 h => ?_) (fun c55 h => ?_)
                · refine ⟨[[70, 71, 72], [], [68], [68], [68], [], []], [], by kernel_rfl, ?_⟩
                  refine bindG h fun x56 hx56 h => ?_
                  refine anM (at_ix rfl hx56) ?_
                  refine exM ((eL true 7 impl_Node.e) x56) (at_get rfl hx56) ?_
                  refine eqM (([x56] : List (List impl_Node)).map (eL true 7 impl_Node.e)) rfl ?_
                  refine bindG h fun y57 hy58 h => ?_
                  refine exM ([(.own true 7 (y57.map impl_Node.e))], []) ?_ ?_
                  · exact spec_l3Make.ev hy58
                  exact retE (enc := spec_l3Loose.enc) h rfl
                · try ((with_reducible apply cdX); exact rfl)
                  refine iteF h (fun c59 h => ?_) (fun c59 h => ?_)
                  · refine ⟨[[78, 79, 81, 82, 83], [], [76, 81, 82], [76, 81, 82], [], [76, 78, 79], [76, 78, 79], [76], [], []], [], by kernel_rfl, ?_⟩
                    refine bindG h fun x60 hx60 h => ?_
                    refine anM (at_ix rfl hx60) ?_
                    refine exM ((eL true 7 impl_Node.e) x60) (at_get rfl hx60) ?_
                    refine bindG h fun x61 hx61 h => ?_
                    refine anM (at_ix rfl hx61) ?_
                    refine exM ((eL true 7 impl_Node.e) x61) (at_get rfl hx61) ?_
                    refine eqM (([x60, x61] : List (List impl_Node)).map (eL true 7 impl_Node.e)) rfl ?_
                    refine bindG h fun y62 hy63 h => ?_
                    refine exM ([(.own true 7 (y62.map impl_Node.e))], []) ?_ ?_
                    · exact spec_l3Make.ev hy63
                    exact retE (enc := spec_l3Loose.enc) h rfl
                  · refine ⟨[[87, 88, 90, 91, 93, 94, 95], [], [85, 90, 91, 93, 94], [85, 90, 91, 93, 94], [], [85, 87, 88, 93, 94], [85, 87, 88, 93, 94], [], [85, 87, 88, 90, 91], [85, 87, 88, 90, 91], [85], [], []], [], by kernel_rfl, ?_⟩
                    refine bindG h fun x64 hx64 h => ?_
                    refine anM (at_ix rfl hx64) ?_
                    refine exM ((eL true 7 impl_Node.e) x64) (at_get rfl hx64) ?_
                    refine bindG h fun x65 hx65 h => ?_
                    refine anM (at_ix rfl hx65) ?_
                    refine exM ((eL true 7 impl_Node.e) x65) (at_get rfl hx65) ?_
                    refine bindG h fun x66 hx66 h => ?_
                    refine anM (at_ix rfl hx66) ?_
                    refine exM ((eL true 7 impl_Node.e) x66) (at_get rfl hx66) ?_
                    refine eqM (([x64, x65, x66] : List (List impl_Node)).map (eL true 7 impl_Node.e)) rfl ?_
                    refine bindG h fun y67 hy68 h => ?_
                    refine exM ([(.own true 7 (y67.map impl_Node.e))], []) ?_ ?_
                    · exact spec_l3Make.ev hy68
                    exact retE (enc := spec_l3Loose.enc) h rfl
def spec_l3Loose.r (K : Nat) : Nat → spec_l1Cur → Int → Option (List impl_Node × spec_l1Cur)
  | 0, _, _ => none
  | d + 1, a0, a1 => spec_l3Loose.b (spec_l3Loose.r K d) K a0 a1
theorem spec_l3Loose.r_ev {K : Nat} : ∀ (d : Nat) {a0 : spec_l1Cur} {a1 : Int} {r : List impl_Node × spec_l1Cur}, spec_l3Loose.r K d a0 a1 = some r → E 95 [(.ptr [(.d (.l true 1 (a0.b.map eY))), (.d (.p (.int .i64 a0.i))), (.d (.p (.int .i64 a0.h_)))]), (.d (.p (.int .i64 a1)))] = some ([(.own true 7 (r.1.map impl_Node.e))], [(.ptr [(.d (.l true 1 (r.2.b.map eY))), (.d (.p (.int .i64 r.2.i))), (.d (.p (.int .i64 r.2.h_)))])]) := by
  intro d
  induction d with
  | zero => intro a0 a1 r h; cases h
  | succ d ih => intro a0 a1 r h; exact spec_l3Loose.b_ev ih h
def spec_l3Loose.f (K : Nat) (a0 : spec_l1Cur) (a1 : Int) : Option (List impl_Node × spec_l1Cur) := spec_l3Loose.r K K a0 a1
theorem spec_l3Loose.ev {K : Nat} {a0 : spec_l1Cur} {a1 : Int} {r : List impl_Node × spec_l1Cur} (h : spec_l3Loose.f K a0 a1 = some r) : E 95 [(.ptr [(.d (.l true 1 (a0.b.map eY))), (.d (.p (.int .i64 a0.i))), (.d (.p (.int .i64 a0.h_)))]), (.d (.p (.int .i64 a1)))] = some ([(.own true 7 (r.1.map impl_Node.e))], [(.ptr [(.d (.l true 1 (r.2.b.map eY))), (.d (.p (.int .i64 r.2.i))), (.d (.p (.int .i64 r.2.h_)))])]) := spec_l3Loose.r_ev K h
def spec_l3Var.enc (r : List impl_Node) : Res := ([(.own true 7 (r.map impl_Node.e))], [])
def spec_l3Var.f  (K : Nat) (a0 : ByteArray) : Option (List impl_Node) := some ([(⟨1, 0, 0, 0, 0, a0, (⟨#[]⟩ : ByteArray)⟩ : impl_Node)] : List impl_Node)
theorem spec_l3Var.ev   {K : Nat} {a0 : ByteArray} {r : List impl_Node} (h : spec_l3Var.f  K a0 = some r) : E 127 [(.d (.p (.string a0)))] = some ([(.own true 7 (r.map impl_Node.e))], []) := by
  refine Ev_intro (fn := Tryd.f127) rfl (by kernel_rfl) (c := _) rfl ⟨rfl, by simp⟩ rfl (evP_spec _ ?_)
  unfold spec_l3Var.f at h
  refine eqM (([(⟨1, 0, 0, 0, 0, a0, (⟨#[]⟩ : ByteArray)⟩ : impl_Node)] : List impl_Node).map impl_Node.e) rfl ?_
  exact retE (enc := spec_l3Var.enc) h rfl
def spec_l3Any.enc (r : List impl_Node × spec_l1Cur) : Res := ([(.own true 7 (r.1.map impl_Node.e))], [(.ptr [(.d (.l true 1 (r.2.b.map eY))), (.d (.p (.int .i64 r.2.i))), (.d (.p (.int .i64 r.2.h_)))])])
def spec_l3Any.b (r_spec_l3Gen : spec_l1Cur → Int → Int → (List ByteArray) → (List Int) → Option (List impl_Node × spec_l1Cur)) (K : Nat) (a0 : spec_l1Cur) (a1 : Int) (a2 : Int) (a3 : List ByteArray) (a4 : List Int) : Option (List impl_Node × spec_l1Cur) := (spec_l1Pick.f K a0 ([(⟨#[120]⟩ : ByteArray), (⟨#[121]⟩ : ByteArray), (⟨#[122]⟩ : ByteArray), (⟨#[102]⟩ : ByteArray), (⟨#[103]⟩ : ByteArray)] : List ByteArray)).bind fun (y1, y2) => ((spec_l1Pick.f K y2 ([(⟨#[117]⟩ : ByteArray), (⟨#[118]⟩ : ByteArray), (⟨#[120]⟩ : ByteArray)] : List ByteArray)).bind fun (y4, y5) => (gd ((0 + a3.length) * 16 ≤ 140737488355328) (gd (((([] : List ByteArray) ++ a3).length + 1) * 16 ≤ 140737488355328) ((spec_l1Below.f K y5 6).bind fun (y7, y8) => (jn (fun (v10 : Bool) => if v10 = true then ((spec_l1Below.f K y8 5).bind fun (y13, y14) => ((r_spec_l3Gen y14 y13 (w64 (a2 - 1)) a3 a4).bind fun (y16, y17) => (gd ((0 + a4.length) * 8 ≤ 140737488355328) (gd (((([] : List Int) ++ a4).length + 1) * 8 ≤ 140737488355328) ((r_spec_l3Gen y17 a1 (w64 (a2 - 1)) ((([] : List ByteArray) ++ a3) ++ ([y1] : List ByteArray)) ((([] : List Int) ++ a4) ++ ([y13] : List Int))).bind fun (y19, y20) => ((spec_l3Make.f K (⟨5, 0, 0, 0, 0, y1, (⟨#[]⟩ : ByteArray)⟩ : impl_Node) ([y16, y19] : List (List impl_Node))).bind fun y22 => (some (y22, y20)))))))) else (if y7 = 2 then (gd ((0 + ((([] : List ByteArray) ++ a3) ++ ([y1] : List ByteArray)).length) * 16 ≤ 140737488355328) (gd (((([] : List ByteArray) ++ ((([] : List ByteArray) ++ a3) ++ ([y1] : List ByteArray))).length + 1) * 16 ≤ 140737488355328) (gd ((0 + a4.length) * 8 ≤ 140737488355328) (gd (((([] : List Int) ++ a4).length + 2) * 8 ≤ 140737488355328) ((r_spec_l3Gen y8 0 (w64 (a2 - 1)) ((([] : List ByteArray) ++ ((([] : List ByteArray) ++ a3) ++ ([y1] : List ByteArray))) ++ ([y4] : List ByteArray)) ((([] : List Int) ++ a4) ++ ([1, 0] : List Int))).bind fun (y25, y26) => (gd ((0 + a4.length) * 8 ≤ 140737488355328) (gd (((([] : List Int) ++ a4).length + 1) * 8 ≤ 140737488355328) ((r_spec_l3Gen y26 a1 (w64 (a2 - 1)) ((([] : List ByteArray) ++ a3) ++ ([y1] : List ByteArray)) ((([] : List Int) ++ a4) ++ ([1] : List Int))).bind fun (y28, y29) => ((spec_l3Make.f K (⟨6, 0, 0, 0, 0, y1, y4⟩ : impl_Node) ([y25, y28] : List (List impl_Node))).bind fun y31 => (some (y31, y29))))))))))) else (if y7 = 3 then ((r_spec_l3Gen y8 0 (w64 (a2 - 2)) a3 a4).bind fun (y34, y35) => ((r_spec_l3Gen y35 a1 (w64 (a2 - 1)) a3 a4).bind fun (y37, y38) => ((r_spec_l3Gen y38 a1 (w64 (a2 - 2)) a3 a4).bind fun (y40, y41) => ((spec_l3Make.f K (⟨7, 0, 0, 0, 0, (⟨#[]⟩ : ByteArray), (⟨#[]⟩ : ByteArray)⟩ : impl_Node) ([y34, y37, y40] : List (List impl_Node))).bind fun y43 => (some (y43, y41)))))) else (if y7 = 4 then (gd ((0 + ((([] : List ByteArray) ++ a3) ++ ([y1] : List ByteArray)).length) * 16 ≤ 140737488355328) (gd (((([] : List ByteArray) ++ ((([] : List ByteArray) ++ a3) ++ ([y1] : List ByteArray))).length + 1) * 16 ≤ 140737488355328) ((r_spec_l3Gen y8 3 (w64 (a2 - 1)) a3 a4).bind fun (y46, y47) => ((r_spec_l3Gen y47 a1 (w64 (a2 - 2)) a3 a4).bind fun (y49, y50) => (gd ((0 + a4.length) * 8 ≤ 140737488355328) (gd (((([] : List Int) ++ a4).length + 2) * 8 ≤ 140737488355328) ((r_spec_l3Gen y50 a1 (w64 (a2 - 1)) ((([] : List ByteArray) ++ ((([] : List ByteArray) ++ a3) ++ ([y1] : List ByteArray))) ++ ([y4] : List ByteArray)) ((([] : List Int) ++ a4) ++ ([0, 3] : List Int))).bind fun (y52, y53) => ((spec_l3Make.f K (⟨14, 0, 0, 0, 0, y1, y4⟩ : impl_Node) ([y46, y49, y52] : List (List impl_Node))).bind fun y55 => (some (y55, y53)))))))))) else ((r_spec_l3Gen y8 a1 (w64 (a2 - 1)) a3 a4).bind fun (y57, y58) => (gd ((0 + a4.length) * 8 ≤ 140737488355328) (gd (((([] : List Int) ++ a4).length + 1) * 8 ≤ 140737488355328) ((r_spec_l3Gen y58 a1 (w64 (a2 - 2)) ((([] : List ByteArray) ++ a3) ++ ([y1] : List ByteArray)) ((([] : List Int) ++ a4) ++ ([0] : List Int))).bind fun (y60, y61) => ((spec_l3Make.f K (⟨19, 0, 0, 0, 0, y1, (⟨#[]⟩ : ByteArray)⟩ : impl_Node) ([y57, y60] : List (List impl_Node))).bind fun y63 => (some (y63, y61))))))))))) (fun j => if y7 = 0 then (j true) else (j (decide (y7 = 1)))))))))
theorem spec_l3Any.b_ev {r_spec_l3Gen : spec_l1Cur → Int → Int → (List ByteArray) → (List Int) → Option (List impl_Node × spec_l1Cur)} (hr_spec_l3Gen : ∀ {a0 : spec_l1Cur} {a1 : Int} {a2 : Int} {a3 : List ByteArray} {a4 : List Int} {r : List impl_Node × spec_l1Cur}, r_spec_l3Gen a0 a1 a2 a3 a4 = some r → E 118 [(.ptr [(.d (.l true 1 (a0.b.map eY))), (.d (.p (.int .i64 a0.i))), (.d (.p (.int .i64 a0.h_)))]), (.d (.p (.int .i64 a1))), (.d (.p (.int .i64 a2))), (.d (.l true 1 (a3.map eS))), (.d (.l true 1 (a4.map eI)))] = some ([(.own true 7 (r.1.map impl_Node.e))], [(.ptr [(.d (.l true 1 (r.2.b.map eY))), (.d (.p (.int .i64 r.2.i))), (.d (.p (.int .i64 r.2.h_)))])])) {K : Nat} {a0 : spec_l1Cur} {a1 : Int} {a2 : Int} {a3 : List ByteArray} {a4 : List Int} {r : List impl_Node × spec_l1Cur} (h : spec_l3Any.b r_spec_l3Gen K a0 a1 a2 a3 a4 = some r) : E 128 [(.ptr [(.d (.l true 1 (a0.b.map eY))), (.d (.p (.int .i64 a0.i))), (.d (.p (.int .i64 a0.h_)))]), (.d (.p (.int .i64 a1))), (.d (.p (.int .i64 a2))), (.d (.l true 1 (a3.map eS))), (.d (.l true 1 (a4.map eI)))] = some ([(.own true 7 (r.1.map impl_Node.e))], [(.ptr [(.d (.l true 1 (r.2.b.map eY))), (.d (.p (.int .i64 r.2.i))), (.d (.p (.int .i64 r.2.h_)))])]) := by
  refine Ev_intro (fn := Tryd.f128) rfl (by kernel_rfl) (c := _) rfl ⟨rfl, by simp⟩ rfl (evP_spec _ ?_)
  unfold spec_l3Any.b at h
  refine eqM (([(⟨#[120]⟩ : ByteArray), (⟨#[121]⟩ : ByteArray), (⟨#[122]⟩ : ByteArray), (⟨#[102]⟩ : ByteArray), (⟨#[103]⟩ : ByteArray)] : List ByteArray).map eS) rfl ?_
  refine bindG h ?_
  rintro ⟨y1, y2⟩ hy3 h
  refine exM ([(.d (.p (.string y1)))], [(.ptr [(.d (.l true 1 (y2.b.map eY))), (.d (.p (.int .i64 y2.i))), (.d (.p (.int .i64 y2.h_)))])]) ?_ ?_
  · exact spec_l1Pick.ev hy3
  refine eqM (([(⟨#[117]⟩ : ByteArray), (⟨#[118]⟩ : ByteArray), (⟨#[120]⟩ : ByteArray)] : List ByteArray).map eS) rfl ?_
  refine bindG h ?_
  rintro ⟨y4, y5⟩ hy6 h
  refine exM ([(.d (.p (.string y4)))], [(.ptr [(.d (.l true 1 (y5.b.map eY))), (.d (.p (.int .i64 y5.i))), (.d (.p (.int .i64 y5.h_)))])]) ?_ ?_
  · exact spec_l1Pick.ev hy6
  refine eqM (([] : List ByteArray).map eS) rfl ?_
  refine gdG h fun hc h => ?_
  refine anM (apB hc) ?_
  refine eqM ((([] : List ByteArray) ++ a3).map eS) (mApp rfl rfl) ?_
  refine eqM (([y1] : List ByteArray).map eS) rfl ?_
  refine gdG h fun hc h => ?_
  refine anM (apB hc) ?_
  refine eqM (((([] : List ByteArray) ++ a3) ++ ([y1] : List ByteArray)).map eS) (mApp rfl rfl) ?_
  refine goS ?_
  refine bindG h ?_
  rintro ⟨y7, y8⟩ hy9 h
  refine exM ([(.d (.p (.int .i64 y7)))], [(.ptr [(.d (.l true 1 (y8.b.map eY))), (.d (.p (.int .i64 y8.i))), (.d (.p (.int .i64 y8.h_)))])]) ?_ ?_
  · exact spec_l1Below.ev hy9
  refine seqJ h 179 (fun x => [(0, (.ptr 179 0 1 0)), (1, (.d (.p (.int .i64 a1)))), (2, (.d (.p (.int .i64 a2)))), (3, (.d (.l true 1 (a3.map eS)))), (4, (.d (.l true 1 (a4.map eI)))), (11, (.d (.p (.string y1)))), (12, (.d (.p (.string y4)))), (13, (.own 13 1 2)), (31, (.d (.p (.int .i64 y7)))), (32, (.d (.p (.bool x))))]) (fun x => [(13, 1, 2, (some (.row true true 1 (((([] : List ByteArray) ++ a3) ++ ([y1] : List ByteArray)).map eS)))), (179, 0, 1, (some (.box [(.d (.l true 1 (y8.b.map eY))), (.d (.p (.int .i64 y8.i))), (.d (.p (.int .i64 y8.h_)))])))]) (fun J h => ?_) ?_
  · try ((with_reducible apply cdX); exact rfl)
    refine iteF h (fun c11 h => ?_) (fun c11 h => ?_)
    · exact ⟨true, h, ⟨rfl, ⟨rfl, rfl, rfl, rfl, rfl, rfl, rfl, rfl, rfl, rfl, trivial⟩, ⟨rfl, rfl, trivial⟩⟩⟩
    · exact ⟨(decide (y7 = 1)), h, ⟨rfl, ⟨rfl, rfl, rfl, rfl, rfl, rfl, rfl, rfl, rfl, rfl, trivial⟩, ⟨rfl, rfl, trivial⟩⟩⟩
  · rintro v10 h e hp
    try ((with_reducible apply cdX); exact rfl)
    refine ifB h (fun c12 h => ?_) (fun c12 h => ?_)
    · refine bindG h ?_
      rintro ⟨y13, y14⟩ hy15 h
      refine exM ([(.d (.p (.int .i64 y13)))], [(.ptr [(.d (.l true 1 (y14.b.map eY))), (.d (.p (.int .i64 y14.i))), (.d (.p (.int .i64 y14.h_)))])]) ?_ ?_
      · exact spec_l1Below.ev hy15
      refine bindG h ?_
      rintro ⟨y16, y17⟩ hy18 h
      refine exM ([(.own true 7 (y16.map impl_Node.e))], [(.ptr [(.d (.l true 1 (y17.b.map eY))), (.d (.p (.int .i64 y17.i))), (.d (.p (.int .i64 y17.h_)))])]) ?_ ?_
      · exact hr_spec_l3Gen hy18
      refine eqM (([] : List Int).map eI) rfl ?_
      refine gdG h fun hc h => ?_
      refine anM (apB hc) ?_
      refine eqM ((([] : List Int) ++ a4).map eI) (mApp rfl rfl) ?_
      refine eqM (([y13] : List Int).map eI) rfl ?_
      refine gdG h fun hc h => ?_
      refine anM (apB hc) ?_
      refine eqM (((([] : List Int) ++ a4) ++ ([y13] : List Int)).map eI) (mApp rfl rfl) ?_
      refine bindG h ?_
      rintro ⟨y19, y20⟩ hy21 h
      refine exM ([(.own true 7 (y19.map impl_Node.e))], [(.ptr [(.d (.l true 1 (y20.b.map eY))), (.d (.p (.int .i64 y20.i))), (.d (.p (.int .i64 y20.h_)))])]) ?_ ?_
      · exact hr_spec_l3Gen hy21
      refine eqM (([y16, y19] : List (List impl_Node)).map (eL true 7 impl_Node.e)) rfl ?_
      refine bindG h fun y22 hy23 h => ?_
      refine exM ([(.own true 7 (y22.map impl_Node.e))], []) ?_ ?_
      · exact spec_l3Make.ev hy23
      exact retE (enc := spec_l3Any.enc) h rfl
    · try ((with_reducible apply cdX); exact rfl)
      refine iteF h (fun c24 h => ?_) (fun c24 h => ?_)
      · refine eqM (([] : List ByteArray).map eS) rfl ?_
        refine gdG h fun hc h => ?_
        refine anM (apB hc) ?_
        refine eqM ((([] : List ByteArray) ++ ((([] : List ByteArray) ++ a3) ++ ([y1] : List ByteArray))).map eS) (mApp rfl rfl) ?_
        refine eqM (([y4] : List ByteArray).map eS) rfl ?_
        refine gdG h fun hc h => ?_
        refine anM (apB hc) ?_
        refine eqM (((([] : List ByteArray) ++ ((([] : List ByteArray) ++ a3) ++ ([y1] : List ByteArray))) ++ ([y4] : List ByteArray)).map eS) (mApp rfl rfl) ?_
        refine eqM (([] : List Int).map eI) rfl ?_
        refine gdG h fun hc h => ?_
        refine anM (apB hc) ?_
        refine eqM ((([] : List Int) ++ a4).map eI) (mApp rfl rfl) ?_
        refine eqM (([1, 0] : List Int).map eI) rfl ?_
        refine gdG h fun hc h => ?_
        refine anM (apB hc) ?_
        refine eqM (((([] : List Int) ++ a4) ++ ([1, 0] : List Int)).map eI) (mApp rfl rfl) ?_
        refine bindG h ?_
        rintro ⟨y25, y26⟩ hy27 h
        refine exM ([(.own true 7 (y25.map impl_Node.e))], [(.ptr [(.d (.l true 1 (y26.b.map eY))), (.d (.p (.int .i64 y26.i))), (.d (.p (.int .i64 y26.h_)))])]) ?_ ?_
        · exact hr_spec_l3Gen hy27
        refine eqM (([] : List Int).map eI) rfl ?_
        refine gdG h fun hc h => ?_
        refine anM (apB hc) ?_
        refine eqM ((([] : List Int) ++ a4).map eI) (mApp rfl rfl) ?_
        refine eqM (([1] : List Int).map eI) rfl ?_
        refine gdG h fun hc h => ?_
        refine anM (apB hc) ?_
        refine eqM (((([] : List Int) ++ a4) ++ ([1] : List Int)).map eI) (mApp rfl rfl) ?_
        refine bindG h ?_
        rintro ⟨y28, y29⟩ hy30 h
        refine exM ([(.own true 7 (y28.map impl_Node.e))], [(.ptr [(.d (.l true 1 (y29.b.map eY))), (.d (.p (.int .i64 y29.i))), (.d (.p (.int .i64 y29.h_)))])]) ?_ ?_
        · exact hr_spec_l3Gen hy30
        refine eqM (([y25, y28] : List (List impl_Node)).map (eL true 7 impl_Node.e)) rfl ?_
        refine bindG h fun y31 hy32 h => ?_
        refine exM ([(.own true 7 (y31.map impl_Node.e))], []) ?_ ?_
        · exact spec_l3Make.ev hy32
        exact retE (enc := spec_l3Any.enc) h rfl
      · try ((with_reducible apply cdX); exact rfl)
        refine iteF h (fun c33 h => ?_) (fun c33 h => ?_)
        · refine bindG h ?_
          rintro ⟨y34, y35⟩ hy36 h
          refine exM ([(.own true 7 (y34.map impl_Node.e))], [(.ptr [(.d (.l true 1 (y35.b.map eY))), (.d (.p (.int .i64 y35.i))), (.d (.p (.int .i64 y35.h_)))])]) ?_ ?_
          · exact hr_spec_l3Gen hy36
          refine bindG h ?_
          rintro ⟨y37, y38⟩ hy39 h
          refine exM ([(.own true 7 (y37.map impl_Node.e))], [(.ptr [(.d (.l true 1 (y38.b.map eY))), (.d (.p (.int .i64 y38.i))), (.d (.p (.int .i64 y38.h_)))])]) ?_ ?_
          · exact hr_spec_l3Gen hy39
          refine bindG h ?_
          rintro ⟨y40, y41⟩ hy42 h
          refine exM ([(.own true 7 (y40.map impl_Node.e))], [(.ptr [(.d (.l true 1 (y41.b.map eY))), (.d (.p (.int .i64 y41.i))), (.d (.p (.int .i64 y41.h_)))])]) ?_ ?_
          · exact hr_spec_l3Gen hy42
          refine eqM (([y34, y37, y40] : List (List impl_Node)).map (eL true 7 impl_Node.e)) rfl ?_
          refine bindG h fun y43 hy44 h => ?_
          refine exM ([(.own true 7 (y43.map impl_Node.e))], []) ?_ ?_
          · exact spec_l3Make.ev hy44
          exact retE (enc := spec_l3Any.enc) h rfl
        · try ((with_reducible apply cdX); exact rfl)
          refine iteF h (fun c45 h => ?_) (fun c45 h => ?_)
          · refine eqM (([] : List ByteArray).map eS) rfl ?_
            refine gdG h fun hc h => ?_
            refine anM (apB hc) ?_
            refine eqM ((([] : List ByteArray) ++ ((([] : List ByteArray) ++ a3) ++ ([y1] : List ByteArray))).map eS) (mApp rfl rfl) ?_
            refine eqM (([y4] : List ByteArray).map eS) rfl ?_
            refine gdG h fun hc h => ?_
            refine anM (apB hc) ?_
            refine eqM (((([] : List ByteArray) ++ ((([] : List ByteArray) ++ a3) ++ ([y1] : List ByteArray))) ++ ([y4] : List ByteArray)).map eS) (mApp rfl rfl) ?_
            refine bindG h ?_
            rintro ⟨y46, y47⟩ hy48 h
            refine exM ([(.own true 7 (y46.map impl_Node.e))], [(.ptr [(.d (.l true 1 (y47.b.map eY))), (.d (.p (.int .i64 y47.i))), (.d (.p (.int .i64 y47.h_)))])]) ?_ ?_
            · exact hr_spec_l3Gen hy48
            refine bindG h ?_
            rintro ⟨y49, y50⟩ hy51 h
            refine exM ([(.own true 7 (y49.map impl_Node.e))], [(.ptr [(.d (.l true 1 (y50.b.map eY))), (.d (.p (.int .i64 y50.i))), (.d (.p (.int .i64 y50.h_)))])]) ?_ ?_
            · exact hr_spec_l3Gen hy51
            refine eqM (([] : List Int).map eI) rfl ?_
            refine gdG h fun hc h => ?_
            refine anM (apB hc) ?_
            refine eqM ((([] : List Int) ++ a4).map eI) (mApp rfl rfl) ?_
            refine eqM (([0, 3] : List Int).map eI) rfl ?_
            refine gdG h fun hc h => ?_
            refine anM (apB hc) ?_
            refine eqM (((([] : List Int) ++ a4) ++ ([0, 3] : List Int)).map eI) (mApp rfl rfl) ?_
            refine bindG h ?_
            rintro ⟨y52, y53⟩ hy54 h
            refine exM ([(.own true 7 (y52.map impl_Node.e))], [(.ptr [(.d (.l true 1 (y53.b.map eY))), (.d (.p (.int .i64 y53.i))), (.d (.p (.int .i64 y53.h_)))])]) ?_ ?_
            · exact hr_spec_l3Gen hy54
            refine eqM (([y46, y49, y52] : List (List impl_Node)).map (eL true 7 impl_Node.e)) rfl ?_
            refine bindG h fun y55 hy56 h => ?_
            refine exM ([(.own true 7 (y55.map impl_Node.e))], []) ?_ ?_
            · exact spec_l3Make.ev hy56
            exact retE (enc := spec_l3Any.enc) h rfl
          · refine bindG h ?_
            rintro ⟨y57, y58⟩ hy59 h
            refine exM ([(.own true 7 (y57.map impl_Node.e))], [(.ptr [(.d (.l true 1 (y58.b.map eY))), (.d (.p (.int .i64 y58.i))), (.d (.p (.int .i64 y58.h_)))])]) ?_ ?_
            · exact hr_spec_l3Gen hy59
            refine eqM (([] : List Int).map eI) rfl ?_
            refine gdG h fun hc h => ?_
            refine anM (apB hc) ?_
            refine eqM ((([] : List Int) ++ a4).map eI) (mApp rfl rfl) ?_
            refine eqM (([0] : List Int).map eI) rfl ?_
            refine gdG h fun hc h => ?_
            refine anM (apB hc) ?_
            refine eqM (((([] : List Int) ++ a4) ++ ([0] : List Int)).map eI) (mApp rfl rfl) ?_
            refine bindG h ?_
            rintro ⟨y60, y61⟩ hy62 h
            refine exM ([(.own true 7 (y60.map impl_Node.e))], [(.ptr [(.d (.l true 1 (y61.b.map eY))), (.d (.p (.int .i64 y61.i))), (.d (.p (.int .i64 y61.h_)))])]) ?_ ?_
            · exact hr_spec_l3Gen hy62
            refine eqM (([y57, y60] : List (List impl_Node)).map (eL true 7 impl_Node.e)) rfl ?_
            refine bindG h fun y63 hy64 h => ?_
            refine exM ([(.own true 7 (y63.map impl_Node.e))], []) ?_ ?_
            · exact spec_l3Make.ev hy64
            exact retE (enc := spec_l3Any.enc) h rfl
def spec_l3Int.enc (r : List impl_Node) : Res := ([(.own true 7 (r.map impl_Node.e))], [])
def spec_l3Int.f  (K : Nat) (a0 : Int) : Option (List impl_Node) := some ([(⟨2, 0, 0, 0, a0, (⟨#[]⟩ : ByteArray), (⟨#[]⟩ : ByteArray)⟩ : impl_Node)] : List impl_Node)
theorem spec_l3Int.ev   {K : Nat} {a0 : Int} {r : List impl_Node} (h : spec_l3Int.f  K a0 = some r) : E 119 [(.d (.p (.int .i64 a0)))] = some ([(.own true 7 (r.map impl_Node.e))], []) := by
  refine Ev_intro (fn := Tryd.f119) rfl (by kernel_rfl) (c := _) rfl ⟨rfl, by simp⟩ rfl (evP_spec _ ?_)
  unfold spec_l3Int.f at h
  refine eqM (([(⟨2, 0, 0, 0, a0, (⟨#[]⟩ : ByteArray), (⟨#[]⟩ : ByteArray)⟩ : impl_Node)] : List impl_Node).map impl_Node.e) rfl ?_
  exact retE (enc := spec_l3Int.enc) h rfl
def spec_l3Num.enc (r : List impl_Node × spec_l1Cur) : Res := ([(.own true 7 (r.1.map impl_Node.e))], [(.ptr [(.d (.l true 1 (r.2.b.map eY))), (.d (.p (.int .i64 r.2.i))), (.d (.p (.int .i64 r.2.h_)))])])
def spec_l3Num.b (r_spec_l3Gen : spec_l1Cur → Int → Int → (List ByteArray) → (List Int) → Option (List impl_Node × spec_l1Cur)) (K : Nat) (a0 : spec_l1Cur) (a1 : Int) (a2 : List ByteArray) (a3 : List Int) : Option (List impl_Node × spec_l1Cur) := jn (fun (v1 : spec_l1Cur) => (spec_l1Below.f K v1 9).bind fun (y62, y63) => ((spec_l3Int.f K y62).bind fun y65 => (some (y65, y63)))) (fun j => (spec_l1Below.f K a0 8).bind fun (y2, y3) => (jn (fun (v5 : Bool) => if v5 = true then ((spec_l1Below.f K y3 4).bind fun (y8, y9) => ((r_spec_l3Gen y9 0 (w64 (a1 - 1)) a2 a3).bind fun (y11, y12) => ((r_spec_l3Gen y12 0 (w64 (a1 - 1)) a2 a3).bind fun (y14, y15) => ((spec_l3Make.f K (⟨8, 0, 0, 0, y8, (⟨#[]⟩ : ByteArray), (⟨#[]⟩ : ByteArray)⟩ : impl_Node) ([y11, y14] : List (List impl_Node))).bind fun y17 => (some (y17, y15)))))) else (if y2 = 2 then ((r_spec_l3Gen y3 1 (w64 (a1 - 1)) a2 a3).bind fun (y20, y21) => ((r_spec_l3Gen y21 0 (w64 (a1 - 1)) a2 a3).bind fun (y23, y24) => ((spec_l3Make.f K (⟨4, 0, 0, 0, 0, (⟨#[]⟩ : ByteArray), (⟨#[]⟩ : ByteArray)⟩ : impl_Node) ([y20, y23] : List (List impl_Node))).bind fun y26 => (some (y26, y24))))) else (if y2 = 3 then ((spec_l1Below.f K y3 2).bind fun (y29, y30) => ((r_spec_l3Gen y30 2 (w64 (a1 - 1)) a2 a3).bind fun (y32, y33) => ((spec_l3Make.f K (⟨(w64 (10 + y29)), 0, 0, 0, 0, (⟨#[]⟩ : ByteArray), (⟨#[]⟩ : ByteArray)⟩ : impl_Node) ([y32] : List (List impl_Node))).bind fun y35 => (some (y35, y33))))) else (if y2 = 4 then ((r_spec_l3Gen y3 4 (w64 (a1 - 1)) a2 a3).bind fun (y38, y39) => ((spec_l3Make.f K (⟨16, 0, 0, 0, 0, (⟨#[]⟩ : ByteArray), (⟨#[]⟩ : ByteArray)⟩ : impl_Node) ([y38] : List (List impl_Node))).bind fun y41 => (some (y41, y39)))) else (if y2 = 5 then ((r_spec_l3Gen y3 4 (w64 (a1 - 1)) a2 a3).bind fun (y44, y45) => ((r_spec_l3Gen y45 0 (w64 (a1 - 1)) a2 a3).bind fun (y47, y48) => ((spec_l3Make.f K (⟨17, 0, 0, 0, 0, (⟨#[]⟩ : ByteArray), (⟨#[]⟩ : ByteArray)⟩ : impl_Node) ([y44, y47] : List (List impl_Node))).bind fun y50 => (some (y50, y48))))) else (if y2 = 6 then ((spec_l1Once.f K y3 2).bind fun (y53, y54) => (if y53 = true then ((r_spec_l3Gen y54 0 (w64 (a1 - 2)) a2 a3).bind fun (y57, y58) => ((spec_l3Make.f K (⟨18, 0, 0, 0, 0, (⟨#[]⟩ : ByteArray), (⟨#[]⟩ : ByteArray)⟩ : impl_Node) ([y57] : List (List impl_Node))).bind fun y60 => (some (y60, y58)))) else (j y54))) else (j y3))))))) (fun j => if y2 = 0 then (j true) else (j (decide (y2 = 1))))))
theorem spec_l3Num.b_ev {r_spec_l3Gen : spec_l1Cur → Int → Int → (List ByteArray) → (List Int) → Option (List impl_Node × spec_l1Cur)} (hr_spec_l3Gen : ∀ {a0 : spec_l1Cur} {a1 : Int} {a2 : Int} {a3 : List ByteArray} {a4 : List Int} {r : List impl_Node × spec_l1Cur}, r_spec_l3Gen a0 a1 a2 a3 a4 = some r → E 118 [(.ptr [(.d (.l true 1 (a0.b.map eY))), (.d (.p (.int .i64 a0.i))), (.d (.p (.int .i64 a0.h_)))]), (.d (.p (.int .i64 a1))), (.d (.p (.int .i64 a2))), (.d (.l true 1 (a3.map eS))), (.d (.l true 1 (a4.map eI)))] = some ([(.own true 7 (r.1.map impl_Node.e))], [(.ptr [(.d (.l true 1 (r.2.b.map eY))), (.d (.p (.int .i64 r.2.i))), (.d (.p (.int .i64 r.2.h_)))])])) {K : Nat} {a0 : spec_l1Cur} {a1 : Int} {a2 : List ByteArray} {a3 : List Int} {r : List impl_Node × spec_l1Cur} (h : spec_l3Num.b r_spec_l3Gen K a0 a1 a2 a3 = some r) : E 129 [(.ptr [(.d (.l true 1 (a0.b.map eY))), (.d (.p (.int .i64 a0.i))), (.d (.p (.int .i64 a0.h_)))]), (.d (.p (.int .i64 a1))), (.d (.l true 1 (a2.map eS))), (.d (.l true 1 (a3.map eI)))] = some ([(.own true 7 (r.1.map impl_Node.e))], [(.ptr [(.d (.l true 1 (r.2.b.map eY))), (.d (.p (.int .i64 r.2.i))), (.d (.p (.int .i64 r.2.h_)))])]) := by
  refine Ev_intro (fn := Tryd.f129) rfl (by kernel_rfl) (c := _) rfl ⟨rfl, by simp⟩ rfl (evP_spec _ ?_)
  unfold spec_l3Num.b at h
  refine seqJ h 106 (fun x => [(0, (.ptr 106 0 1 0))]) (fun x => [(106, 0, 1, (some (.box [(.d (.l true 1 (x.b.map eY))), (.d (.p (.int .i64 x.i))), (.d (.p (.int .i64 x.h_)))])))]) (fun J h => ?_) ?_
  · refine bindG h ?_
    rintro ⟨y2, y3⟩ hy4 h
    refine exM ([(.d (.p (.int .i64 y2)))], [(.ptr [(.d (.l true 1 (y3.b.map eY))), (.d (.p (.int .i64 y3.i))), (.d (.p (.int .i64 y3.h_)))])]) ?_ ?_
    · exact spec_l1Below.ev hy4
    refine seqJ h 106 (fun x => [(0, (.ptr 106 0 1 0)), (1, (.d (.p (.int .i64 a1)))), (2, (.d (.l true 1 (a2.map eS)))), (3, (.d (.l true 1 (a3.map eI)))), (10, (.d (.p (.int .i64 y2)))), (11, (.d (.p (.bool x))))]) (fun x => [(106, 0, 1, (some (.box [(.d (.l true 1 (y3.b.map eY))), (.d (.p (.int .i64 y3.i))), (.d (.p (.int .i64 y3.h_)))])))]) (fun J h => ?_) ?_
    · try ((with_reducible apply cdX); exact rfl)
      refine iteF h (fun c6 h => ?_) (fun c6 h => ?_)
      · exact ⟨true, h, ⟨rfl, ⟨rfl, rfl, rfl, rfl, rfl, rfl, trivial⟩, ⟨rfl, trivial⟩⟩⟩
      · exact ⟨(decide (y2 = 1)), h, ⟨rfl, ⟨rfl, rfl, rfl, rfl, rfl, rfl, trivial⟩, ⟨rfl, trivial⟩⟩⟩
    · rintro v5 h e hp
      try ((with_reducible apply cdX); exact rfl)
      refine ifB h (fun c7 h => ?_) (fun c7 h => ?_)
      · refine bindG h ?_
        rintro ⟨y8, y9⟩ hy10 h
        refine exM ([(.d (.p (.int .i64 y8)))], [(.ptr [(.d (.l true 1 (y9.b.map eY))), (.d (.p (.int .i64 y9.i))), (.d (.p (.int .i64 y9.h_)))])]) ?_ ?_
        · exact spec_l1Below.ev hy10
        refine bindG h ?_
        rintro ⟨y11, y12⟩ hy13 h
        refine exM ([(.own true 7 (y11.map impl_Node.e))], [(.ptr [(.d (.l true 1 (y12.b.map eY))), (.d (.p (.int .i64 y12.i))), (.d (.p (.int .i64 y12.h_)))])]) ?_ ?_
        · exact hr_spec_l3Gen hy13
        refine bindG h ?_
        rintro ⟨y14, y15⟩ hy16 h
        refine exM ([(.own true 7 (y14.map impl_Node.e))], [(.ptr [(.d (.l true 1 (y15.b.map eY))), (.d (.p (.int .i64 y15.i))), (.d (.p (.int .i64 y15.h_)))])]) ?_ ?_
        · exact hr_spec_l3Gen hy16
        refine eqM (([y11, y14] : List (List impl_Node)).map (eL true 7 impl_Node.e)) rfl ?_
        refine bindG h fun y17 hy18 h => ?_
        refine exM ([(.own true 7 (y17.map impl_Node.e))], []) ?_ ?_
        · exact spec_l3Make.ev hy18
        exact retE (enc := spec_l3Num.enc) h rfl
      · try ((with_reducible apply cdX); exact rfl)
        refine iteF h (fun c19 h => ?_) (fun c19 h => ?_)
        · refine bindG h ?_
          rintro ⟨y20, y21⟩ hy22 h
          refine exM ([(.own true 7 (y20.map impl_Node.e))], [(.ptr [(.d (.l true 1 (y21.b.map eY))), (.d (.p (.int .i64 y21.i))), (.d (.p (.int .i64 y21.h_)))])]) ?_ ?_
          · exact hr_spec_l3Gen hy22
          refine bindG h ?_
          rintro ⟨y23, y24⟩ hy25 h
          refine exM ([(.own true 7 (y23.map impl_Node.e))], [(.ptr [(.d (.l true 1 (y24.b.map eY))), (.d (.p (.int .i64 y24.i))), (.d (.p (.int .i64 y24.h_)))])]) ?_ ?_
          · exact hr_spec_l3Gen hy25
          refine eqM (([y20, y23] : List (List impl_Node)).map (eL true 7 impl_Node.e)) rfl ?_
          refine bindG h fun y26 hy27 h => ?_
          refine exM ([(.own true 7 (y26.map impl_Node.e))], []) ?_ ?_
          · exact spec_l3Make.ev hy27
          exact retE (enc := spec_l3Num.enc) h rfl
        · try ((with_reducible apply cdX); exact rfl)
          refine iteF h (fun c28 h => ?_) (fun c28 h => ?_)
          · refine bindG h ?_
            rintro ⟨y29, y30⟩ hy31 h
            refine exM ([(.d (.p (.int .i64 y29)))], [(.ptr [(.d (.l true 1 (y30.b.map eY))), (.d (.p (.int .i64 y30.i))), (.d (.p (.int .i64 y30.h_)))])]) ?_ ?_
            · exact spec_l1Below.ev hy31
            refine bindG h ?_
            rintro ⟨y32, y33⟩ hy34 h
            refine exM ([(.own true 7 (y32.map impl_Node.e))], [(.ptr [(.d (.l true 1 (y33.b.map eY))), (.d (.p (.int .i64 y33.i))), (.d (.p (.int .i64 y33.h_)))])]) ?_ ?_
            · exact hr_spec_l3Gen hy34
            refine eqM (([y32] : List (List impl_Node)).map (eL true 7 impl_Node.e)) rfl ?_
            refine bindG h fun y35 hy36 h => ?_
            refine exM ([(.own true 7 (y35.map impl_Node.e))], []) ?_ ?_
            · exact spec_l3Make.ev hy36
            exact retE (enc := spec_l3Num.enc) h rfl
          · try ((with_reducible apply cdX); exact rfl)
            refine iteF h (fun c37 h => ?_) (fun c37 h => ?_)
            · refine bindG h ?_
              rintro ⟨y38, y39⟩ hy40 h
              refine exM ([(.own true 7 (y38.map impl_Node.e))], [(.ptr [(.d (.l true 1 (y39.b.map eY))), (.d (.p (.int .i64 y39.i))), (.d (.p (.int .i64 y39.h_)))])]) ?_ ?_
              · exact hr_spec_l3Gen hy40
              refine eqM (([y38] : List (List impl_Node)).map (eL true 7 impl_Node.e)) rfl ?_
              refine bindG h fun y41 hy42 h => ?_
              refine exM ([(.own true 7 (y41.map impl_Node.e))], []) ?_ ?_
              · exact spec_l3Make.ev hy42
              exact retE (enc := spec_l3Num.enc) h rfl
            · try ((with_reducible apply cdX); exact rfl)
              refine iteF h (fun c43 h => ?_) (fun c43 h => ?_)
              · refine bindG h ?_
                rintro ⟨y44, y45⟩ hy46 h
                refine exM ([(.own true 7 (y44.map impl_Node.e))], [(.ptr [(.d (.l true 1 (y45.b.map eY))), (.d (.p (.int .i64 y45.i))), (.d (.p (.int .i64 y45.h_)))])]) ?_ ?_
                · exact hr_spec_l3Gen hy46
                refine bindG h ?_
                rintro ⟨y47, y48⟩ hy49 h
                refine exM ([(.own true 7 (y47.map impl_Node.e))], [(.ptr [(.d (.l true 1 (y48.b.map eY))), (.d (.p (.int .i64 y48.i))), (.d (.p (.int .i64 y48.h_)))])]) ?_ ?_
                · exact hr_spec_l3Gen hy49
                refine eqM (([y44, y47] : List (List impl_Node)).map (eL true 7 impl_Node.e)) rfl ?_
                refine bindG h fun y50 hy51 h => ?_
                refine exM ([(.own true 7 (y50.map impl_Node.e))], []) ?_ ?_
                · exact spec_l3Make.ev hy51
                exact retE (enc := spec_l3Num.enc) h rfl
              · try ((with_reducible apply cdX); exact rfl)
                refine iteF h (fun c52 h => ?_) (fun c52 h => ?_)
                · refine bindG h ?_
                  rintro ⟨y53, y54⟩ hy55 h
                  refine exM ([(.d (.p (.bool y53)))], [(.ptr [(.d (.l true 1 (y54.b.map eY))), (.d (.p (.int .i64 y54.i))), (.d (.p (.int .i64 y54.h_)))])]) ?_ ?_
                  · exact spec_l1Once.ev hy55
                  refine ifB h (fun c56 h => ?_) (fun c56 h => ?_)
                  · refine bindG h ?_
                    rintro ⟨y57, y58⟩ hy59 h
                    refine exM ([(.own true 7 (y57.map impl_Node.e))], [(.ptr [(.d (.l true 1 (y58.b.map eY))), (.d (.p (.int .i64 y58.i))), (.d (.p (.int .i64 y58.h_)))])]) ?_ ?_
                    · exact hr_spec_l3Gen hy59
                    refine eqM (([y57] : List (List impl_Node)).map (eL true 7 impl_Node.e)) rfl ?_
                    refine bindG h fun y60 hy61 h => ?_
                    refine exM ([(.own true 7 (y60.map impl_Node.e))], []) ?_ ?_
                    · exact spec_l3Make.ev hy61
                    exact retE (enc := spec_l3Num.enc) h rfl
                  · exact ⟨y54, h, ⟨rfl, ⟨rfl, trivial⟩, ⟨rfl, trivial⟩⟩⟩
                · exact ⟨y3, h, ⟨rfl, ⟨rfl, trivial⟩, ⟨rfl, trivial⟩⟩⟩
  · rintro v1 h e hp
    refine bindG h ?_
    rintro ⟨y62, y63⟩ hy64 h
    refine exM ([(.d (.p (.int .i64 y62)))], [(.ptr [(.d (.l true 1 (y63.b.map eY))), (.d (.p (.int .i64 y63.i))), (.d (.p (.int .i64 y63.h_)))])]) ?_ ?_
    · exact spec_l1Below.ev hy64
    refine bindG h fun y65 hy66 h => ?_
    refine exM ([(.own true 7 (y65.map impl_Node.e))], []) ?_ ?_
    · exact spec_l3Int.ev hy66
    exact retE (enc := spec_l3Num.enc) h rfl
def spec_l3Gen.enc (r : List impl_Node × spec_l1Cur) : Res := ([(.own true 7 (r.1.map impl_Node.e))], [(.ptr [(.d (.l true 1 (r.2.b.map eY))), (.d (.p (.int .i64 r.2.i))), (.d (.p (.int .i64 r.2.h_)))])])
def spec_l3Gen.l1 (a3 : List ByteArray) (v2 : Int) (K : Nat) : Nat → Bool → Int → Option (Bool)
  | 0, _, _ => none
  | k + 1, v8, v9 => if v9 < (a3.length : Int) then (jn (fun (v12 : Bool) => spec_l3Gen.l1 a3 v2 K k v12 (w64 (v9 + 1))) (fun j => if v8 = true then ((at_ a3 v9).bind fun x14 => ((at_ a3 v2).bind fun x15 => (j (!(x14.toList == x15.toList))))) else (j false))) else (some v8)
def spec_l3Gen.l0 (a1 : Int) (a3 : List ByteArray) (a4 : List Int) (K : Nat) : Nat → Int → (List ByteArray) → Option (List ByteArray)
  | 0, _, _ => none
  | k + 1, v2, v3 => if v2 < (a3.length : Int) then (jn (fun (v6 : List ByteArray) => spec_l3Gen.l0 a1 a3 a4 K k (w64 (v2 + 1)) v6) (fun j => jn (fun (v7 : Bool) => jn (fun (v16 : Bool) => if v16 = true then ((at_ a3 v2).bind fun x20 => (gd ((v3.length + 1) * 16 ≤ 140737488355328) (j (v3 ++ ([x20] : List ByteArray))))) else (j v3)) (fun j => if v7 = true then ((at_ a4 v2).bind fun x18 => (j (decide (x18 = a1)))) else (j false))) (fun j => (spec_l3Gen.l1 a3 v2 K K true (w64 (v2 + 1))).bind fun (v10 : Bool) => j v10))) else (some v3)
def spec_l3Gen.b (r_spec_l3Gen : spec_l1Cur → Int → Int → (List ByteArray) → (List Int) → Option (List impl_Node × spec_l1Cur)) (K : Nat) (a0 : spec_l1Cur) (a1 : Int) (a2 : Int) (a3 : List ByteArray) (a4 : List Int) : Option (List impl_Node × spec_l1Cur) := jn (fun (v1 : List ByteArray) => jn (fun (v21, v22) => if v21 = true then ((spec_l1Pick.f K v22 v1).bind fun (y29, y30) => ((spec_l3Var.f K y29).bind fun y32 => (some (y32, y30)))) else (jn (fun (v34, v35) => if v34 = true then ((spec_l3Any.b r_spec_l3Gen K v35 a1 a2 a3 a4).bind fun (y41, y42) => (some (y41, y42))) else ((spec_l1Pick.f K v35 ([(⟨#[120]⟩ : ByteArray), (⟨#[121]⟩ : ByteArray), (⟨#[122]⟩ : ByteArray), (⟨#[102]⟩ : ByteArray), (⟨#[103]⟩ : ByteArray)] : List ByteArray)).bind fun (y44, y45) => (if a1 = 0 then (jn (fun (v48, v49) => if v48 = true then ((spec_l3Num.b r_spec_l3Gen K v49 a2 a3 a4).bind fun (y55, y56) => (some (y55, y56))) else ((spec_l1Below.f K v49 50).bind fun (y58, y59) => ((spec_l1PickInt.f K y59 ([0, 1, 2, 3, 7, 65535, y58] : List Int)).bind fun (y61, y62) => ((spec_l3Int.f K y61).bind fun y64 => (some (y64, y62)))))) (fun j => if a2 > 0 then ((spec_l1Once.f K y45 4).bind fun (y51, y52) => (j ((!y51), y52))) else (j (false, y45)))) else (if a1 = 1 then (gd ((0 + a3.length) * 16 ≤ 140737488355328) (gd (((([] : List ByteArray) ++ a3).length + 1) * 16 ≤ 140737488355328) (gd ((0 + a4.length) * 8 ≤ 140737488355328) (gd (((([] : List Int) ++ a4).length + 1) * 8 ≤ 140737488355328) ((r_spec_l3Gen y45 0 (w64 (a2 - 1)) ((([] : List ByteArray) ++ a3) ++ ([y44] : List ByteArray)) ((([] : List Int) ++ a4) ++ ([0] : List Int))).bind fun (y67, y68) => ((spec_l3Make.f K (⟨3, 0, 0, 0, 0, y44, (⟨#[]⟩ : ByteArray)⟩ : impl_Node) ([y67] : List (List impl_Node))).bind fun y70 => (some (y70, y68)))))))) else (if a1 = 2 then ((r_spec_l3Gen y45 0 (w64 (a2 - 1)) a3 a4).bind fun (y73, y74) => ((r_spec_l3Gen y74 0 (w64 (a2 - 2)) a3 a4).bind fun (y76, y77) => ((spec_l3Make.f K (⟨9, 0, 0, 0, 0, (⟨#[]⟩ : ByteArray), (⟨#[]⟩ : ByteArray)⟩ : impl_Node) ([y73, y76] : List (List impl_Node))).bind fun y79 => (some (y79, y77))))) else (if a1 = 3 then (jn (fun (v82, v83) => if v82 = true then ((r_spec_l3Gen v83 0 (w64 (a2 - 2)) a3 a4).bind fun (y89, y90) => ((r_spec_l3Gen y90 3 (w64 (a2 - 1)) a3 a4).bind fun (y92, y93) => ((spec_l3Make.f K (⟨13, 0, 0, 0, 0, (⟨#[]⟩ : ByteArray), (⟨#[]⟩ : ByteArray)⟩ : impl_Node) ([y89, y92] : List (List impl_Node))).bind fun y95 => (some (y95, y93))))) else (some (([(⟨12, 0, 0, 0, 0, (⟨#[]⟩ : ByteArray), (⟨#[]⟩ : ByteArray)⟩ : impl_Node)] : List impl_Node), v83))) (fun j => if a2 > 0 then ((spec_l1Once.f K y45 3).bind fun (y85, y86) => (j ((!y85), y86))) else (j (false, y45)))) else ((r_spec_l3Gen y45 0 (w64 (a2 - 1)) a3 a4).bind fun (y97, y98) => ((spec_l3Make.f K (⟨15, 0, 0, 0, 0, (⟨#[]⟩ : ByteArray), (⟨#[]⟩ : ByteArray)⟩ : impl_Node) ([y97] : List (List impl_Node))).bind fun y100 => (some (y100, y98)))))))))) (fun j => if a2 > 0 then ((spec_l1Once.f K v22 3).bind fun (y37, y38) => (j (y37, y38))) else (j (false, v22))))) (fun j => if (v1.length : Int) > 0 then (if a2 ≤ 0 then (j (true, a0)) else ((spec_l1Once.f K a0 3).bind fun (y25, y26) => (j (y25, y26)))) else (j (false, a0)))) (fun j => (spec_l3Gen.l0 a1 a3 a4 K K 0 ([] : List ByteArray)).bind fun (v4 : List ByteArray) => j v4)
theorem spec_l3Gen.b_ev {r_spec_l3Gen : spec_l1Cur → Int → Int → (List ByteArray) → (List Int) → Option (List impl_Node × spec_l1Cur)} (hr_spec_l3Gen : ∀ {a0 : spec_l1Cur} {a1 : Int} {a2 : Int} {a3 : List ByteArray} {a4 : List Int} {r : List impl_Node × spec_l1Cur}, r_spec_l3Gen a0 a1 a2 a3 a4 = some r → E 118 [(.ptr [(.d (.l true 1 (a0.b.map eY))), (.d (.p (.int .i64 a0.i))), (.d (.p (.int .i64 a0.h_)))]), (.d (.p (.int .i64 a1))), (.d (.p (.int .i64 a2))), (.d (.l true 1 (a3.map eS))), (.d (.l true 1 (a4.map eI)))] = some ([(.own true 7 (r.1.map impl_Node.e))], [(.ptr [(.d (.l true 1 (r.2.b.map eY))), (.d (.p (.int .i64 r.2.i))), (.d (.p (.int .i64 r.2.h_)))])])) {K : Nat} {a0 : spec_l1Cur} {a1 : Int} {a2 : Int} {a3 : List ByteArray} {a4 : List Int} {r : List impl_Node × spec_l1Cur} (h : spec_l3Gen.b r_spec_l3Gen K a0 a1 a2 a3 a4 = some r) : E 118 [(.ptr [(.d (.l true 1 (a0.b.map eY))), (.d (.p (.int .i64 a0.i))), (.d (.p (.int .i64 a0.h_)))]), (.d (.p (.int .i64 a1))), (.d (.p (.int .i64 a2))), (.d (.l true 1 (a3.map eS))), (.d (.l true 1 (a4.map eI)))] = some ([(.own true 7 (r.1.map impl_Node.e))], [(.ptr [(.d (.l true 1 (r.2.b.map eY))), (.d (.p (.int .i64 r.2.i))), (.d (.p (.int .i64 r.2.h_)))])]) := by
  refine Ev_intro (fn := Tryd.f118) rfl (by kernel_rfl) (c := _) rfl ⟨rfl, by simp⟩ rfl (evP_spec _ ?_)
  unfold spec_l3Gen.b at h
  refine eqM (([] : List ByteArray).map eS) rfl ?_
  refine seqJ h 183 (fun x => [(0, (.ptr 183 0 1 0)), (1, (.d (.p (.int .i64 a1)))), (2, (.d (.p (.int .i64 a2)))), (3, (.d (.l true 1 (a3.map eS)))), (4, (.d (.l true 1 (a4.map eI)))), (11, (.own 11 1 2))]) (fun x => [(11, 1, 2, (some (.row true true 1 (x.map eS)))), (183, 0, 1, (some (.box [(.d (.l true 1 (a0.b.map eY))), (.d (.p (.int .i64 a0.i))), (.d (.p (.int .i64 a0.h_)))])))]) (fun J h => ?_) ?_
  · refine loopX (α := Int × List ByteArray) (a := (0, ([] : List ByteArray))) 183 (fun x => [(0, (.ptr 183 0 1 0)), (1, (.d (.p (.int .i64 a1)))), (2, (.d (.p (.int .i64 a2)))), (3, (.d (.l true 1 (a3.map eS)))), (4, (.d (.l true 1 (a4.map eI)))), (11, (.own 11 1 2)), (12, (.d (.p (.int .i64 x.1))))]) (fun x => [(11, 1, 2, (some (.row true true 1 (x.2.map eS)))), (183, 0, 1, (some (.box [(.d (.l true 1 (a0.b.map eY))), (.d (.p (.int .i64 a0.i))), (.d (.p (.int .i64 a0.h_)))])))]) (fun k x => spec_l3Gen.l0 a1 a3 a4 K k x.1 x.2) 0 (fun x => [(0, (.ptr 183 0 1 0)), (1, (.d (.p (.int .i64 a1)))), (2, (.d (.p (.int .i64 a2)))), (3, (.d (.l true 1 (a3.map eS)))), (4, (.d (.l true 1 (a4.map eI)))), (11, (.own 11 1 2))]) (fun x => [(11, 1, 2, (some (.row true true 1 (x.map eS)))), (183, 0, 1, (some (.box [(.d (.l true 1 (a0.b.map eY))), (.d (.p (.int .i64 a0.i))), (.d (.p (.int .i64 a0.h_)))])))]) h (fun _ => rfl) ?_ ⟨rfl, ⟨rfl, rfl, rfl, rfl, rfl, rfl, rfl, trivial⟩, ⟨rfl, rfl, trivial⟩⟩ ?_
    · rintro k ⟨v2, v3⟩ r h e hp
      replace h : spec_l3Gen.l0 a1 a3 a4 K (k + 1) v2 v3 = some r := h
      unfold spec_l3Gen.l0 at h
      refine goS ?_
      refine eqM ((a3.length : Int) : Int) (mLen rfl) ?_
      refine iteF h (fun c5 h => ?_) (fun c5 h => ?_)
      · refine seqJ h 183 (fun x => [(0, (.ptr 183 0 1 0)), (1, (.d (.p (.int .i64 a1)))), (2, (.d (.p (.int .i64 a2)))), (3, (.d (.l true 1 (a3.map eS)))), (4, (.d (.l true 1 (a4.map eI)))), (11, (.own 11 1 2)), (12, (.d (.p (.int .i64 v2))))]) (fun x => [(11, 1, 2, (some (.row true true 1 (x.map eS)))), (183, 0, 1, (some (.box [(.d (.l true 1 (a0.b.map eY))), (.d (.p (.int .i64 a0.i))), (.d (.p (.int .i64 a0.h_)))])))]) (fun J h => ?_) ?_
        · refine seqJ h 183 (fun x => [(0, (.ptr 183 0 1 0)), (1, (.d (.p (.int .i64 a1)))), (2, (.d (.p (.int .i64 a2)))), (3, (.d (.l true 1 (a3.map eS)))), (4, (.d (.l true 1 (a4.map eI)))), (11, (.own 11 1 2)), (12, (.d (.p (.int .i64 v2)))), (13, (.d (.p (.bool x))))]) (fun x => [(11, 1, 2, (some (.row true true 1 (v3.map eS)))), (183, 0, 1, (some (.box [(.d (.l true 1 (a0.b.map eY))), (.d (.p (.int .i64 a0.i))), (.d (.p (.int .i64 a0.h_)))])))]) (fun J h => ?_) ?_
          · refine loopX (α := Bool × Int) (a := (true, (w64 (v2 + 1)))) 183 (fun x => [(0, (.ptr 183 0 1 0)), (1, (.d (.p (.int .i64 a1)))), (2, (.d (.p (.int .i64 a2)))), (3, (.d (.l true 1 (a3.map eS)))), (4, (.d (.l true 1 (a4.map eI)))), (11, (.own 11 1 2)), (12, (.d (.p (.int .i64 v2)))), (13, (.d (.p (.bool x.1)))), (14, (.d (.p (.int .i64 x.2))))]) (fun x => [(11, 1, 2, (some (.row true true 1 (v3.map eS)))), (183, 0, 1, (some (.box [(.d (.l true 1 (a0.b.map eY))), (.d (.p (.int .i64 a0.i))), (.d (.p (.int .i64 a0.h_)))])))]) (fun k x => spec_l3Gen.l1 a3 v2 K k x.1 x.2) 2 (fun x => [(0, (.ptr 183 0 1 0)), (1, (.d (.p (.int .i64 a1)))), (2, (.d (.p (.int .i64 a2)))), (3, (.d (.l true 1 (a3.map eS)))), (4, (.d (.l true 1 (a4.map eI)))), (11, (.own 11 1 2)), (12, (.d (.p (.int .i64 v2)))), (13, (.d (.p (.bool x))))]) (fun x => [(11, 1, 2, (some (.row true true 1 (v3.map eS)))), (183, 0, 1, (some (.box [(.d (.l true 1 (a0.b.map eY))), (.d (.p (.int .i64 a0.i))), (.d (.p (.int .i64 a0.h_)))])))]) h (fun _ => rfl) ?_ ⟨rfl, ⟨rfl, rfl, rfl, rfl, rfl, rfl, rfl, rfl, rfl, trivial⟩, ⟨rfl, rfl, trivial⟩⟩ ?_
            · rintro k ⟨v8, v9⟩ r h e hp
              replace h : spec_l3Gen.l1 a3 v2 K (k + 1) v8 v9 = some r := h
              unfold spec_l3Gen.l1 at h
              refine goS ?_
              refine eqM ((a3.length : Int) : Int) (mLen rfl) ?_
              refine iteF h (fun c11 h => ?_) (fun c11 h => ?_)
              · refine seqJ h 183 (fun x => [(0, (.ptr 183 0 1 0)), (1, (.d (.p (.int .i64 a1)))), (2, (.d (.p (.int .i64 a2)))), (3, (.d (.l true 1 (a3.map eS)))), (4, (.d (.l true 1 (a4.map eI)))), (11, (.own 11 1 2)), (12, (.d (.p (.int .i64 v2)))), (13, (.d (.p (.bool x)))), (14, (.d (.p (.int .i64 v9))))]) (fun x => [(11, 1, 2, (some (.row true true 1 (v3.map eS)))), (183, 0, 1, (some (.box [(.d (.l true 1 (a0.b.map eY))), (.d (.p (.int .i64 a0.i))), (.d (.p (.int .i64 a0.h_)))])))]) (fun J h => ?_) ?_
                · refine ⟨[[], [], [], [], [39, 40], [39, 40], [], [], [35, 36], [35, 36], [], [], []], [], by kernel_rfl, ?_⟩
                  refine ifB h (fun c13 h => ?_) (fun c13 h => ?_)
                  · refine Ask.T rfl ?_
                    refine Ask.T rfl ?_
                    refine bindG h fun x14 hx14 h => ?_
                    refine anM (at_ix rfl hx14) ?_
                    refine Ask.T rfl ?_
                    refine exM (eS x14) (at_get rfl hx14) ?_
                    refine Ask.T rfl ?_
                    refine Ask.T rfl ?_
                    refine Ask.T rfl ?_
                    refine bindG h fun x15 hx15 h => ?_
                    refine anM (at_ix rfl hx15) ?_
                    refine Ask.T rfl ?_
                    refine exM (eS x15) (at_get rfl hx15) ?_
                    refine Ask.T rfl ?_
                    refine Ask.T rfl ?_
                    exact ⟨(!(x14.toList == x15.toList)), h, ⟨rfl, ⟨rfl, rfl, rfl, rfl, rfl, rfl, rfl, rfl, rfl, trivial⟩, ⟨rfl, rfl, trivial⟩⟩⟩
                  · refine Ask.F rfl ?_
                    refine Ask.F rfl ?_
                    refine Ask.F rfl ?_
                    refine Ask.F rfl ?_
                    refine Ask.F rfl ?_
                    refine Ask.F rfl ?_
                    refine Ask.F rfl ?_
                    refine Ask.F rfl ?_
                    refine Ask.F rfl ?_
                    exact ⟨false, h, ⟨rfl, ⟨rfl, rfl, rfl, rfl, rfl, rfl, rfl, rfl, rfl, trivial⟩, ⟨rfl, rfl, trivial⟩⟩⟩
                · rintro v12 h e hp
                  exact ⟨(v12, (w64 (v9 + 1))), h, ⟨rfl, ⟨rfl, rfl, rfl, rfl, rfl, rfl, rfl, rfl, rfl, trivial⟩, ⟨rfl, rfl, trivial⟩⟩⟩
              · refine exQ h ?_
                exact ⟨rfl, ⟨rfl, rfl, rfl, rfl, rfl, rfl, rfl, rfl, trivial⟩, ⟨rfl, rfl, trivial⟩⟩
            · rintro v10 S' h ⟨qn, ⟨qa0, qa1, qa2, qa3, qa4, qa5, qa6, qa7, _⟩, ⟨qb0, qb1, _⟩⟩
              exact ⟨v10, h, ⟨qn, ⟨qa0, qa1, qa2, qa3, qa4, qa5, qa6, qa7, trivial⟩, ⟨qb0, qb1, trivial⟩⟩⟩
          · rintro v7 h e hp
            refine seqJ h 183 (fun x => [(0, (.ptr 183 0 1 0)), (1, (.d (.p (.int .i64 a1)))), (2, (.d (.p (.int .i64 a2)))), (3, (.d (.l true 1 (a3.map eS)))), (4, (.d (.l true 1 (a4.map eI)))), (11, (.own 11 1 2)), (12, (.d (.p (.int .i64 v2)))), (51, (.d (.p (.bool x))))]) (fun x => [(11, 1, 2, (some (.row true true 1 (v3.map eS)))), (183, 0, 1, (some (.box [(.d (.l true 1 (a0.b.map eY))), (.d (.p (.int .i64 a0.i))), (.d (.p (.int .i64 a0.h_)))])))]) (fun J h => ?_) ?_
            · try ((with_reducible apply cdX); exact rfl)
              refine ifB h (fun c17 h => ?_) (fun c17 h => ?_)
              · refine Ask.T rfl ?_
                refine Ask.T rfl ?_
                refine bindG h fun x18 hx18 h => ?_
                refine anM (at_ix rfl hx18) ?_
                refine Ask.T rfl ?_
                refine exM (eI x18) (at_get rfl hx18) ?_
                refine Ask.T rfl ?_
                refine Ask.T rfl ?_
                refine Ask.T rfl ?_
                exact ⟨(decide (x18 = a1)), h, ⟨rfl, ⟨rfl, rfl, rfl, rfl, rfl, rfl, rfl, rfl, trivial⟩, ⟨rfl, rfl, trivial⟩⟩⟩
              · refine Ask.F rfl ?_
                refine Ask.F rfl ?_
                refine Ask.F rfl ?_
                refine Ask.F rfl ?_
                refine Ask.F rfl ?_
                refine Ask.F rfl ?_
                exact ⟨false, h, ⟨rfl, ⟨rfl, rfl, rfl, rfl, rfl, rfl, rfl, rfl, trivial⟩, ⟨rfl, rfl, trivial⟩⟩⟩
            · rintro v16 h e hp
              try ((with_reducible apply cdX); exact rfl)
              refine ifB h (fun c19 h => ?_) (fun c19 h => ?_)
              · refine bindG h fun x20 hx20 h => ?_
                refine anM (at_ix rfl hx20) ?_
                refine exM (eS x20) (at_get rfl hx20) ?_
                refine eqM (([x20] : List ByteArray).map eS) rfl ?_
                refine gdG h fun hc h => ?_
                refine anM (apB hc) ?_
                refine eqM ((v3 ++ ([x20] : List ByteArray)).map eS) (mApp rfl rfl) ?_
                exact ⟨(v3 ++ ([x20] : List ByteArray)), h, ⟨rfl, ⟨rfl, rfl, rfl, rfl, rfl, rfl, rfl, trivial⟩, ⟨rfl, rfl, trivial⟩⟩⟩
              · exact ⟨v3, h, ⟨rfl, ⟨rfl, rfl, rfl, rfl, rfl, rfl, rfl, trivial⟩, ⟨rfl, rfl, trivial⟩⟩⟩
        · rintro v6 h e hp
          exact ⟨((w64 (v2 + 1)), v6), h, ⟨rfl, ⟨rfl, rfl, rfl, rfl, rfl, rfl, rfl, trivial⟩, ⟨rfl, rfl, trivial⟩⟩⟩
      · refine exQ h ?_
        exact ⟨rfl, ⟨rfl, rfl, rfl, rfl, rfl, rfl, trivial⟩, ⟨rfl, rfl, trivial⟩⟩
    · rintro v4 S' h ⟨qn, ⟨qa0, qa1, qa2, qa3, qa4, qa5, _⟩, ⟨qb0, qb1, _⟩⟩
      exact ⟨v4, h, ⟨qn, ⟨qa0, qa1, qa2, qa3, qa4, qa5, trivial⟩, ⟨qb0, qb1, trivial⟩⟩⟩
  · rintro v1 h e hp
    refine goS ?_
    refine seqJ h 183 (fun x => [(0, (.ptr 183 0 1 0)), (1, (.d (.p (.int .i64 a1)))), (2, (.d (.p (.int .i64 a2)))), (3, (.d (.l true 1 (a3.map eS)))), (4, (.d (.l true 1 (a4.map eI)))), (11, (.own 11 1 2)), (69, (.d (.p (.bool x.1))))]) (fun x => [(11, 1, 2, (some (.row true true 1 (v1.map eS)))), (183, 0, 1, (some (.box [(.d (.l true 1 (x.2.b.map eY))), (.d (.p (.int .i64 x.2.i))), (.d (.p (.int .i64 x.2.h_)))])))]) (fun J h => ?_) ?_
    · refine eqM ((v1.length : Int) : Int) (mLen rfl) ?_
      refine iteF h (fun c23 h => ?_) (fun c23 h => ?_)
      · refine Ask.T rfl ?_
        refine Ask.T rfl ?_
        refine iteF h (fun c24 h => ?_) (fun c24 h => ?_)
        · refine Ask.T rfl ?_
          refine Ask.T rfl ?_
          refine Ask.T rfl ?_
          refine Ask.T rfl ?_
          exact ⟨(true, a0), h, ⟨rfl, ⟨rfl, rfl, rfl, rfl, rfl, rfl, rfl, trivial⟩, ⟨rfl, rfl, trivial⟩⟩⟩
        · refine Ask.F rfl ?_
          refine bindG h ?_
          rintro ⟨y25, y26⟩ hy27 h
          refine exM ([(.d (.p (.bool y25)))], [(.ptr [(.d (.l true 1 (y26.b.map eY))), (.d (.p (.int .i64 y26.i))), (.d (.p (.int .i64 y26.h_)))])]) ?_ ?_
          · exact spec_l1Once.ev hy27
          refine Ask.T rfl ?_
          refine Ask.F rfl ?_
          refine Ask.T rfl ?_
          exact ⟨(y25, y26), h, ⟨rfl, ⟨rfl, rfl, rfl, rfl, rfl, rfl, rfl, trivial⟩, ⟨rfl, rfl, trivial⟩⟩⟩
      · refine Ask.F rfl ?_
        refine Ask.F rfl ?_
        refine Ask.F rfl ?_
        refine Ask.F rfl ?_
        exact ⟨(false, a0), h, ⟨rfl, ⟨rfl, rfl, rfl, rfl, rfl, rfl, rfl, trivial⟩, ⟨rfl, rfl, trivial⟩⟩⟩
    · rintro ⟨v21, v22⟩ h e hp
      try ((with_reducible apply cdX); exact rfl)
      refine ifB h (fun c28 h => ?_) (fun c28 h => ?_)
      · refine bindG h ?_
        rintro ⟨y29, y30⟩ hy31 h
        refine exM ([(.d (.p (.string y29)))], [(.ptr [(.d (.l true 1 (y30.b.map eY))), (.d (.p (.int .i64 y30.i))), (.d (.p (.int .i64 y30.h_)))])]) ?_ ?_
        · exact spec_l1Pick.ev hy31
        refine bindG h fun y32 hy33 h => ?_
        refine exM ([(.own true 7 (y32.map impl_Node.e))], []) ?_ ?_
        · exact spec_l3Var.ev hy33
        exact retE (enc := spec_l3Gen.enc) h rfl
      · refine goS ?_
        refine seqJ h 183 (fun x => [(0, (.ptr 183 0 1 0)), (1, (.d (.p (.int .i64 a1)))), (2, (.d (.p (.int .i64 a2)))), (3, (.d (.l true 1 (a3.map eS)))), (4, (.d (.l true 1 (a4.map eI)))), (79, (.d (.p (.bool x.1))))]) (fun x => [(183, 0, 1, (some (.box [(.d (.l true 1 (x.2.b.map eY))), (.d (.p (.int .i64 x.2.i))), (.d (.p (.int .i64 x.2.h_)))])))]) (fun J h => ?_) ?_
        · try ((with_reducible apply cdX); exact rfl)
          refine iteF h (fun c36 h => ?_) (fun c36 h => ?_)
          · refine Ask.T rfl ?_
            refine bindG h ?_
            rintro ⟨y37, y38⟩ hy39 h
            refine exM ([(.d (.p (.bool y37)))], [(.ptr [(.d (.l true 1 (y38.b.map eY))), (.d (.p (.int .i64 y38.i))), (.d (.p (.int .i64 y38.h_)))])]) ?_ ?_
            · exact spec_l1Once.ev hy39
            refine Ask.T rfl ?_
            exact ⟨(y37, y38), h, ⟨rfl, ⟨rfl, rfl, rfl, rfl, rfl, rfl, trivial⟩, ⟨rfl, trivial⟩⟩⟩
          · refine Ask.F rfl ?_
            refine Ask.F rfl ?_
            exact ⟨(false, v22), h, ⟨rfl, ⟨rfl, rfl, rfl, rfl, rfl, rfl, trivial⟩, ⟨rfl, trivial⟩⟩⟩
        · rintro ⟨v34, v35⟩ h e hp
          try ((with_reducible apply cdX); exact rfl)
          refine ifB h (fun c40 h => ?_) (fun c40 h => ?_)
          · refine bindG h ?_
            rintro ⟨y41, y42⟩ hy43 h
            refine exM ([(.own true 7 (y41.map impl_Node.e))], [(.ptr [(.d (.l true 1 (y42.b.map eY))), (.d (.p (.int .i64 y42.i))), (.d (.p (.int .i64 y42.h_)))])]) ?_ ?_
            · exact spec_l3Any.b_ev hr_spec_l3Gen hy43
            exact retE (enc := spec_l3Gen.enc) h rfl
          · refine eqM (([(⟨#[120]⟩ : ByteArray), (⟨#[121]⟩ : ByteArray), (⟨#[122]⟩ : ByteArray), (⟨#[102]⟩ : ByteArray), (⟨#[103]⟩ : ByteArray)] : List ByteArray).map eS) rfl ?_
            refine bindG h ?_
            rintro ⟨y44, y45⟩ hy46 h
            refine exM ([(.d (.p (.string y44)))], [(.ptr [(.d (.l true 1 (y45.b.map eY))), (.d (.p (.int .i64 y45.i))), (.d (.p (.int .i64 y45.h_)))])]) ?_ ?_
            · exact spec_l1Pick.ev hy46
            refine goS ?_
            try ((with_reducible apply cdX); exact rfl)
            refine iteF h (fun c47 h => ?_) (fun c47 h => ?_)
            · refine goS ?_
              refine seqJ h 183 (fun x => [(0, (.ptr 183 0 1 0)), (2, (.d (.p (.int .i64 a2)))), (3, (.d (.l true 1 (a3.map eS)))), (4, (.d (.l true 1 (a4.map eI)))), (98, (.d (.p (.bool x.1))))]) (fun x => [(183, 0, 1, (some (.box [(.d (.l true 1 (x.2.b.map eY))), (.d (.p (.int .i64 x.2.i))), (.d (.p (.int .i64 x.2.h_)))])))]) (fun J h => ?_) ?_
              · try ((with_reducible apply cdX); exact rfl)
                refine iteF h (fun c50 h => ?_) (fun c50 h => ?_)
                · refine Ask.T rfl ?_
                  refine bindG h ?_
                  rintro ⟨y51, y52⟩ hy53 h
                  refine exM ([(.d (.p (.bool y51)))], [(.ptr [(.d (.l true 1 (y52.b.map eY))), (.d (.p (.int .i64 y52.i))), (.d (.p (.int .i64 y52.h_)))])]) ?_ ?_
                  · exact spec_l1Once.ev hy53
                  refine Ask.T rfl ?_
                  refine Ask.T rfl ?_
                  exact ⟨((!y51), y52), h, ⟨rfl, ⟨rfl, rfl, rfl, rfl, rfl, trivial⟩, ⟨rfl, trivial⟩⟩⟩
                · refine Ask.F rfl ?_
                  refine Ask.F rfl ?_
                  refine Ask.F rfl ?_
                  exact ⟨(false, y45), h, ⟨rfl, ⟨rfl, rfl, rfl, rfl, rfl, trivial⟩, ⟨rfl, trivial⟩⟩⟩
              · rintro ⟨v48, v49⟩ h e hp
                try ((with_reducible apply cdX); exact rfl)
                refine ifB h (fun c54 h => ?_) (fun c54 h => ?_)
                · refine bindG h ?_
                  rintro ⟨y55, y56⟩ hy57 h
                  refine exM ([(.own true 7 (y55.map impl_Node.e))], [(.ptr [(.d (.l true 1 (y56.b.map eY))), (.d (.p (.int .i64 y56.i))), (.d (.p (.int .i64 y56.h_)))])]) ?_ ?_
                  · exact spec_l3Num.b_ev hr_spec_l3Gen hy57
                  exact retE (enc := spec_l3Gen.enc) h rfl
                · refine bindG h ?_
                  rintro ⟨y58, y59⟩ hy60 h
                  refine exM ([(.d (.p (.int .i64 y58)))], [(.ptr [(.d (.l true 1 (y59.b.map eY))), (.d (.p (.int .i64 y59.i))), (.d (.p (.int .i64 y59.h_)))])]) ?_ ?_
                  · exact spec_l1Below.ev hy60
                  refine eqM (([0, 1, 2, 3, 7, 65535, y58] : List Int).map eI) rfl ?_
                  refine bindG h ?_
                  rintro ⟨y61, y62⟩ hy63 h
                  refine exM ([(.d (.p (.int .i64 y61)))], [(.ptr [(.d (.l true 1 (y62.b.map eY))), (.d (.p (.int .i64 y62.i))), (.d (.p (.int .i64 y62.h_)))])]) ?_ ?_
                  · exact spec_l1PickInt.ev hy63
                  refine bindG h fun y64 hy65 h => ?_
                  refine exM ([(.own true 7 (y64.map impl_Node.e))], []) ?_ ?_
                  · exact spec_l3Int.ev hy65
                  exact retE (enc := spec_l3Gen.enc) h rfl
            · try ((with_reducible apply cdX); exact rfl)
              refine iteF h (fun c66 h => ?_) (fun c66 h => ?_)
              · refine eqM (([] : List ByteArray).map eS) rfl ?_
                refine gdG h fun hc h => ?_
                refine anM (apB hc) ?_
                refine eqM ((([] : List ByteArray) ++ a3).map eS) (mApp rfl rfl) ?_
                refine eqM (([y44] : List ByteArray).map eS) rfl ?_
                refine gdG h fun hc h => ?_
                refine anM (apB hc) ?_
                refine eqM (((([] : List ByteArray) ++ a3) ++ ([y44] : List ByteArray)).map eS) (mApp rfl rfl) ?_
                refine eqM (([] : List Int).map eI) rfl ?_
                refine gdG h fun hc h => ?_
                refine anM (apB hc) ?_
                refine eqM ((([] : List Int) ++ a4).map eI) (mApp rfl rfl) ?_
                refine eqM (([0] : List Int).map eI) rfl ?_
                refine gdG h fun hc h => ?_
                refine anM (apB hc) ?_
                refine eqM (((([] : List Int) ++ a4) ++ ([0] : List Int)).map eI) (mApp rfl rfl) ?_
                refine bindG h ?_
                rintro ⟨y67, y68⟩ hy69 h
                refine exM ([(.own true 7 (y67.map impl_Node.e))], [(.ptr [(.d (.l true 1 (y68.b.map eY))), (.d (.p (.int .i64 y68.i))), (.d (.p (.int .i64 y68.h_)))])]) ?_ ?_
                · exact hr_spec_l3Gen hy69
                refine eqM (([y67] : List (List impl_Node)).map (eL true 7 impl_Node.e)) rfl ?_
                refine bindG h fun y70 hy71 h => ?_
                refine exM ([(.own true 7 (y70.map impl_Node.e))], []) ?_ ?_
                · exact spec_l3Make.ev hy71
                exact retE (enc := spec_l3Gen.enc) h rfl
              · try ((with_reducible apply cdX); exact rfl)
                refine iteF h (fun c72 h => ?_) (fun c72 h => ?_)
                · refine bindG h ?_
                  rintro ⟨y73, y74⟩ hy75 h
                  refine exM ([(.own true 7 (y73.map impl_Node.e))], [(.ptr [(.d (.l true 1 (y74.b.map eY))), (.d (.p (.int .i64 y74.i))), (.d (.p (.int .i64 y74.h_)))])]) ?_ ?_
                  · exact hr_spec_l3Gen hy75
                  refine bindG h ?_
                  rintro ⟨y76, y77⟩ hy78 h
                  refine exM ([(.own true 7 (y76.map impl_Node.e))], [(.ptr [(.d (.l true 1 (y77.b.map eY))), (.d (.p (.int .i64 y77.i))), (.d (.p (.int .i64 y77.h_)))])]) ?_ ?_
                  · exact hr_spec_l3Gen hy78
                  refine eqM (([y73, y76] : List (List impl_Node)).map (eL true 7 impl_Node.e)) rfl ?_
                  refine bindG h fun y79 hy80 h => ?_
                  refine exM ([(.own true 7 (y79.map impl_Node.e))], []) ?_ ?_
                  · exact spec_l3Make.ev hy80
                  exact retE (enc := spec_l3Gen.enc) h rfl
                · try ((with_reducible apply cdX); exact rfl)
                  refine iteF h (fun c81 h => ?_) (fun c81 h => ?_)
                  · refine goS ?_
                    refine seqJ h 183 (fun x => [(0, (.ptr 183 0 1 0)), (2, (.d (.p (.int .i64 a2)))), (3, (.d (.l true 1 (a3.map eS)))), (4, (.d (.l true 1 (a4.map eI)))), (156, (.d (.p (.bool x.1))))]) (fun x => [(183, 0, 1, (some (.box [(.d (.l true 1 (x.2.b.map eY))), (.d (.p (.int .i64 x.2.i))), (.d (.p (.int .i64 x.2.h_)))])))]) (fun J h => ?_) ?_
                    · try ((with_reducible apply cdX); exact rfl)
                      refine iteF h (fun c84 h => ?_) (fun c84 h => ?_)
                      · refine Ask.T rfl ?_
                        refine bindG h ?_
                        rintro ⟨y85, y86⟩ hy87 h
                        refine exM ([(.d (.p (.bool y85)))], [(.ptr [(.d (.l true 1 (y86.b.map eY))), (.d (.p (.int .i64 y86.i))), (.d (.p (.int .i64 y86.h_)))])]) ?_ ?_
                        · exact spec_l1Once.ev hy87
                        refine Ask.T rfl ?_
                        refine Ask.T rfl ?_
                        exact ⟨((!y85), y86), h, ⟨rfl, ⟨rfl, rfl, rfl, rfl, rfl, trivial⟩, ⟨rfl, trivial⟩⟩⟩
                      · refine Ask.F rfl ?_
                        refine Ask.F rfl ?_
                        refine Ask.F rfl ?_
                        exact ⟨(false, y45), h, ⟨rfl, ⟨rfl, rfl, rfl, rfl, rfl, trivial⟩, ⟨rfl, trivial⟩⟩⟩
                    · rintro ⟨v82, v83⟩ h e hp
                      try ((with_reducible apply cdX); exact rfl)
                      refine ifB h (fun c88 h => ?_) (fun c88 h => ?_)
                      · refine bindG h ?_
                        rintro ⟨y89, y90⟩ hy91 h
                        refine exM ([(.own true 7 (y89.map impl_Node.e))], [(.ptr [(.d (.l true 1 (y90.b.map eY))), (.d (.p (.int .i64 y90.i))), (.d (.p (.int .i64 y90.h_)))])]) ?_ ?_
                        · exact hr_spec_l3Gen hy91
                        refine bindG h ?_
                        rintro ⟨y92, y93⟩ hy94 h
                        refine exM ([(.own true 7 (y92.map impl_Node.e))], [(.ptr [(.d (.l true 1 (y93.b.map eY))), (.d (.p (.int .i64 y93.i))), (.d (.p (.int .i64 y93.h_)))])]) ?_ ?_
                        · exact hr_spec_l3Gen hy94
                        refine eqM (([y89, y92] : List (List impl_Node)).map (eL true 7 impl_Node.e)) rfl ?_
                        refine bindG h fun y95 hy96 h => ?_
                        refine exM ([(.own true 7 (y95.map impl_Node.e))], []) ?_ ?_
                        · exact spec_l3Make.ev hy96
                        exact retE (enc := spec_l3Gen.enc) h rfl
                      · refine eqM (([(⟨12, 0, 0, 0, 0, (⟨#[]⟩ : ByteArray), (⟨#[]⟩ : ByteArray)⟩ : impl_Node)] : List impl_Node).map impl_Node.e) rfl ?_
                        exact retE (enc := spec_l3Gen.enc) h rfl
                  · refine bindG h ?_
                    rintro ⟨y97, y98⟩ hy99 h
                    refine exM ([(.own true 7 (y97.map impl_Node.e))], [(.ptr [(.d (.l true 1 (y98.b.map eY))), (.d (.p (.int .i64 y98.i))), (.d (.p (.int .i64 y98.h_)))])]) ?_ ?_
                    · exact hr_spec_l3Gen hy99
                    refine eqM (([y97] : List (List impl_Node)).map (eL true 7 impl_Node.e)) rfl ?_
                    refine bindG h fun y100 hy101 h => ?_
                    refine exM ([(.own true 7 (y100.map impl_Node.e))], []) ?_ ?_
                    · exact spec_l3Make.ev hy101
                    exact retE (enc := spec_l3Gen.enc) h rfl
def spec_l3Gen.r (K : Nat) : Nat → spec_l1Cur → Int → Int → (List ByteArray) → (List Int) → Option (List impl_Node × spec_l1Cur)
  | 0, _, _, _, _, _ => none
  | d + 1, a0, a1, a2, a3, a4 => spec_l3Gen.b (spec_l3Gen.r K d) K a0 a1 a2 a3 a4
theorem spec_l3Gen.r_ev {K : Nat} : ∀ (d : Nat) {a0 : spec_l1Cur} {a1 : Int} {a2 : Int} {a3 : List ByteArray} {a4 : List Int} {r : List impl_Node × spec_l1Cur}, spec_l3Gen.r K d a0 a1 a2 a3 a4 = some r → E 118 [(.ptr [(.d (.l true 1 (a0.b.map eY))), (.d (.p (.int .i64 a0.i))), (.d (.p (.int .i64 a0.h_)))]), (.d (.p (.int .i64 a1))), (.d (.p (.int .i64 a2))), (.d (.l true 1 (a3.map eS))), (.d (.l true 1 (a4.map eI)))] = some ([(.own true 7 (r.1.map impl_Node.e))], [(.ptr [(.d (.l true 1 (r.2.b.map eY))), (.d (.p (.int .i64 r.2.i))), (.d (.p (.int .i64 r.2.h_)))])]) := by
  intro d
  induction d with
  | zero => intro a0 a1 a2 a3 a4 r h; cases h
  | succ d ih => intro a0 a1 a2 a3 a4 r h; exact spec_l3Gen.b_ev ih h
def spec_l3Gen.f (K : Nat) (a0 : spec_l1Cur) (a1 : Int) (a2 : Int) (a3 : List ByteArray) (a4 : List Int) : Option (List impl_Node × spec_l1Cur) := spec_l3Gen.r K K a0 a1 a2 a3 a4
theorem spec_l3Gen.ev {K : Nat} {a0 : spec_l1Cur} {a1 : Int} {a2 : Int} {a3 : List ByteArray} {a4 : List Int} {r : List impl_Node × spec_l1Cur} (h : spec_l3Gen.f K a0 a1 a2 a3 a4 = some r) : E 118 [(.ptr [(.d (.l true 1 (a0.b.map eY))), (.d (.p (.int .i64 a0.i))), (.d (.p (.int .i64 a0.h_)))]), (.d (.p (.int .i64 a1))), (.d (.p (.int .i64 a2))), (.d (.l true 1 (a3.map eS))), (.d (.l true 1 (a4.map eI)))] = some ([(.own true 7 (r.1.map impl_Node.e))], [(.ptr [(.d (.l true 1 (r.2.b.map eY))), (.d (.p (.int .i64 r.2.i))), (.d (.p (.int .i64 r.2.h_)))])]) := spec_l3Gen.r_ev K h
def spec_l3Prog.enc (r : List impl_Node × spec_l1Cur) : Res := ([(.own true 7 (r.1.map impl_Node.e))], [(.ptr [(.d (.l true 1 (r.2.b.map eY))), (.d (.p (.int .i64 r.2.i))), (.d (.p (.int .i64 r.2.h_)))])])
def spec_l3Prog.en (a0 : spec_l1Cur) (r : List impl_Node × spec_l1Cur) (S : St) : Prop := endV tb md 96 Tryd.f96 [(.ptr [(.d (.l true 1 (a0.b.map eY))), (.d (.p (.int .i64 a0.i))), (.d (.p (.int .i64 a0.h_)))])] .ret S = some (spec_l3Prog.enc r)
def spec_l3Prog.l0 (K : Nat) : Nat → Int → spec_l1Cur → Option ((List impl_Node × spec_l1Cur) ⊕ spec_l1Cur)
  | 0, _, _ => none
  | k + 1, v2, v3 => if v2 < 4 then ((spec_l1Below.f K v3 5).bind fun (y6, y7) => ((spec_l1Below.f K y7 3).bind fun (y9, y10) => ((spec_l3Gen.f K y10 y6 (w64 (2 + y9)) ([] : List ByteArray) ([] : List Int)).bind fun (y12, y13) => (if (y12.length : Int) ≤ 60 then (some (.inl (y12, y13))) else (spec_l3Prog.l0 K k (w64 (v2 + 1)) y13))))) else (some (.inr v3))
def spec_l3Prog.f  (K : Nat) (a0 : spec_l1Cur) : Option (List impl_Node × spec_l1Cur) := jn (fun (v1 : spec_l1Cur) => (spec_l3Int.f K 4).bind fun y16 => (some (y16, v1))) (fun j => lb (spec_l3Prog.l0 K K 0 a0) (fun r => some r) (fun (v4 : spec_l1Cur) => j v4))
theorem spec_l3Prog.ev   {K : Nat} {a0 : spec_l1Cur} {r : List impl_Node × spec_l1Cur} (h : spec_l3Prog.f  K a0 = some r) : E 96 [(.ptr [(.d (.l true 1 (a0.b.map eY))), (.d (.p (.int .i64 a0.i))), (.d (.p (.int .i64 a0.h_)))])] = some ([(.own true 7 (r.1.map impl_Node.e))], [(.ptr [(.d (.l true 1 (r.2.b.map eY))), (.d (.p (.int .i64 r.2.i))), (.d (.p (.int .i64 r.2.h_)))])]) := by
  refine Ev_intro (fn := Tryd.f96) rfl (by kernel_rfl) (c := _) rfl ⟨rfl, by simp⟩ rfl (evP_spec _ ?_)
  unfold spec_l3Prog.f at h
  refine seqJ h 23 (fun x => []) (fun x => [(23, 0, 1, (some (.box [(.d (.l true 1 (x.b.map eY))), (.d (.p (.int .i64 x.i))), (.d (.p (.int .i64 x.h_)))])))]) (fun J h => ?_) ?_
  · refine loopB (α := Int × spec_l1Cur) (a := (0, a0)) 23 (fun x => [(0, (.ptr 23 0 1 0)), (3, (.d (.p (.int .i64 x.1))))]) (fun x => [(23, 0, 1, (some (.box [(.d (.l true 1 (x.2.b.map eY))), (.d (.p (.int .i64 x.2.i))), (.d (.p (.int .i64 x.2.h_)))])))]) (fun k x => spec_l3Prog.l0 K k x.1 x.2) (spec_l3Prog.en a0) 0 (fun x => []) (fun x => [(23, 0, 1, (some (.box [(.d (.l true 1 (x.b.map eY))), (.d (.p (.int .i64 x.i))), (.d (.p (.int .i64 x.h_)))])))]) h (fun _ => rfl) ?_ ⟨rfl, ⟨rfl, rfl, trivial⟩, ⟨rfl, trivial⟩⟩ ?_ ?_
    · rintro k ⟨v2, v3⟩ r h e hp
      replace h : spec_l3Prog.l0 K (k + 1) v2 v3 = some r := h
      unfold spec_l3Prog.l0 at h
      refine goS ?_
      try ((with_reducible apply cdX); exact rfl)
      refine iteF h (fun c5 h => ?_) (fun c5 h => ?_)
      · refine goS ?_
        refine bindG h ?_
        rintro ⟨y6, y7⟩ hy8 h
        refine exM ([(.d (.p (.int .i64 y6)))], [(.ptr [(.d (.l true 1 (y7.b.map eY))), (.d (.p (.int .i64 y7.i))), (.d (.p (.int .i64 y7.h_)))])]) ?_ ?_
        · exact spec_l1Below.ev hy8
        refine bindG h ?_
        rintro ⟨y9, y10⟩ hy11 h
        refine exM ([(.d (.p (.int .i64 y9)))], [(.ptr [(.d (.l true 1 (y10.b.map eY))), (.d (.p (.int .i64 y10.i))), (.d (.p (.int .i64 y10.h_)))])]) ?_ ?_
        · exact spec_l1Below.ev hy11
        refine eqM (([] : List ByteArray).map eS) rfl ?_
        refine eqM (([] : List Int).map eI) rfl ?_
        refine bindG h ?_
        rintro ⟨y12, y13⟩ hy14 h
        refine exM ([(.own true 7 (y12.map impl_Node.e))], [(.ptr [(.d (.l true 1 (y13.b.map eY))), (.d (.p (.int .i64 y13.i))), (.d (.p (.int .i64 y13.h_)))])]) ?_ ?_
        · exact spec_l3Gen.ev hy14
        refine eqM ((y12.length : Int) : Int) (mLen rfl) ?_
        refine iteF h (fun c15 h => ?_) (fun c15 h => ?_)
        · exact lqL h rfl
        · exact ⟨((w64 (v2 + 1)), y13), h, ⟨rfl, ⟨rfl, rfl, trivial⟩, ⟨rfl, trivial⟩⟩⟩
      · refine lqR h ?_
        exact ⟨rfl, trivial, ⟨rfl, trivial⟩⟩
    · intro r' S' h q
      exact retE (enc := spec_l3Prog.enc) h q
    · rintro v4 S' h ⟨qn, ⟨_⟩, ⟨qb0, _⟩⟩
      exact ⟨v4, h, ⟨qn, trivial, ⟨qb0, trivial⟩⟩⟩
  · rintro v1 h e hp
    refine bindG h fun y16 hy17 h => ?_
    refine exM ([(.own true 7 (y16.map impl_Node.e))], []) ?_ ?_
    · exact spec_l3Int.ev hy17
    exact retE (enc := spec_l3Prog.enc) h rfl
def spec_l3Some.enc (r : List impl_Node × spec_l1Cur) : Res := ([(.own true 7 (r.1.map impl_Node.e))], [(.ptr [(.d (.l true 1 (r.2.b.map eY))), (.d (.p (.int .i64 r.2.i))), (.d (.p (.int .i64 r.2.h_)))])])
def spec_l3Some.f  (K : Nat) (a0 : spec_l1Cur) : Option (List impl_Node × spec_l1Cur) := (spec_l1Once.f K a0 3).bind fun (y1, y2) => (if y1 = true then ((spec_l3Loose.f K y2 3).bind fun (y5, y6) => (some (y5, y6))) else ((spec_l3Prog.f K y2).bind fun (y8, y9) => (some (y8, y9))))
theorem spec_l3Some.ev   {K : Nat} {a0 : spec_l1Cur} {r : List impl_Node × spec_l1Cur} (h : spec_l3Some.f  K a0 = some r) : E 62 [(.ptr [(.d (.l true 1 (a0.b.map eY))), (.d (.p (.int .i64 a0.i))), (.d (.p (.int .i64 a0.h_)))])] = some ([(.own true 7 (r.1.map impl_Node.e))], [(.ptr [(.d (.l true 1 (r.2.b.map eY))), (.d (.p (.int .i64 r.2.i))), (.d (.p (.int .i64 r.2.h_)))])]) := by
  refine Ev_intro (fn := Tryd.f62) rfl (by kernel_rfl) (c := _) rfl ⟨rfl, by simp⟩ rfl (evP_spec _ ?_)
  unfold spec_l3Some.f at h
  refine goS ?_
  refine bindG h ?_
  rintro ⟨y1, y2⟩ hy3 h
  refine exM ([(.d (.p (.bool y1)))], [(.ptr [(.d (.l true 1 (y2.b.map eY))), (.d (.p (.int .i64 y2.i))), (.d (.p (.int .i64 y2.h_)))])]) ?_ ?_
  · exact spec_l1Once.ev hy3
  refine ifB h (fun c4 h => ?_) (fun c4 h => ?_)
  · refine bindG h ?_
    rintro ⟨y5, y6⟩ hy7 h
    refine exM ([(.own true 7 (y5.map impl_Node.e))], [(.ptr [(.d (.l true 1 (y6.b.map eY))), (.d (.p (.int .i64 y6.i))), (.d (.p (.int .i64 y6.h_)))])]) ?_ ?_
    · exact spec_l3Loose.ev hy7
    exact retE (enc := spec_l3Some.enc) h rfl
  · refine bindG h ?_
    rintro ⟨y8, y9⟩ hy10 h
    refine exM ([(.own true 7 (y8.map impl_Node.e))], [(.ptr [(.d (.l true 1 (y9.b.map eY))), (.d (.p (.int .i64 y9.i))), (.d (.p (.int .i64 y9.h_)))])]) ?_ ?_
    · exact spec_l3Prog.ev hy10
    exact retE (enc := spec_l3Some.enc) h rfl
def spec_l3Bent.enc (r : List impl_Node × spec_l1Cur) : Res := ([(.own true 7 (r.1.map impl_Node.e))], [(.ptr [(.d (.l true 1 (r.2.b.map eY))), (.d (.p (.int .i64 r.2.i))), (.d (.p (.int .i64 r.2.h_)))])])
def spec_l3Bent.l0 (K : Nat) : Nat → spec_l1Cur → (List impl_Node) → Option (List impl_Node × spec_l1Cur)
  | 0, _, _ => none
  | k + 1, v36, v37 => (spec_l1Below.f K v36 2).bind fun (y40, y41) => (if (v37.length : Int) < (w64 (150 + y40)) then (gd ((v37.length + 1) * 72 ≤ 140737488355328) (spec_l3Bent.l0 K k y41 (v37 ++ ([(⟨10, (w64 ((v37.length : Int) - 1)), 0, 0, 0, (⟨#[]⟩ : ByteArray), (⟨#[]⟩ : ByteArray)⟩ : impl_Node)] : List impl_Node)))) else (some (v37, y41)))
def spec_l3Bent.f  (K : Nat) (a0 : spec_l1Cur) : Option (List impl_Node × spec_l1Cur) := (spec_l3Some.f K a0).bind fun (y1, y2) => (gd ((0 + y1.length) * 72 ≤ 140737488355328) ((spec_l1Below.f K y2 ((([] : List impl_Node) ++ y1).length : Int)).bind fun (y4, y5) => (jn (fun (v7, v8) => some (v7, v8)) (fun j => (spec_l1Below.f K y5 14).bind fun (y9, y10) => (if y9 = 0 then (gd (0 ≤ (0 : Int) ∧ (0 : Int) ≤ y4 ∧ y4 ≤ ((([] : List impl_Node) ++ y1).length : Int)) (some (((([] : List impl_Node) ++ y1).take (y4).toNat), y10))) else (if y9 = 1 then ((spec_l1PickInt.f K y10 ([0, 20, (-1), 2, 4] : List Int)).bind fun (y14, y15) => ((at_ (([] : List impl_Node) ++ y1) y4).bind fun x17 => (j (((([] : List impl_Node) ++ y1).set (y4).toNat (⟨y14, x17.A, x17.B, x17.C, x17.N, x17.Name, x17.Other⟩ : impl_Node)), y15)))) else (if y9 = 2 then ((spec_l1PickInt.f K y10 ([(-1), y4, 0, 99] : List Int)).bind fun (y19, y20) => ((at_ (([] : List impl_Node) ++ y1) y4).bind fun x22 => (j (((([] : List impl_Node) ++ y1).set (y4).toNat (⟨x22.Kind, y19, x22.B, x22.C, x22.N, x22.Name, x22.Other⟩ : impl_Node)), y20)))) else (if y9 = 3 then ((spec_l1Pick.f K y10 ([(⟨#[]⟩ : ByteArray), (⟨#[102, 117, 110]⟩ : ByteArray), (⟨#[88]⟩ : ByteArray), (⟨#[97, 98, 99, 100, 101, 102, 103, 104, 105]⟩ : ByteArray), (⟨#[113]⟩ : ByteArray)] : List ByteArray)).bind fun (y24, y25) => ((at_ (([] : List impl_Node) ++ y1) y4).bind fun x27 => (j (((([] : List impl_Node) ++ y1).set (y4).toNat (⟨x27.Kind, x27.A, x27.B, x27.C, x27.N, y24, x27.Other⟩ : impl_Node)), y25)))) else (if y9 = 4 then ((spec_l1PickInt.f K y10 ([(-1), 65536, 4, 1] : List Int)).bind fun (y29, y30) => ((at_ (([] : List impl_Node) ++ y1) y4).bind fun x32 => (j (((([] : List impl_Node) ++ y1).set (y4).toNat (⟨x32.Kind, x32.A, x32.B, x32.C, y29, x32.Name, x32.Other⟩ : impl_Node)), y30)))) else (if y9 = 5 then ((at_ (([] : List impl_Node) ++ y1) y4).bind fun x34 => (j (((([] : List impl_Node) ++ y1).set (y4).toNat (⟨x34.Kind, x34.A, x34.B, x34.C, x34.N, x34.Name, (⟨#[119]⟩ : ByteArray)⟩ : impl_Node)), y10))) else (if y9 = 6 then ((spec_l3Bent.l0 K K y10 (([] : List impl_Node) ++ y1)).bind fun (v38, v39) => j (v38, v39)) else (j ((([] : List impl_Node) ++ y1), y10)))))))))))))
theorem spec_l3Bent.ev   {K : Nat} {a0 : spec_l1Cur} {r : List impl_Node × spec_l1Cur} (h : spec_l3Bent.f  K a0 = some r) : E 35 [(.ptr [(.d (.l true 1 (a0.b.map eY))), (.d (.p (.int .i64 a0.i))), (.d (.p (.int .i64 a0.h_)))])] = some ([(.own true 7 (r.1.map impl_Node.e))], [(.ptr [(.d (.l true 1 (r.2.b.map eY))), (.d (.p (.int .i64 r.2.i))), (.d (.p (.int .i64 r.2.h_)))])]) := by
  refine Ev_intro (fn := Tryd.f35) rfl (by kernel_rfl) (c := _) rfl ⟨rfl, by simp⟩ rfl (evP_spec _ ?_)
  unfold spec_l3Bent.f at h
  refine eqM (([] : List impl_Node).map impl_Node.e) rfl ?_
  refine bindG h ?_
  rintro ⟨y1, y2⟩ hy3 h
  refine exM ([(.own true 7 (y1.map impl_Node.e))], [(.ptr [(.d (.l true 1 (y2.b.map eY))), (.d (.p (.int .i64 y2.i))), (.d (.p (.int .i64 y2.h_)))])]) ?_ ?_
  · exact spec_l3Some.ev hy3
  refine gdG h fun hc h => ?_
  refine anM (apB hc) ?_
  refine eqM ((([] : List impl_Node) ++ y1).map impl_Node.e) (mApp rfl rfl) ?_
  refine eqM (((([] : List impl_Node) ++ y1).length : Int) : Int) (mLen rfl) ?_
  refine bindG h ?_
  rintro ⟨y4, y5⟩ hy6 h
  refine exM ([(.d (.p (.int .i64 y4)))], [(.ptr [(.d (.l true 1 (y5.b.map eY))), (.d (.p (.int .i64 y5.i))), (.d (.p (.int .i64 y5.h_)))])]) ?_ ?_
  · exact spec_l1Below.ev hy6
  refine seqJ h 79 (fun x => [(3, (.own 3 1 2))]) (fun x => [(3, 1, 2, (some (.row true true 7 (x.1.map impl_Node.e)))), (79, 0, 1, (some (.box [(.d (.l true 1 (x.2.b.map eY))), (.d (.p (.int .i64 x.2.i))), (.d (.p (.int .i64 x.2.h_)))])))]) (fun J h => ?_) ?_
  · refine bindG h ?_
    rintro ⟨y9, y10⟩ hy11 h
    refine exM ([(.d (.p (.int .i64 y9)))], [(.ptr [(.d (.l true 1 (y10.b.map eY))), (.d (.p (.int .i64 y10.i))), (.d (.p (.int .i64 y10.h_)))])]) ?_ ?_
    · exact spec_l1Below.ev hy11
    refine iteF h (fun c12 h => ?_) (fun c12 h => ?_)
    · refine gdG h fun hc h => ?_
      refine anM (slB hc) ?_
      refine eqM (((([] : List impl_Node) ++ y1).take (y4).toNat).map impl_Node.e) (mTake rfl) ?_
      exact retE (enc := spec_l3Bent.enc) h rfl
    · try ((with_reducible apply cdX); exact rfl)
      refine iteF h (fun c13 h => ?_) (fun c13 h => ?_)
      · refine eqM (([0, 20, (-1), 2, 4] : List Int).map eI) rfl ?_
        refine bindG h ?_
        rintro ⟨y14, y15⟩ hy16 h
        refine exM ([(.d (.p (.int .i64 y14)))], [(.ptr [(.d (.l true 1 (y15.b.map eY))), (.d (.p (.int .i64 y15.i))), (.d (.p (.int .i64 y15.h_)))])]) ?_ ?_
        · exact spec_l1PickInt.ev hy16
        refine bindG h fun x17 hx17 h => ?_
        refine anM (at_ix rfl hx17) ?_
        refine anM (at_lt rfl hx17) ?_
        refine exM (impl_Node.e x17) (at_get rfl hx17) ?_
        refine eqM (((([] : List impl_Node) ++ y1).set (y4).toNat (⟨y14, x17.A, x17.B, x17.C, x17.N, x17.Name, x17.Other⟩ : impl_Node)).map impl_Node.e) (mSet rfl rfl) ?_
        exact ⟨(((([] : List impl_Node) ++ y1).set (y4).toNat (⟨y14, x17.A, x17.B, x17.C, x17.N, x17.Name, x17.Other⟩ : impl_Node)), y15), h, ⟨rfl, ⟨rfl, trivial⟩, ⟨rfl, rfl, trivial⟩⟩⟩
      · try ((with_reducible apply cdX); exact rfl)
        refine iteF h (fun c18 h => ?_) (fun c18 h => ?_)
        · refine eqM (([(-1), y4, 0, 99] : List Int).map eI) rfl ?_
          refine bindG h ?_
          rintro ⟨y19, y20⟩ hy21 h
          refine exM ([(.d (.p (.int .i64 y19)))], [(.ptr [(.d (.l true 1 (y20.b.map eY))), (.d (.p (.int .i64 y20.i))), (.d (.p (.int .i64 y20.h_)))])]) ?_ ?_
          · exact spec_l1PickInt.ev hy21
          refine bindG h fun x22 hx22 h => ?_
          refine anM (at_ix rfl hx22) ?_
          refine anM (at_lt rfl hx22) ?_
          refine exM (impl_Node.e x22) (at_get rfl hx22) ?_
          refine eqM (((([] : List impl_Node) ++ y1).set (y4).toNat (⟨x22.Kind, y19, x22.B, x22.C, x22.N, x22.Name, x22.Other⟩ : impl_Node)).map impl_Node.e) (mSet rfl rfl) ?_
          exact ⟨(((([] : List impl_Node) ++ y1).set (y4).toNat (⟨x22.Kind, y19, x22.B, x22.C, x22.N, x22.Name, x22.Other⟩ : impl_Node)), y20), h, ⟨rfl, ⟨rfl, trivial⟩, ⟨rfl, rfl, trivial⟩⟩⟩
        · try ((with_reducible apply cdX); exact rfl)
          refine iteF h (fun c23 h => ?_) (fun c23 h => ?_)
          · refine eqM (([(⟨#[]⟩ : ByteArray), (⟨#[102, 117, 110]⟩ : ByteArray), (⟨#[88]⟩ : ByteArray), (⟨#[97, 98, 99, 100, 101, 102, 103, 104, 105]⟩ : ByteArray), (⟨#[113]⟩ : ByteArray)] : List ByteArray).map eS) rfl ?_
            refine bindG h ?_
            rintro ⟨y24, y25⟩ hy26 h
            refine exM ([(.d (.p (.string y24)))], [(.ptr [(.d (.l true 1 (y25.b.map eY))), (.d (.p (.int .i64 y25.i))), (.d (.p (.int .i64 y25.h_)))])]) ?_ ?_
            · exact spec_l1Pick.ev hy26
            refine bindG h fun x27 hx27 h => ?_
            refine anM (at_ix rfl hx27) ?_
            refine anM (at_lt rfl hx27) ?_
            refine exM (impl_Node.e x27) (at_get rfl hx27) ?_
            refine eqM (((([] : List impl_Node) ++ y1).set (y4).toNat (⟨x27.Kind, x27.A, x27.B, x27.C, x27.N, y24, x27.Other⟩ : impl_Node)).map impl_Node.e) (mSet rfl rfl) ?_
            exact ⟨(((([] : List impl_Node) ++ y1).set (y4).toNat (⟨x27.Kind, x27.A, x27.B, x27.C, x27.N, y24, x27.Other⟩ : impl_Node)), y25), h, ⟨rfl, ⟨rfl, trivial⟩, ⟨rfl, rfl, trivial⟩⟩⟩
          · try ((with_reducible apply cdX); exact rfl)
            refine iteF h (fun c28 h => ?_) (fun c28 h => ?_)
            · refine eqM (([(-1), 65536, 4, 1] : List Int).map eI) rfl ?_
              refine bindG h ?_
              rintro ⟨y29, y30⟩ hy31 h
              refine exM ([(.d (.p (.int .i64 y29)))], [(.ptr [(.d (.l true 1 (y30.b.map eY))), (.d (.p (.int .i64 y30.i))), (.d (.p (.int .i64 y30.h_)))])]) ?_ ?_
              · exact spec_l1PickInt.ev hy31
              refine bindG h fun x32 hx32 h => ?_
              refine anM (at_ix rfl hx32) ?_
              refine anM (at_lt rfl hx32) ?_
              refine exM (impl_Node.e x32) (at_get rfl hx32) ?_
              refine eqM (((([] : List impl_Node) ++ y1).set (y4).toNat (⟨x32.Kind, x32.A, x32.B, x32.C, y29, x32.Name, x32.Other⟩ : impl_Node)).map impl_Node.e) (mSet rfl rfl) ?_
              exact ⟨(((([] : List impl_Node) ++ y1).set (y4).toNat (⟨x32.Kind, x32.A, x32.B, x32.C, y29, x32.Name, x32.Other⟩ : impl_Node)), y30), h, ⟨rfl, ⟨rfl, trivial⟩, ⟨rfl, rfl, trivial⟩⟩⟩
            · try ((with_reducible apply cdX); exact rfl)
              refine iteF h (fun c33 h => ?_) (fun c33 h => ?_)
              · refine bindG h fun x34 hx34 h => ?_
                refine anM (at_ix rfl hx34) ?_
                refine anM (at_lt rfl hx34) ?_
                refine exM (impl_Node.e x34) (at_get rfl hx34) ?_
                refine eqM (((([] : List impl_Node) ++ y1).set (y4).toNat (⟨x34.Kind, x34.A, x34.B, x34.C, x34.N, x34.Name, (⟨#[119]⟩ : ByteArray)⟩ : impl_Node)).map impl_Node.e) (mSet rfl rfl) ?_
                exact ⟨(((([] : List impl_Node) ++ y1).set (y4).toNat (⟨x34.Kind, x34.A, x34.B, x34.C, x34.N, x34.Name, (⟨#[119]⟩ : ByteArray)⟩ : impl_Node)), y10), h, ⟨rfl, ⟨rfl, trivial⟩, ⟨rfl, rfl, trivial⟩⟩⟩
              · try ((with_reducible apply cdX); exact rfl)
                refine iteF h (fun c35 h => ?_) (fun c35 h => ?_)
                · refine loopX (α := spec_l1Cur × List impl_Node) (a := (y10, (([] : List impl_Node) ++ y1))) 79 (fun x => [(0, (.ptr 79 0 1 0)), (3, (.own 3 1 2))]) (fun x => [(3, 1, 2, (some (.row true true 7 (x.2.map impl_Node.e)))), (79, 0, 1, (some (.box [(.d (.l true 1 (x.1.b.map eY))), (.d (.p (.int .i64 x.1.i))), (.d (.p (.int .i64 x.1.h_)))])))]) (fun k x => spec_l3Bent.l0 K k x.1 x.2) 1 (fun x => [(3, (.own 3 1 2))]) (fun x => [(3, 1, 2, (some (.row true true 7 (x.1.map impl_Node.e)))), (79, 0, 1, (some (.box [(.d (.l true 1 (x.2.b.map eY))), (.d (.p (.int .i64 x.2.i))), (.d (.p (.int .i64 x.2.h_)))])))]) h (fun _ => rfl) ?_ ⟨rfl, ⟨rfl, rfl, trivial⟩, ⟨rfl, rfl, trivial⟩⟩ ?_
                  · rintro k ⟨v36, v37⟩ r h e hp
                    replace h : spec_l3Bent.l0 K (k + 1) v36 v37 = some r := h
                    unfold spec_l3Bent.l0 at h
                    refine goS ?_
                    refine eqM ((v37.length : Int) : Int) (mLen rfl) ?_
                    refine bindG h ?_
                    rintro ⟨y40, y41⟩ hy42 h
                    refine exM ([(.d (.p (.int .i64 y40)))], [(.ptr [(.d (.l true 1 (y41.b.map eY))), (.d (.p (.int .i64 y41.i))), (.d (.p (.int .i64 y41.h_)))])]) ?_ ?_
                    · exact spec_l1Below.ev hy42
                    refine iteF h (fun c43 h => ?_) (fun c43 h => ?_)
                    · refine eqM ((v37.length : Int) : Int) (mLen rfl) ?_
                      refine eqM (([(⟨10, (w64 ((v37.length : Int) - 1)), 0, 0, 0, (⟨#[]⟩ : ByteArray), (⟨#[]⟩ : ByteArray)⟩ : impl_Node)] : List impl_Node).map impl_Node.e) rfl ?_
                      refine gdG h fun hc h => ?_
                      refine anM (apB hc) ?_
                      refine eqM ((v37 ++ ([(⟨10, (w64 ((v37.length : Int) - 1)), 0, 0, 0, (⟨#[]⟩ : ByteArray), (⟨#[]⟩ : ByteArray)⟩ : impl_Node)] : List impl_Node)).map impl_Node.e) (mApp rfl rfl) ?_
                      exact ⟨(y41, (v37 ++ ([(⟨10, (w64 ((v37.length : Int) - 1)), 0, 0, 0, (⟨#[]⟩ : ByteArray), (⟨#[]⟩ : ByteArray)⟩ : impl_Node)] : List impl_Node))), h, ⟨rfl, ⟨rfl, rfl, trivial⟩, ⟨rfl, rfl, trivial⟩⟩⟩
                    · refine exQ h ?_
                      exact ⟨rfl, ⟨rfl, trivial⟩, ⟨rfl, rfl, trivial⟩⟩
                  · rintro ⟨v38, v39⟩ S' h ⟨qn, ⟨qa0, _⟩, ⟨qb0, qb1, _⟩⟩
                    exact ⟨(v38, v39), h, ⟨qn, ⟨qa0, trivial⟩, ⟨qb0, qb1, trivial⟩⟩⟩
                · exact ⟨((([] : List impl_Node) ++ y1), y10), h, ⟨rfl, ⟨rfl, trivial⟩, ⟨rfl, rfl, trivial⟩⟩⟩
  · rintro ⟨v7, v8⟩ h e hp
    exact retE (enc := spec_l3Bent.enc) h rfl
def spec_l2Letter.enc (r : Bool) : Res := ([(.d (.p (.bool r)))], [])
def spec_l2Letter.f  (K : Nat) (a0 : Int) : Option (Bool) := if a0 ≥ 97 then (some (decide (a0 ≤ 122))) else (some false)
theorem spec_l2Letter.ev   {K : Nat} {a0 : Int} {r : Bool} (h : spec_l2Letter.f  K a0 = some r) : E 80 [(.d (.p (.int .u8 a0)))] = some ([(.d (.p (.bool r)))], []) := by
  refine Ev_intro (fn := Tryd.f80) rfl (by kernel_rfl) (c := _) rfl ⟨rfl, by simp⟩ rfl (evP_spec _ ?_)
  unfold spec_l2Letter.f at h
  refine goS ?_
  try ((with_reducible apply cdX); exact rfl)
  refine iteF h (fun c1 h => ?_) (fun c1 h => ?_)
  · refine Ask.T rfl ?_
    refine Ask.T rfl ?_
    exact retE (enc := spec_l2Letter.enc) h rfl
  · refine Ask.F rfl ?_
    refine Ask.F rfl ?_
    exact retE (enc := spec_l2Letter.enc) h rfl
def spec_l2Digit.enc (r : Bool) : Res := ([(.d (.p (.bool r)))], [])
def spec_l2Digit.f  (K : Nat) (a0 : Int) : Option (Bool) := if a0 ≥ 48 then (some (decide (a0 ≤ 57))) else (some false)
theorem spec_l2Digit.ev   {K : Nat} {a0 : Int} {r : Bool} (h : spec_l2Digit.f  K a0 = some r) : E 83 [(.d (.p (.int .u8 a0)))] = some ([(.d (.p (.bool r)))], []) := by
  refine Ev_intro (fn := Tryd.f83) rfl (by kernel_rfl) (c := _) rfl ⟨rfl, by simp⟩ rfl (evP_spec _ ?_)
  unfold spec_l2Digit.f at h
  refine goS ?_
  try ((with_reducible apply cdX); exact rfl)
  refine iteF h (fun c1 h => ?_) (fun c1 h => ?_)
  · refine Ask.T rfl ?_
    refine Ask.T rfl ?_
    exact retE (enc := spec_l2Digit.enc) h rfl
  · refine Ask.F rfl ?_
    refine Ask.F rfl ?_
    exact retE (enc := spec_l2Digit.enc) h rfl
def spec_l2Run.enc (r : Int) : Res := ([(.d (.p (.int .i64 r)))], [])
def spec_l2Run.l0 (a0 : ByteArray) (a2 : Bool) (K : Nat) : Nat → Int → Option (Int)
  | 0, _ => none
  | k + 1, v2 => jn (fun (v4 : Bool) => if v4 = true then (spec_l2Run.l0 a0 a2 K k (w64 (v2 + 1))) else (some v2)) (fun j => if v2 < (a0.size : Int) then (if a2 = true then ((atS a0 v2).bind fun x7 => ((spec_l2Letter.f K (x7.toNat : Int)).bind fun y8 => (if y8 = true then (j true) else (if (!a2) = true then ((atS a0 v2).bind fun x12 => ((spec_l2Digit.f K (x12.toNat : Int)).bind fun y13 => (j y13))) else (j false))))) else (if (!a2) = true then ((atS a0 v2).bind fun x16 => ((spec_l2Digit.f K (x16.toNat : Int)).bind fun y17 => (j y17))) else (j false))) else (j false))
def spec_l2Run.f  (K : Nat) (a0 : ByteArray) (a1 : Int) (a2 : Bool) : Option (Int) := jn (fun (v1 : Int) => some v1) (fun j => (spec_l2Run.l0 a0 a2 K K a1).bind fun (v3 : Int) => j v3)
theorem spec_l2Run.ev   {K : Nat} {a0 : ByteArray} {a1 : Int} {a2 : Bool} {r : Int} (h : spec_l2Run.f  K a0 a1 a2 = some r) : E 81 [(.d (.p (.string a0))), (.d (.p (.int .i64 a1))), (.d (.p (.bool a2)))] = some ([(.d (.p (.int .i64 r)))], []) := by
  refine Ev_intro (fn := Tryd.f81) rfl (by kernel_rfl) (c := _) rfl ⟨rfl, by simp⟩ rfl (evP_spec _ ?_)
  unfold spec_l2Run.f at h
  refine seqJ h 33 (fun x => [(1, (.d (.p (.int .i64 x))))]) (fun x => []) (fun J h => ?_) ?_
  · refine loopX (α := Int) (a := a1) 33 (fun x => [(0, (.d (.p (.string a0)))), (1, (.d (.p (.int .i64 x)))), (2, (.d (.p (.bool a2))))]) (fun x => []) (fun k x => spec_l2Run.l0 a0 a2 K k x) 0 (fun x => [(1, (.d (.p (.int .i64 x))))]) (fun x => []) h (fun _ => rfl) ?_ ⟨rfl, ⟨rfl, rfl, rfl, trivial⟩, trivial⟩ ?_
    · rintro k v2 r h e hp
      replace h : spec_l2Run.l0 a0 a2 K (k + 1) v2 = some r := h
      unfold spec_l2Run.l0 at h
      refine goS ?_
      refine seqJ h 33 (fun x => [(0, (.d (.p (.string a0)))), (1, (.d (.p (.int .i64 v2)))), (2, (.d (.p (.bool a2)))), (29, (.d (.p (.bool x))))]) (fun x => []) (fun J h => ?_) ?_
      · try ((with_reducible apply cdX); exact rfl)
        refine iteF h (fun c5 h => ?_) (fun c5 h => ?_)
        · refine Ask.T rfl ?_
          refine ifB h (fun c6 h => ?_) (fun c6 h => ?_)
          · refine Ask.T rfl ?_
            refine Ask.T rfl ?_
            refine bindG h fun x7 hx7 h => ?_
            refine exM x7 hx7 ?_
            refine Ask.T rfl ?_
            refine bindG h fun y8 hy9 h => ?_
            refine exM ([(.d (.p (.bool y8)))], []) ?_ ?_
            · exact spec_l2Letter.ev hy9
            refine Ask.T rfl ?_
            refine Ask.T rfl ?_
            refine Ask.T rfl ?_
            refine ifB h (fun c10 h => ?_) (fun c10 h => ?_)
            · refine Ask.T rfl ?_
              refine Ask.T rfl ?_
              refine Ask.T rfl ?_
              refine Ask.T rfl ?_
              refine Ask.T rfl ?_
              refine Ask.T rfl ?_
              exact ⟨true, h, ⟨rfl, ⟨rfl, rfl, rfl, rfl, trivial⟩, trivial⟩⟩
            · refine Ask.F rfl ?_
              refine Ask.F rfl ?_
              refine ifB h (fun c11 h => ?_) (fun c11 h => ?_)
              · refine Ask.T rfl ?_
                refine Ask.T rfl ?_
                refine bindG h fun x12 hx12 h => ?_
                refine exM x12 hx12 ?_
                refine Ask.T rfl ?_
                refine bindG h fun y13 hy14 h => ?_
                refine exM ([(.d (.p (.bool y13)))], []) ?_ ?_
                · exact spec_l2Digit.ev hy14
                refine Ask.F rfl ?_
                refine Ask.T rfl ?_
                refine Ask.T rfl ?_
                refine Ask.F rfl ?_
                refine Ask.T rfl ?_
                exact ⟨y13, h, ⟨rfl, ⟨rfl, rfl, rfl, rfl, trivial⟩, trivial⟩⟩
              · refine Ask.F rfl ?_
                refine Ask.F rfl ?_
                refine Ask.F rfl ?_
                refine Ask.F rfl ?_
                refine Ask.F rfl ?_
                refine Ask.T rfl ?_
                refine Ask.F rfl ?_
                refine Ask.T rfl ?_
                exact ⟨false, h, ⟨rfl, ⟨rfl, rfl, rfl, rfl, trivial⟩, trivial⟩⟩
          · refine Ask.F rfl ?_
            refine Ask.F rfl ?_
            refine Ask.F rfl ?_
            refine Ask.T rfl ?_
            refine Ask.F rfl ?_
            refine Ask.T rfl ?_
            refine Ask.F rfl ?_
            refine Ask.F rfl ?_
            refine Ask.F rfl ?_
            refine ifB h (fun c15 h => ?_) (fun c15 h => ?_)
            · refine Ask.T rfl ?_
              refine Ask.T rfl ?_
              refine bindG h fun x16 hx16 h => ?_
              refine exM x16 hx16 ?_
              refine Ask.T rfl ?_
              refine bindG h fun y17 hy18 h => ?_
              refine exM ([(.d (.p (.bool y17)))], []) ?_ ?_
              · exact spec_l2Digit.ev hy18
              refine Ask.F rfl ?_
              refine Ask.T rfl ?_
              refine Ask.T rfl ?_
              refine Ask.F rfl ?_
              refine Ask.T rfl ?_
              exact ⟨y17, h, ⟨rfl, ⟨rfl, rfl, rfl, rfl, trivial⟩, trivial⟩⟩
            · refine Ask.F rfl ?_
              refine Ask.F rfl ?_
              refine Ask.F rfl ?_
              refine Ask.F rfl ?_
              refine Ask.F rfl ?_
              refine Ask.T rfl ?_
              refine Ask.F rfl ?_
              refine Ask.T rfl ?_
              exact ⟨false, h, ⟨rfl, ⟨rfl, rfl, rfl, rfl, trivial⟩, trivial⟩⟩
        · refine Ask.F rfl ?_
          refine Ask.F rfl ?_
          refine Ask.F rfl ?_
          refine Ask.F rfl ?_
          refine Ask.F rfl ?_
          exact ⟨false, h, ⟨rfl, ⟨rfl, rfl, rfl, rfl, trivial⟩, trivial⟩⟩
      · rintro v4 h e hp
        try ((with_reducible apply cdX); exact rfl)
        refine ifB h (fun c19 h => ?_) (fun c19 h => ?_)
        · exact ⟨(w64 (v2 + 1)), h, ⟨rfl, ⟨rfl, rfl, rfl, trivial⟩, trivial⟩⟩
        · refine exQ h ?_
          exact ⟨rfl, ⟨rfl, trivial⟩, trivial⟩
    · rintro v3 S' h ⟨qn, ⟨qa0, _⟩, ⟨_⟩⟩
      exact ⟨v3, h, ⟨qn, ⟨qa0, trivial⟩, trivial⟩⟩
  · rintro v1 h e hp
    exact retE (enc := spec_l2Run.enc) h rfl
def spec_l1In.enc (r : Bool) : Res := ([(.d (.p (.bool r)))], [])
def spec_l1In.f  (K : Nat) (a0 : Int) (a1 : Int) (a2 : Int) : Option (Bool) := if a0 ≥ a1 then (some (decide (a0 ≤ a2))) else (some false)
theorem spec_l1In.ev   {K : Nat} {a0 : Int} {a1 : Int} {a2 : Int} {r : Bool} (h : spec_l1In.f  K a0 a1 a2 = some r) : E 38 [(.d (.p (.int .i64 a0))), (.d (.p (.int .i64 a1))), (.d (.p (.int .i64 a2)))] = some ([(.d (.p (.bool r)))], []) := by
  refine Ev_intro (fn := Tryd.f38) rfl (by kernel_rfl) (c := _) rfl ⟨rfl, by simp⟩ rfl (evP_spec _ ?_)
  unfold spec_l1In.f at h
  refine goS ?_
  try ((with_reducible apply cdX); exact rfl)
  refine iteF h (fun c1 h => ?_) (fun c1 h => ?_)
  · refine Ask.T rfl ?_
    refine Ask.T rfl ?_
    refine Ask.T rfl ?_
    exact retE (enc := spec_l1In.enc) h rfl
  · refine Ask.F rfl ?_
    refine Ask.F rfl ?_
    refine Ask.F rfl ?_
    exact retE (enc := spec_l1In.enc) h rfl
def spec_IsWord.enc (r : Bool) : Res := ([(.d (.p (.bool r)))], [])
def spec_IsWord.en (a0 : ByteArray) (r : Bool) (S : St) : Prop := endV tb md 82 Tryd.f82 [(.d (.p (.string a0)))] .ret S = some (spec_IsWord.enc r)
def spec_IsWord.l0 (a0 : ByteArray) (K : Nat) : Nat → Int → Option (Bool ⊕ Unit)
  | 0, _ => none
  | k + 1, v1 => if v1 < (a0.size : Int) then ((atS a0 v1).bind fun x3 => ((spec_l2Letter.f K (x3.toNat : Int)).bind fun y4 => (if (!y4) = true then (some (.inl false)) else (spec_IsWord.l0 a0 K k (w64 (v1 + 1)))))) else (some (.inr ()))
def spec_IsWord.f  (K : Nat) (a0 : ByteArray) : Option (Bool) := jn (fun (_ : Unit) => (spec_l1In.f K (a0.size : Int) 1 8).bind fun y7 => (some y7)) (fun j => lb (spec_IsWord.l0 a0 K K 0) (fun r => some r) (fun (_ : Unit) => j ()))
theorem spec_IsWord.ev   {K : Nat} {a0 : ByteArray} {r : Bool} (h : spec_IsWord.f  K a0 = some r) : E 82 [(.d (.p (.string a0)))] = some ([(.d (.p (.bool r)))], []) := by
  refine Ev_intro (fn := Tryd.f82) rfl (by kernel_rfl) (c := _) rfl ⟨rfl, by simp⟩ rfl (evP_spec _ ?_)
  unfold spec_IsWord.f at h
  refine seqJ h 18 (fun x => [(0, (.d (.p (.string a0))))]) (fun x => []) (fun J h => ?_) ?_
  · refine loopB (α := Int) (a := 0) 18 (fun x => [(0, (.d (.p (.string a0)))), (3, (.d (.p (.int .i64 x))))]) (fun x => []) (fun k x => spec_IsWord.l0 a0 K k x) (spec_IsWord.en a0) 0 (fun x => [(0, (.d (.p (.string a0))))]) (fun x => []) h (fun _ => rfl) ?_ ⟨rfl, ⟨rfl, rfl, trivial⟩, trivial⟩ ?_ ?_
    · rintro k v1 r h e hp
      replace h : spec_IsWord.l0 a0 K (k + 1) v1 = some r := h
      unfold spec_IsWord.l0 at h
      refine goS ?_
      try ((with_reducible apply cdX); exact rfl)
      refine iteF h (fun c2 h => ?_) (fun c2 h => ?_)
      · refine goS ?_
        refine bindG h fun x3 hx3 h => ?_
        refine exM x3 hx3 ?_
        refine bindG h fun y4 hy5 h => ?_
        refine exM ([(.d (.p (.bool y4)))], []) ?_ ?_
        · exact spec_l2Letter.ev hy5
        refine ifB h (fun c6 h => ?_) (fun c6 h => ?_)
        · exact lqL h rfl
        · exact ⟨(w64 (v1 + 1)), h, ⟨rfl, ⟨rfl, rfl, trivial⟩, trivial⟩⟩
      · refine lqR h ?_
        exact ⟨rfl, ⟨rfl, trivial⟩, trivial⟩
    · intro r' S' h q
      exact retE (enc := spec_IsWord.enc) h q
    · rintro _ S' h ⟨qn, ⟨qa0, _⟩, ⟨_⟩⟩
      exact ⟨(), h, ⟨qn, ⟨qa0, trivial⟩, trivial⟩⟩
  · rintro _ h e hp
    refine bindG h fun y7 hy8 h => ?_
    refine exM ([(.d (.p (.bool y7)))], []) ?_ ?_
    · exact spec_l1In.ev hy8
    exact retE (enc := spec_IsWord.enc) h rfl
def spec_Dec.enc (r : ByteArray) : Res := ([(.d (.p (.string r)))], [])
def spec_Dec.l0 (K : Nat) : Nat → Int → ByteArray → Option (ByteArray)
  | 0, _, _ => none
  | k + 1, v3, v4 => if (!(decide (v3 = 0))) = true then (jn (fun (v7 : Int) => gd ((strOfNums ([(IntKind.u8.wrap (w64 (48 + v7)))] : List Int)).size + v4.size ≤ 9223372036854775807) (spec_Dec.l0 K k (w64 (Int.tdiv v3 10)) ((strOfNums ([(IntKind.u8.wrap (w64 (48 + v7)))] : List Int)) ++ v4))) (fun j => if (Int.tmod v3 10) < 0 then (j (w64 (0 - (Int.tmod v3 10)))) else (j (Int.tmod v3 10)))) else (some v4)
def spec_Dec.f  (K : Nat) (a0 : Int) : Option (ByteArray) := if a0 = 0 then (some (⟨#[48]⟩ : ByteArray)) else (jn (fun (v2 : ByteArray) => if a0 < 0 then (gd ((⟨#[45]⟩ : ByteArray).size + v2.size ≤ 9223372036854775807) (some ((⟨#[45]⟩ : ByteArray) ++ v2))) else (some v2)) (fun j => (spec_Dec.l0 K K a0 (⟨#[]⟩ : ByteArray)).bind fun (v5 : ByteArray) => j v5))
theorem spec_Dec.ev   {K : Nat} {a0 : Int} {r : ByteArray} (h : spec_Dec.f  K a0 = some r) : E 111 [(.d (.p (.int .i64 a0)))] = some ([(.d (.p (.string r)))], []) := by
  refine Ev_intro (fn := Tryd.f111) rfl (by kernel_rfl) (c := _) rfl ⟨rfl, by simp⟩ rfl (evP_spec _ ?_)
  unfold spec_Dec.f at h
  refine goS ?_
  try ((with_reducible apply cdX); exact rfl)
  refine iteF h (fun c1 h => ?_) (fun c1 h => ?_)
  · exact retE (enc := spec_Dec.enc) h rfl
  · refine seqJ h 31 (fun x => [(3, (.d (.p (.string x)))), (4, (.d (.p (.bool (decide (a0 < 0))))))]) (fun x => []) (fun J h => ?_) ?_
    · refine loopX (α := Int × ByteArray) (a := (a0, (⟨#[]⟩ : ByteArray))) 31 (fun x => [(0, (.d (.p (.int .i64 x.1)))), (3, (.d (.p (.string x.2)))), (4, (.d (.p (.bool (decide (a0 < 0))))))]) (fun x => []) (fun k x => spec_Dec.l0 K k x.1 x.2) 0 (fun x => [(3, (.d (.p (.string x)))), (4, (.d (.p (.bool (decide (a0 < 0))))))]) (fun x => []) h (fun _ => rfl) ?_ ⟨rfl, ⟨rfl, rfl, rfl, trivial⟩, trivial⟩ ?_
      · rintro k ⟨v3, v4⟩ r h e hp
        replace h : spec_Dec.l0 K (k + 1) v3 v4 = some r := h
        unfold spec_Dec.l0 at h
        refine goS ?_
        try ((with_reducible apply cdX); exact rfl)
        refine ifB h (fun c6 h => ?_) (fun c6 h => ?_)
        · refine anM (by decide) ?_
          refine seqJ h 31 (fun x => [(0, (.d (.p (.int .i64 v3)))), (3, (.d (.p (.string v4)))), (4, (.d (.p (.bool (decide (a0 < 0)))))), (5, (.d (.p (.int .i64 x))))]) (fun x => []) (fun J h => ?_) ?_
          · try ((with_reducible apply cdX); exact rfl)
            refine iteF h (fun c8 h => ?_) (fun c8 h => ?_)
            · exact ⟨(w64 (0 - (Int.tmod v3 10))), h, ⟨rfl, ⟨rfl, rfl, rfl, rfl, trivial⟩, trivial⟩⟩
            · exact ⟨(Int.tmod v3 10), h, ⟨rfl, ⟨rfl, rfl, rfl, rfl, trivial⟩, trivial⟩⟩
          · rintro v7 h e hp
            refine eqM (([(IntKind.u8.wrap (w64 (48 + v7)))] : List Int).map eY) rfl ?_
            refine exM ([(IntKind.u8.wrap (w64 (48 + v7)))] : List Int) (numsOf_map _) ?_
            refine gdG h fun hc h => ?_
            refine anM hc ?_
            refine anM (by decide) ?_
            exact ⟨((w64 (Int.tdiv v3 10)), ((strOfNums ([(IntKind.u8.wrap (w64 (48 + v7)))] : List Int)) ++ v4)), h, ⟨rfl, ⟨rfl, rfl, rfl, trivial⟩, trivial⟩⟩
        · refine exQ h ?_
          exact ⟨rfl, ⟨rfl, rfl, trivial⟩, trivial⟩
      · rintro v5 S' h ⟨qn, ⟨qa0, qa1, _⟩, ⟨_⟩⟩
        exact ⟨v5, h, ⟨qn, ⟨qa0, qa1, trivial⟩, trivial⟩⟩
    · rintro v2 h e hp
      refine goS ?_
      try ((with_reducible apply cdX); exact rfl)
      refine iteF h (fun c9 h => ?_) (fun c9 h => ?_)
      · refine gdG h fun hc h => ?_
        refine anM hc ?_
        exact retE (enc := spec_Dec.enc) h rfl
      · exact retE (enc := spec_Dec.enc) h rfl
def spec_ReadDec.enc (r : Int × Bool) : Res := ([(.d (.p (.int .i64 r.1))), (.d (.p (.bool r.2)))], [])
def spec_ReadDec.l0 (a0 : ByteArray) (K : Nat) : Nat → Int → Int → Int → Option (Int × Int)
  | 0, _, _, _ => none
  | k + 1, v3, v4, v5 => jn (fun (v8 : Bool) => if v8 = true then (jn (fun (v11, v12) => spec_ReadDec.l0 a0 K k v11 v12 (w64 (v5 + 1))) (fun j => jn (fun (v13 : Bool) => if v13 = true then ((atS a0 v5).bind fun x18 => (j ((w64 ((w64 (v3 * 10)) + (w64 (IntKind.u8.wrap ((x18.toNat : Int) - 48))))), (w64 (v4 + 1))))) else (j (v3, v4))) (fun j => (atS a0 v5).bind fun x14 => (if (x14.toNat : Int) ≥ 48 then ((atS a0 v5).bind fun x16 => (j (decide ((x16.toNat : Int) ≤ 57)))) else (j false))))) else (some (v3, v4))) (fun j => if v5 < (a0.size : Int) then (j (decide (v5 < 11))) else (j false))
def spec_ReadDec.f  (K : Nat) (a0 : ByteArray) : Option (Int × Bool) := jn (fun (v1, v2) => jn (fun (v19 : Int) => jn (fun (v24 : Bool) => if v24 = true then (some (0, false)) else (some (v19, true))) (fun j => if v2 > 9 then (j true) else (if (a0.size : Int) > 10 then (j true) else ((spec_Dec.f K v19).bind fun y27 => (j (!(y27.toList == a0.toList))))))) (fun j => jn (fun (v20 : Bool) => if v20 = true then (j (w64 (0 - v1))) else (j v1)) (fun j => if (a0.size : Int) > 0 then ((atS a0 0).bind fun x22 => (j (decide ((x22.toNat : Int) = 45)))) else (j false)))) (fun j => (spec_ReadDec.l0 a0 K K 0 0 0).bind fun (v6, v7) => j (v6, v7))
theorem spec_ReadDec.ev   {K : Nat} {a0 : ByteArray} {r : Int × Bool} (h : spec_ReadDec.f  K a0 = some r) : E 84 [(.d (.p (.string a0)))] = some ([(.d (.p (.int .i64 r.1))), (.d (.p (.bool r.2)))], []) := by
  refine Ev_intro (fn := Tryd.f84) rfl (by kernel_rfl) (c := _) rfl ⟨rfl, by simp⟩ rfl (evP_spec _ ?_)
  unfold spec_ReadDec.f at h
  refine seqJ h 61 (fun x => [(0, (.d (.p (.string a0)))), (4, (.d (.p (.int .i64 x.1)))), (5, (.d (.p (.int .i64 x.2))))]) (fun x => []) (fun J h => ?_) ?_
  · refine loopX (α := Int × Int × Int) (a := (0, 0, 0)) 61 (fun x => [(0, (.d (.p (.string a0)))), (4, (.d (.p (.int .i64 x.1)))), (5, (.d (.p (.int .i64 x.2.1)))), (6, (.d (.p (.int .i64 x.2.2))))]) (fun x => []) (fun k x => spec_ReadDec.l0 a0 K k x.1 x.2.1 x.2.2) 0 (fun x => [(0, (.d (.p (.string a0)))), (4, (.d (.p (.int .i64 x.1)))), (5, (.d (.p (.int .i64 x.2))))]) (fun x => []) h (fun _ => rfl) ?_ ⟨rfl, ⟨rfl, rfl, rfl, rfl, trivial⟩, trivial⟩ ?_
    · rintro k ⟨v3, v4, v5⟩ r h e hp
      replace h : spec_ReadDec.l0 a0 K (k + 1) v3 v4 v5 = some r := h
      unfold spec_ReadDec.l0 at h
      refine goS ?_
      refine seqJ h 61 (fun x => [(0, (.d (.p (.string a0)))), (4, (.d (.p (.int .i64 v3)))), (5, (.d (.p (.int .i64 v4)))), (6, (.d (.p (.int .i64 v5)))), (14, (.d (.p (.bool x))))]) (fun x => []) (fun J h => ?_) ?_
      · try ((with_reducible apply cdX); exact rfl)
        refine iteF h (fun c9 h => ?_) (fun c9 h => ?_)
        · refine Ask.T rfl ?_
          refine Ask.T rfl ?_
          exact ⟨(decide (v5 < 11)), h, ⟨rfl, ⟨rfl, rfl, rfl, rfl, rfl, trivial⟩, trivial⟩⟩
        · refine Ask.F rfl ?_
          refine Ask.F rfl ?_
          exact ⟨false, h, ⟨rfl, ⟨rfl, rfl, rfl, rfl, rfl, trivial⟩, trivial⟩⟩
      · rintro v8 h e hp
        try ((with_reducible apply cdX); exact rfl)
        refine ifB h (fun c10 h => ?_) (fun c10 h => ?_)
        · refine seqJ h 61 (fun x => [(0, (.d (.p (.string a0)))), (4, (.d (.p (.int .i64 x.1)))), (5, (.d (.p (.int .i64 x.2)))), (6, (.d (.p (.int .i64 v5))))]) (fun x => []) (fun J h => ?_) ?_
          · refine seqJ h 61 (fun x => [(0, (.d (.p (.string a0)))), (4, (.d (.p (.int .i64 v3)))), (5, (.d (.p (.int .i64 v4)))), (6, (.d (.p (.int .i64 v5)))), (26, (.d (.p (.bool x))))]) (fun x => []) (fun J h => ?_) ?_
            · refine bindG h fun x14 hx14 h => ?_
              refine exM x14 hx14 ?_
              refine iteF h (fun c15 h => ?_) (fun c15 h => ?_)
              · refine Ask.T rfl ?_
                refine Ask.T rfl ?_
                refine bindG h fun x16 hx16 h => ?_
                refine exM x16 hx16 ?_
                refine Ask.T rfl ?_
                refine Ask.T rfl ?_
                exact ⟨(decide ((x16.toNat : Int) ≤ 57)), h, ⟨rfl, ⟨rfl, rfl, rfl, rfl, rfl, trivial⟩, trivial⟩⟩
              · refine Ask.F rfl ?_
                refine Ask.F rfl ?_
                refine Ask.F rfl ?_
                refine Ask.F rfl ?_
                exact ⟨false, h, ⟨rfl, ⟨rfl, rfl, rfl, rfl, rfl, trivial⟩, trivial⟩⟩
            · rintro v13 h e hp
              try ((with_reducible apply cdX); exact rfl)
              refine ifB h (fun c17 h => ?_) (fun c17 h => ?_)
              · refine bindG h fun x18 hx18 h => ?_
                refine exM x18 hx18 ?_
                exact ⟨((w64 ((w64 (v3 * 10)) + (w64 (IntKind.u8.wrap ((x18.toNat : Int) - 48))))), (w64 (v4 + 1))), h, ⟨rfl, ⟨rfl, rfl, rfl, rfl, trivial⟩, trivial⟩⟩
              · exact ⟨(v3, v4), h, ⟨rfl, ⟨rfl, rfl, rfl, rfl, trivial⟩, trivial⟩⟩
          · rintro ⟨v11, v12⟩ h e hp
            exact ⟨(v11, v12, (w64 (v5 + 1))), h, ⟨rfl, ⟨rfl, rfl, rfl, rfl, trivial⟩, trivial⟩⟩
        · refine exQ h ?_
          exact ⟨rfl, ⟨rfl, rfl, rfl, trivial⟩, trivial⟩
    · rintro ⟨v6, v7⟩ S' h ⟨qn, ⟨qa0, qa1, qa2, _⟩, ⟨_⟩⟩
      exact ⟨(v6, v7), h, ⟨qn, ⟨qa0, qa1, qa2, trivial⟩, trivial⟩⟩
  · rintro ⟨v1, v2⟩ h e hp
    refine seqJ h 61 (fun x => [(0, (.d (.p (.string a0)))), (4, (.d (.p (.int .i64 x)))), (5, (.d (.p (.int .i64 v2))))]) (fun x => []) (fun J h => ?_) ?_
    · refine seqJ h 61 (fun x => [(0, (.d (.p (.string a0)))), (4, (.d (.p (.int .i64 v1)))), (5, (.d (.p (.int .i64 v2)))), (44, (.d (.p (.bool x))))]) (fun x => []) (fun J h => ?_) ?_
      · try ((with_reducible apply cdX); exact rfl)
        refine iteF h (fun c21 h => ?_) (fun c21 h => ?_)
        · refine Ask.T rfl ?_
          refine bindG h fun x22 hx22 h => ?_
          refine exM x22 hx22 ?_
          refine Ask.T rfl ?_
          refine Ask.T rfl ?_
          exact ⟨(decide ((x22.toNat : Int) = 45)), h, ⟨rfl, ⟨rfl, rfl, rfl, rfl, trivial⟩, trivial⟩⟩
        · refine Ask.F rfl ?_
          refine Ask.F rfl ?_
          refine Ask.F rfl ?_
          exact ⟨false, h, ⟨rfl, ⟨rfl, rfl, rfl, rfl, trivial⟩, trivial⟩⟩
      · rintro v20 h e hp
        try ((with_reducible apply cdX); exact rfl)
        refine ifB h (fun c23 h => ?_) (fun c23 h => ?_)
        · exact ⟨(w64 (0 - v1)), h, ⟨rfl, ⟨rfl, rfl, rfl, trivial⟩, trivial⟩⟩
        · exact ⟨v1, h, ⟨rfl, ⟨rfl, rfl, rfl, trivial⟩, trivial⟩⟩
    · rintro v19 h e hp
      refine goS ?_
      refine seqJ h 61 (fun x => [(4, (.d (.p (.int .i64 v19)))), (59, (.d (.p (.bool x))))]) (fun x => []) (fun J h => ?_) ?_
      · try ((with_reducible apply cdX); exact rfl)
        refine iteF h (fun c25 h => ?_) (fun c25 h => ?_)
        · refine Ask.T rfl ?_
          refine Ask.T rfl ?_
          refine Ask.T rfl ?_
          refine Ask.T rfl ?_
          refine Ask.T rfl ?_
          refine Ask.T rfl ?_
          refine Ask.T rfl ?_
          refine Ask.T rfl ?_
          exact ⟨true, h, ⟨rfl, ⟨rfl, rfl, trivial⟩, trivial⟩⟩
        · refine Ask.F rfl ?_
          refine Ask.F rfl ?_
          refine Ask.F rfl ?_
          refine iteF h (fun c26 h => ?_) (fun c26 h => ?_)
          · refine Ask.T rfl ?_
            refine Ask.T rfl ?_
            refine Ask.T rfl ?_
            refine Ask.T rfl ?_
            exact ⟨true, h, ⟨rfl, ⟨rfl, rfl, trivial⟩, trivial⟩⟩
          · refine Ask.F rfl ?_
            refine bindG h fun y27 hy28 h => ?_
            refine exM ([(.d (.p (.string y27)))], []) ?_ ?_
            · exact spec_Dec.ev hy28
            refine Ask.F rfl ?_
            refine Ask.F rfl ?_
            refine Ask.F rfl ?_
            exact ⟨(!(y27.toList == a0.toList)), h, ⟨rfl, ⟨rfl, rfl, trivial⟩, trivial⟩⟩
      · rintro v24 h e hp
        try ((with_reducible apply cdX); exact rfl)
        refine ifB h (fun c29 h => ?_) (fun c29 h => ?_)
        · exact retE (enc := spec_ReadDec.enc) h rfl
        · exact retE (enc := spec_ReadDec.enc) h rfl
def spec_Lex.enc (r : List impl_Token × Int) : Res := ([(.own true 4 (r.1.map impl_Token.e)), (.d (.p (.int .i64 r.2)))], [])
def spec_Lex.en (a0 : ByteArray) (r : List impl_Token × Int) (S : St) : Prop := endV tb md 55 Tryd.f55 [(.d (.p (.string a0)))] .ret S = some (spec_Lex.enc r)
def spec_Lex.l1 (a0 : ByteArray) (K : Nat) : Nat → Int → Option (Int)
  | 0, _ => none
  | k + 1, v12 => jn (fun (v14 : Bool) => if v14 = true then (spec_Lex.l1 a0 K k (w64 (v12 + 1))) else (some v12)) (fun j => if v12 < (a0.size : Int) then ((atS a0 v12).bind fun x16 => (j (!(decide ((x16.toNat : Int) = 10))))) else (j false))
def spec_Lex.l0 (a0 : ByteArray) (K : Nat) : Nat → Int → (List impl_Token) → Option ((List impl_Token × Int) ⊕ (List impl_Token))
  | 0, _, _ => none
  | k + 1, v3, v4 => if v3 < (a0.size : Int) then ((atS a0 v3).bind fun x7 => (jn (fun (v8 : Bool) => if v8 = true then (spec_Lex.l0 a0 K k (w64 (v3 + 1)) v4) else (if (x7.toNat : Int) = 35 then ((spec_Lex.l1 a0 K K v3).bind fun (v13 : Int) => spec_Lex.l0 a0 K k v13 v4) else (if (x7.toNat : Int) = 40 then (gd ((v4.length + 1) * 40 ≤ 140737488355328) (spec_Lex.l0 a0 K k (w64 (v3 + 1)) (v4 ++ ([(⟨1, (⟨#[40]⟩ : ByteArray), 0, v3⟩ : impl_Token)] : List impl_Token)))) else (if (x7.toNat : Int) = 41 then (gd ((v4.length + 1) * 40 ≤ 140737488355328) (spec_Lex.l0 a0 K k (w64 (v3 + 1)) (v4 ++ ([(⟨2, (⟨#[41]⟩ : ByteArray), 0, v3⟩ : impl_Token)] : List impl_Token)))) else ((spec_l2Letter.f K (x7.toNat : Int)).bind fun y20 => (if y20 = true then ((spec_l2Run.f K a0 v3 true).bind fun y23 => (gd (0 ≤ v3 ∧ v3 ≤ y23 ∧ y23 ≤ (a0.size : Int)) ((spec_IsWord.f K (a0.extract (v3).toNat (y23).toNat)).bind fun y25 => (if (!y25) = true then (some (.inl (([] : List impl_Token), v3))) else (gd (0 ≤ v3 ∧ v3 ≤ y23 ∧ y23 ≤ (a0.size : Int)) (gd ((v4.length + 1) * 40 ≤ 140737488355328) (spec_Lex.l0 a0 K k y23 (v4 ++ ([(⟨3, (a0.extract (v3).toNat (y23).toNat), 0, v3⟩ : impl_Token)] : List impl_Token))))))))) else ((spec_l2Digit.f K (x7.toNat : Int)).bind fun y28 => (if y28 = true then ((spec_l2Run.f K a0 v3 false).bind fun y31 => (gd (0 ≤ v3 ∧ v3 ≤ y31 ∧ y31 ≤ (a0.size : Int)) ((spec_ReadDec.f K (a0.extract (v3).toNat (y31).toNat)).bind fun (y33, y34) => (jn (fun (v36 : Bool) => if v36 = true then (some (.inl (([] : List impl_Token), v3))) else (gd (0 ≤ v3 ∧ v3 ≤ y31 ∧ y31 ≤ (a0.size : Int)) (gd ((v4.length + 1) * 40 ≤ 140737488355328) (spec_Lex.l0 a0 K k y31 (v4 ++ ([(⟨4, (a0.extract (v3).toNat (y31).toNat), y33, v3⟩ : impl_Token)] : List impl_Token)))))) (fun j => if (!y34) = true then (j true) else (j (decide (y33 > 65535)))))))) else (some (.inl (([] : List impl_Token), v3))))))))))) (fun j => if (x7.toNat : Int) = 32 then (j true) else (j (decide ((x7.toNat : Int) = 10)))))) else (some (.inr v4))
def spec_Lex.f  (K : Nat) (a0 : ByteArray) : Option (List impl_Token × Int) := if (a0.size : Int) > 4000 then (some (([] : List impl_Token), 4000)) else (jn (fun (v2 : List impl_Token) => some (v2, (-1))) (fun j => lb (spec_Lex.l0 a0 K K 0 ([] : List impl_Token)) (fun r => some r) (fun (v5 : List impl_Token) => j v5)))
theorem spec_Lex.ev   {K : Nat} {a0 : ByteArray} {r : List impl_Token × Int} (h : spec_Lex.f  K a0 = some r) : E 55 [(.d (.p (.string a0)))] = some ([(.own true 4 (r.1.map impl_Token.e)), (.d (.p (.int .i64 r.2)))], []) := by
  refine Ev_intro (fn := Tryd.f55) rfl (by kernel_rfl) (c := _) rfl ⟨rfl, by simp⟩ rfl (evP_spec _ ?_)
  unfold spec_Lex.f at h
  refine eqM (([] : List impl_Token).map impl_Token.e) rfl ?_
  refine goS ?_
  try ((with_reducible apply cdX); exact rfl)
  refine iteF h (fun c1 h => ?_) (fun c1 h => ?_)
  · exact retE (enc := spec_Lex.enc) h rfl
  · refine seqJ h 127 (fun x => [(4, (.own 4 1 2))]) (fun x => [(4, 1, 2, (some (.row true true 4 (x.map impl_Token.e))))]) (fun J h => ?_) ?_
    · refine loopB (α := Int × List impl_Token) (a := (0, ([] : List impl_Token))) 127 (fun x => [(0, (.d (.p (.string a0)))), (4, (.own 4 1 2)), (5, (.d (.p (.int .i64 x.1))))]) (fun x => [(4, 1, 2, (some (.row true true 4 (x.2.map impl_Token.e))))]) (fun k x => spec_Lex.l0 a0 K k x.1 x.2) (spec_Lex.en a0) 0 (fun x => [(4, (.own 4 1 2))]) (fun x => [(4, 1, 2, (some (.row true true 4 (x.map impl_Token.e))))]) h (fun _ => rfl) ?_ ⟨rfl, ⟨rfl, rfl, rfl, trivial⟩, ⟨rfl, trivial⟩⟩ ?_ ?_
      · rintro k ⟨v3, v4⟩ r h e hp
        replace h : spec_Lex.l0 a0 K (k + 1) v3 v4 = some r := h
        unfold spec_Lex.l0 at h
        refine goS ?_
        try ((with_reducible apply cdX); exact rfl)
        refine iteF h (fun c6 h => ?_) (fun c6 h => ?_)
        · refine bindG h fun x7 hx7 h => ?_
          refine exM x7 hx7 ?_
          refine seqJ h 127 (fun x => [(0, (.d (.p (.string a0)))), (4, (.own 4 1 2)), (5, (.d (.p (.int .i64 v3)))), (6, (.d (.p (.int .u8 (x7.toNat : Int))))), (25, (.d (.p (.bool x))))]) (fun x => [(4, 1, 2, (some (.row true true 4 (v4.map impl_Token.e))))]) (fun J h => ?_) ?_
          · try ((with_reducible apply cdX); exact rfl)
            refine iteF h (fun c9 h => ?_) (fun c9 h => ?_)
            · refine Ask.T rfl ?_
              refine Ask.T rfl ?_
              exact ⟨true, h, ⟨rfl, ⟨rfl, rfl, rfl, rfl, rfl, trivial⟩, ⟨rfl, trivial⟩⟩⟩
            · refine Ask.F rfl ?_
              refine Ask.F rfl ?_
              exact ⟨(decide ((x7.toNat : Int) = 10)), h, ⟨rfl, ⟨rfl, rfl, rfl, rfl, rfl, trivial⟩, ⟨rfl, trivial⟩⟩⟩
          · rintro v8 h e hp
            try ((with_reducible apply cdX); exact rfl)
            refine ifB h (fun c10 h => ?_) (fun c10 h => ?_)
            · exact ⟨((w64 (v3 + 1)), v4), h, ⟨rfl, ⟨rfl, rfl, rfl, trivial⟩, ⟨rfl, trivial⟩⟩⟩
            · try ((with_reducible apply cdX); exact rfl)
              refine iteF h (fun c11 h => ?_) (fun c11 h => ?_)
              · refine loopX (α := Int) (a := v3) 127 (fun x => [(0, (.d (.p (.string a0)))), (4, (.own 4 1 2)), (5, (.d (.p (.int .i64 x))))]) (fun x => [(4, 1, 2, (some (.row true true 4 (v4.map impl_Token.e))))]) (fun k x => spec_Lex.l1 a0 K k x) 3 (fun x => [(0, (.d (.p (.string a0)))), (4, (.own 4 1 2)), (5, (.d (.p (.int .i64 x))))]) (fun x => [(4, 1, 2, (some (.row true true 4 (v4.map impl_Token.e))))]) h (fun _ => rfl) ?_ ⟨rfl, ⟨rfl, rfl, rfl, trivial⟩, ⟨rfl, trivial⟩⟩ ?_
                · rintro k v12 r h e hp
                  replace h : spec_Lex.l1 a0 K (k + 1) v12 = some r := h
                  unfold spec_Lex.l1 at h
                  refine goS ?_
                  refine seqJ h 127 (fun x => [(0, (.d (.p (.string a0)))), (4, (.own 4 1 2)), (5, (.d (.p (.int .i64 v12)))), (46, (.d (.p (.bool x))))]) (fun x => [(4, 1, 2, (some (.row true true 4 (v4.map impl_Token.e))))]) (fun J h => ?_) ?_
                  · try ((with_reducible apply cdX); exact rfl)
                    refine iteF h (fun c15 h => ?_) (fun c15 h => ?_)
                    · refine Ask.T rfl ?_
                      refine Ask.T rfl ?_
                      refine bindG h fun x16 hx16 h => ?_
                      refine exM x16 hx16 ?_
                      refine Ask.T rfl ?_
                      refine Ask.T rfl ?_
                      exact ⟨(!(decide ((x16.toNat : Int) = 10))), h, ⟨rfl, ⟨rfl, rfl, rfl, rfl, trivial⟩, ⟨rfl, trivial⟩⟩⟩
                    · refine Ask.F rfl ?_
                      refine Ask.F rfl ?_
                      refine Ask.F rfl ?_
                      refine Ask.F rfl ?_
                      exact ⟨false, h, ⟨rfl, ⟨rfl, rfl, rfl, rfl, trivial⟩, ⟨rfl, trivial⟩⟩⟩
                  · rintro v14 h e hp
                    try ((with_reducible apply cdX); exact rfl)
                    refine ifB h (fun c17 h => ?_) (fun c17 h => ?_)
                    · exact ⟨(w64 (v12 + 1)), h, ⟨rfl, ⟨rfl, rfl, rfl, trivial⟩, ⟨rfl, trivial⟩⟩⟩
                    · refine exQ h ?_
                      exact ⟨rfl, ⟨rfl, rfl, rfl, trivial⟩, ⟨rfl, trivial⟩⟩
                · rintro v13 S' h ⟨qn, ⟨qa0, qa1, qa2, _⟩, ⟨qb0, _⟩⟩
                  exact ⟨(v13, v4), h, ⟨qn, ⟨qa0, qa1, qa2, trivial⟩, ⟨qb0, trivial⟩⟩⟩
              · try ((with_reducible apply cdX); exact rfl)
                refine iteF h (fun c18 h => ?_) (fun c18 h => ?_)
                · refine eqM (([(⟨1, (⟨#[40]⟩ : ByteArray), 0, v3⟩ : impl_Token)] : List impl_Token).map impl_Token.e) rfl ?_
                  refine gdG h fun hc h => ?_
                  refine anM (apB hc) ?_
                  refine eqM ((v4 ++ ([(⟨1, (⟨#[40]⟩ : ByteArray), 0, v3⟩ : impl_Token)] : List impl_Token)).map impl_Token.e) (mApp rfl rfl) ?_
                  exact ⟨((w64 (v3 + 1)), (v4 ++ ([(⟨1, (⟨#[40]⟩ : ByteArray), 0, v3⟩ : impl_Token)] : List impl_Token))), h, ⟨rfl, ⟨rfl, rfl, rfl, trivial⟩, ⟨rfl, trivial⟩⟩⟩
                · try ((with_reducible apply cdX); exact rfl)
                  refine iteF h (fun c19 h => ?_) (fun c19 h => ?_)
                  · refine eqM (([(⟨2, (⟨#[41]⟩ : ByteArray), 0, v3⟩ : impl_Token)] : List impl_Token).map impl_Token.e) rfl ?_
                    refine gdG h fun hc h => ?_
                    refine anM (apB hc) ?_
                    refine eqM ((v4 ++ ([(⟨2, (⟨#[41]⟩ : ByteArray), 0, v3⟩ : impl_Token)] : List impl_Token)).map impl_Token.e) (mApp rfl rfl) ?_
                    exact ⟨((w64 (v3 + 1)), (v4 ++ ([(⟨2, (⟨#[41]⟩ : ByteArray), 0, v3⟩ : impl_Token)] : List impl_Token))), h, ⟨rfl, ⟨rfl, rfl, rfl, trivial⟩, ⟨rfl, trivial⟩⟩⟩
                  · refine bindG h fun y20 hy21 h => ?_
                    refine exM ([(.d (.p (.bool y20)))], []) ?_ ?_
                    · exact spec_l2Letter.ev hy21
                    refine ifB h (fun c22 h => ?_) (fun c22 h => ?_)
                    · refine bindG h fun y23 hy24 h => ?_
                      refine exM ([(.d (.p (.int .i64 y23)))], []) ?_ ?_
                      · exact spec_l2Run.ev hy24
                      refine goS ?_
                      refine gdG h fun hc h => ?_
                      refine anM hc ?_
                      refine bindG h fun y25 hy26 h => ?_
                      refine exM ([(.d (.p (.bool y25)))], []) ?_ ?_
                      · exact spec_IsWord.ev hy26
                      refine ifB h (fun c27 h => ?_) (fun c27 h => ?_)
                      · refine eqM (([] : List impl_Token).map impl_Token.e) rfl ?_
                        exact lqL h rfl
                      · refine gdG h fun hc h => ?_
                        refine anM hc ?_
                        refine eqM (([(⟨3, (a0.extract (v3).toNat (y23).toNat), 0, v3⟩ : impl_Token)] : List impl_Token).map impl_Token.e) rfl ?_
                        refine gdG h fun hc h => ?_
                        refine anM (apB hc) ?_
                        refine eqM ((v4 ++ ([(⟨3, (a0.extract (v3).toNat (y23).toNat), 0, v3⟩ : impl_Token)] : List impl_Token)).map impl_Token.e) (mApp rfl rfl) ?_
                        exact ⟨(y23, (v4 ++ ([(⟨3, (a0.extract (v3).toNat (y23).toNat), 0, v3⟩ : impl_Token)] : List impl_Token))), h, ⟨rfl, ⟨rfl, rfl, rfl, trivial⟩, ⟨rfl, trivial⟩⟩⟩
                    · refine bindG h fun y28 hy29 h => ?_
                      refine exM ([(.d (.p (.bool y28)))], []) ?_ ?_
                      · exact spec_l2Digit.ev hy29
                      refine ifB h (fun c30 h => ?_) (fun c30 h => ?_)
                      · refine bindG h fun y31 hy32 h => ?_
                        refine exM ([(.d (.p (.int .i64 y31)))], []) ?_ ?_
                        · exact spec_l2Run.ev hy32
                        refine gdG h fun hc h => ?_
                        refine anM hc ?_
                        refine bindG h ?_
                        rintro ⟨y33, y34⟩ hy35 h
                        refine exM ([(.d (.p (.int .i64 y33))), (.d (.p (.bool y34)))], []) ?_ ?_
                        · exact spec_ReadDec.ev hy35
                        refine goS ?_
                        refine seqJ h 127 (fun x => [(0, (.d (.p (.string a0)))), (4, (.own 4 1 2)), (5, (.d (.p (.int .i64 v3)))), (8, (.d (.p (.int .i64 y31)))), (9, (.d (.p (.int .i64 y33)))), (112, (.d (.p (.bool x))))]) (fun x => [(4, 1, 2, (some (.row true true 4 (v4.map impl_Token.e))))]) (fun J h => ?_) ?_
                        · try ((with_reducible apply cdX); exact rfl)
                          refine ifB h (fun c37 h => ?_) (fun c37 h => ?_)
                          · refine Ask.T rfl ?_
                            refine Ask.T rfl ?_
                            exact ⟨true, h, ⟨rfl, ⟨rfl, rfl, rfl, rfl, rfl, rfl, trivial⟩, ⟨rfl, trivial⟩⟩⟩
                          · refine Ask.F rfl ?_
                            refine Ask.F rfl ?_
                            exact ⟨(decide (y33 > 65535)), h, ⟨rfl, ⟨rfl, rfl, rfl, rfl, rfl, rfl, trivial⟩, ⟨rfl, trivial⟩⟩⟩
                        · rintro v36 h e hp
                          try ((with_reducible apply cdX); exact rfl)
                          refine ifB h (fun c38 h => ?_) (fun c38 h => ?_)
                          · refine eqM (([] : List impl_Token).map impl_Token.e) rfl ?_
                            exact lqL h rfl
                          · refine gdG h fun hc h => ?_
                            refine anM hc ?_
                            refine eqM (([(⟨4, (a0.extract (v3).toNat (y31).toNat), y33, v3⟩ : impl_Token)] : List impl_Token).map impl_Token.e) rfl ?_
                            refine gdG h fun hc h => ?_
                            refine anM (apB hc) ?_
                            refine eqM ((v4 ++ ([(⟨4, (a0.extract (v3).toNat (y31).toNat), y33, v3⟩ : impl_Token)] : List impl_Token)).map impl_Token.e) (mApp rfl rfl) ?_
                            exact ⟨(y31, (v4 ++ ([(⟨4, (a0.extract (v3).toNat (y31).toNat), y33, v3⟩ : impl_Token)] : List impl_Token))), h, ⟨rfl, ⟨rfl, rfl, rfl, trivial⟩, ⟨rfl, trivial⟩⟩⟩
                      · refine eqM (([] : List impl_Token).map impl_Token.e) rfl ?_
                        exact lqL h rfl
        · refine lqR h ?_
          exact ⟨rfl, ⟨rfl, trivial⟩, ⟨rfl, trivial⟩⟩
      · intro r' S' h q
        exact retE (enc := spec_Lex.enc) h q
      · rintro v5 S' h ⟨qn, ⟨qa0, _⟩, ⟨qb0, _⟩⟩
        exact ⟨v5, h, ⟨qn, ⟨qa0, trivial⟩, ⟨qb0, trivial⟩⟩⟩
    · rintro v2 h e hp
      exact retE (enc := spec_Lex.enc) h rfl
def spec_l4Fail.enc (r : spec_l4State) : Res := ([(.agg (r.e.map .d))], [])
def spec_l4Fail.f  (K : Nat) (a0 : spec_l4State) (a1 : Int) (a2 : Int) : Option (spec_l4State) := jn (fun (v1 : spec_l4State) => some v1) (fun j => if a0.code = 0 then (j (⟨a0.toks, a0.i, a1, a2, a0.end_⟩ : spec_l4State)) else (j a0))
theorem spec_l4Fail.ev   {K : Nat} {a0 : spec_l4State} {a1 : Int} {a2 : Int} {r : spec_l4State} (h : spec_l4Fail.f  K a0 a1 a2 = some r) : E 57 [(.agg (a0.e.map .d)), (.d (.p (.int .i64 a1))), (.d (.p (.int .i64 a2)))] = some ([(.agg (r.e.map .d))], []) := by
  refine Ev_intro (fn := Tryd.f57) rfl (by kernel_rfl) (c := _) rfl ⟨rfl, by simp⟩ rfl (evP_spec _ ?_)
  unfold spec_l4Fail.f at h
  refine seqJ h 15 (fun x => [(3, (.ptr 3 0 2 0)), (6, (.ptr 6 0 2 0))]) (fun x => [(3, 0, 2, (some (.box [(.d (.l true 4 (x.toks.map impl_Token.e))), (.d (.p (.int .i64 x.i))), (.d (.p (.int .i64 x.code))), (.d (.p (.int .i64 x.at_))), (.d (.p (.int .i64 x.end_)))]))), (6, 0, 2, (some (.box [(.own 6 1000 2), (.d (.p (.int .i64 0))), (.d (.p (.int .i64 0))), (.d (.p (.int .i64 0))), (.d (.p (.int .i64 0)))]))), (6, 1000, 2, (some (.row true true 4 (([] : List impl_Token).map impl_Token.e))))]) (fun J h => ?_) ?_
  · try ((with_reducible apply cdX); exact rfl)
    refine iteF h (fun c2 h => ?_) (fun c2 h => ?_)
    · refine goS ?_
      exact ⟨(⟨a0.toks, a0.i, a1, a2, a0.end_⟩ : spec_l4State), h, ⟨rfl, ⟨rfl, rfl, trivial⟩, ⟨rfl, rfl, rfl, trivial⟩⟩⟩
    · exact ⟨a0, h, ⟨rfl, ⟨rfl, rfl, trivial⟩, ⟨rfl, rfl, rfl, trivial⟩⟩⟩
  · rintro v1 h e hp
    refine goS ?_
    exact retE (enc := spec_l4Fail.enc) h rfl
def spec_l3Keys.enc (r : List ByteArray) : Res := ([(.own true 1 (r.map eS))], [])
def spec_l3Keys.f  (K : Nat)  : Option (List ByteArray) := some ([(⟨#[102, 117, 110]⟩ : ByteArray), (⟨#[97, 112, 112]⟩ : ByteArray), (⟨#[108, 101, 116]⟩ : ByteArray), (⟨#[114, 101, 99]⟩ : ByteArray), (⟨#[105, 102]⟩ : ByteArray), (⟨#[97, 100, 100]⟩ : ByteArray), (⟨#[115, 117, 98]⟩ : ByteArray), (⟨#[108, 101, 115, 115]⟩ : ByteArray), (⟨#[115, 97, 109, 101]⟩ : ByteArray), (⟨#[112, 97, 105, 114]⟩ : ByteArray), (⟨#[102, 115, 116]⟩ : ByteArray), (⟨#[115, 110, 100]⟩ : ByteArray), (⟨#[110, 105, 108]⟩ : ByteArray), (⟨#[99, 111, 110, 115]⟩ : ByteArray), (⟨#[109, 97, 116, 99, 104]⟩ : ByteArray), (⟨#[114, 101, 102]⟩ : ByteArray), (⟨#[103, 101, 116]⟩ : ByteArray), (⟨#[115, 101, 116]⟩ : ByteArray), (⟨#[114, 97, 105, 115, 101]⟩ : ByteArray), (⟨#[116, 114, 121]⟩ : ByteArray)] : List ByteArray)
theorem spec_l3Keys.ev   {K : Nat}  {r : List ByteArray} (h : spec_l3Keys.f  K  = some r) : E 124 [] = some ([(.own true 1 (r.map eS))], []) := by
  refine Ev_intro (fn := Tryd.f124) rfl (by kernel_rfl) (c := _) rfl ⟨rfl, by simp⟩ rfl (evP_spec _ ?_)
  unfold spec_l3Keys.f at h
  refine eqM (([(⟨#[102, 117, 110]⟩ : ByteArray), (⟨#[97, 112, 112]⟩ : ByteArray), (⟨#[108, 101, 116]⟩ : ByteArray), (⟨#[114, 101, 99]⟩ : ByteArray), (⟨#[105, 102]⟩ : ByteArray), (⟨#[97, 100, 100]⟩ : ByteArray), (⟨#[115, 117, 98]⟩ : ByteArray), (⟨#[108, 101, 115, 115]⟩ : ByteArray), (⟨#[115, 97, 109, 101]⟩ : ByteArray), (⟨#[112, 97, 105, 114]⟩ : ByteArray), (⟨#[102, 115, 116]⟩ : ByteArray), (⟨#[115, 110, 100]⟩ : ByteArray), (⟨#[110, 105, 108]⟩ : ByteArray), (⟨#[99, 111, 110, 115]⟩ : ByteArray), (⟨#[109, 97, 116, 99, 104]⟩ : ByteArray), (⟨#[114, 101, 102]⟩ : ByteArray), (⟨#[103, 101, 116]⟩ : ByteArray), (⟨#[115, 101, 116]⟩ : ByteArray), (⟨#[114, 97, 105, 115, 101]⟩ : ByteArray), (⟨#[116, 114, 121]⟩ : ByteArray)] : List ByteArray).map eS) rfl ?_
  exact retE (enc := spec_l3Keys.enc) h rfl
def spec_IsKey.enc (r : Bool) : Res := ([(.d (.p (.bool r)))], [])
def spec_IsKey.en (a0 : ByteArray) (r : Bool) (S : St) : Prop := endV tb md 112 Tryd.f112 [(.d (.p (.string a0)))] .ret S = some (spec_IsKey.enc r)
def spec_IsKey.l0 (a0 : ByteArray) (y1 : List ByteArray) (K : Nat) : Nat → Int → Option (Bool ⊕ Unit)
  | 0, _ => none
  | k + 1, v3 => if v3 < (y1.length : Int) then ((at_ y1 v3).bind fun x5 => (if (x5.toList == a0.toList) = true then (some (.inl true)) else (spec_IsKey.l0 a0 y1 K k (w64 (v3 + 1))))) else (some (.inr ()))
def spec_IsKey.f  (K : Nat) (a0 : ByteArray) : Option (Bool) := (spec_l3Keys.f K).bind fun y1 => (jn (fun (_ : Unit) => some false) (fun j => lb (spec_IsKey.l0 a0 y1 K K 0) (fun r => some r) (fun (_ : Unit) => j ())))
theorem spec_IsKey.ev   {K : Nat} {a0 : ByteArray} {r : Bool} (h : spec_IsKey.f  K a0 = some r) : E 112 [(.d (.p (.string a0)))] = some ([(.d (.p (.bool r)))], []) := by
  refine Ev_intro (fn := Tryd.f112) rfl (by kernel_rfl) (c := _) rfl ⟨rfl, by simp⟩ rfl (evP_spec _ ?_)
  unfold spec_IsKey.f at h
  refine bindG h fun y1 hy2 h => ?_
  refine exM ([(.own true 1 (y1.map eS))], []) ?_ ?_
  · exact spec_l3Keys.ev hy2
  refine seqJ h 18 (fun x => []) (fun x => []) (fun J h => ?_) ?_
  · refine loopB (α := Int) (a := 0) 18 (fun x => [(0, (.d (.p (.string a0)))), (3, (.own 3 1 2)), (4, (.d (.p (.int .i64 x))))]) (fun x => [(3, 1, 2, (some (.row true true 1 (y1.map eS))))]) (fun k x => spec_IsKey.l0 a0 y1 K k x) (spec_IsKey.en a0) 0 (fun x => []) (fun x => []) h (fun _ => rfl) ?_ ⟨rfl, ⟨rfl, rfl, rfl, trivial⟩, ⟨rfl, trivial⟩⟩ ?_ ?_
    · rintro k v3 r h e hp
      replace h : spec_IsKey.l0 a0 y1 K (k + 1) v3 = some r := h
      unfold spec_IsKey.l0 at h
      refine goS ?_
      refine eqM ((y1.length : Int) : Int) (mLen rfl) ?_
      refine iteF h (fun c4 h => ?_) (fun c4 h => ?_)
      · refine goS ?_
        refine bindG h fun x5 hx5 h => ?_
        refine anM (at_ix rfl hx5) ?_
        refine exM (eS x5) (at_get rfl hx5) ?_
        refine ifB h (fun c6 h => ?_) (fun c6 h => ?_)
        · exact lqL h rfl
        · exact ⟨(w64 (v3 + 1)), h, ⟨rfl, ⟨rfl, rfl, rfl, trivial⟩, ⟨rfl, trivial⟩⟩⟩
      · refine lqR h ?_
        exact ⟨rfl, trivial, trivial⟩
    · intro r' S' h q
      exact retE (enc := spec_IsKey.enc) h q
    · rintro _ S' h ⟨qn, ⟨_⟩, ⟨_⟩⟩
      exact ⟨(), h, ⟨qn, trivial, trivial⟩⟩
  · rintro _ h e hp
    exact retE (enc := spec_IsKey.enc) h rfl
def spec_l4Take.enc (r : spec_l4State × impl_Token) : Res := ([(.agg (r.1.e.map .d)), (.agg (r.2.e.map .d))], [])
def spec_l4Take.f  (K : Nat) (a0 : spec_l4State) (a1 : Int) : Option (spec_l4State × impl_Token) := if (!(decide (a0.code = 0))) = true then (some (a0, (⟨0, (⟨#[]⟩ : ByteArray), 0, 0⟩ : impl_Token))) else (if a0.i ≥ (a0.toks.length : Int) then ((spec_l4Fail.f K a0 2 a0.end_).bind fun y3 => (some (y3, (⟨0, (⟨#[]⟩ : ByteArray), 0, 0⟩ : impl_Token)))) else ((at_ a0.toks a0.i).bind fun x5 => (if (!(decide (x5.Kind = a1))) = true then ((spec_l4Fail.f K a0 3 x5.At).bind fun y7 => (some (y7, (⟨0, (⟨#[]⟩ : ByteArray), 0, 0⟩ : impl_Token)))) else (some ((⟨a0.toks, (w64 (a0.i + 1)), a0.code, a0.at_, a0.end_⟩ : spec_l4State), x5)))))
theorem spec_l4Take.ev   {K : Nat} {a0 : spec_l4State} {a1 : Int} {r : spec_l4State × impl_Token} (h : spec_l4Take.f  K a0 a1 = some r) : E 86 [(.agg (a0.e.map .d)), (.d (.p (.int .i64 a1)))] = some ([(.agg (r.1.e.map .d)), (.agg (r.2.e.map .d))], []) := by
  refine Ev_intro (fn := Tryd.f86) rfl (by kernel_rfl) (c := _) rfl ⟨rfl, by simp⟩ rfl (evP_spec _ ?_)
  unfold spec_l4Take.f at h
  refine goS ?_
  try ((with_reducible apply cdX); exact rfl)
  refine ifB h (fun c1 h => ?_) (fun c1 h => ?_)
  · refine goS ?_
    exact retE (enc := spec_l4Take.enc) h rfl
  · refine goS ?_
    refine eqM ((a0.toks.length : Int) : Int) (mLen rfl) ?_
    refine iteF h (fun c2 h => ?_) (fun c2 h => ?_)
    · refine goS ?_
      refine bindG h fun y3 hy4 h => ?_
      refine exM ([(.agg (y3.e.map .d))], []) ?_ ?_
      · exact spec_l4Fail.ev hy4
      exact retE (enc := spec_l4Take.enc) h rfl
    · refine goS ?_
      refine bindG h fun x5 hx5 h => ?_
      refine anM (at_ix rfl hx5) ?_
      refine exM (impl_Token.e x5) (at_get rfl hx5) ?_
      refine goS ?_
      try ((with_reducible apply cdX); exact rfl)
      refine ifB h (fun c6 h => ?_) (fun c6 h => ?_)
      · refine goS ?_
        refine bindG h fun y7 hy8 h => ?_
        refine exM ([(.agg (y7.e.map .d))], []) ?_ ?_
        · exact spec_l4Fail.ev hy8
        exact retE (enc := spec_l4Take.enc) h rfl
      · refine goS ?_
        refine goS ?_
        refine ⟨[[43], [42], [43, 999999, 6], []], [[], [999999, 6], [], []], by kernel_rfl, ?_⟩
        exact retE (enc := spec_l4Take.enc) h rfl
def spec_l4Name.enc (r : spec_l4State × ByteArray) : Res := ([(.agg (r.1.e.map .d)), (.d (.p (.string r.2)))], [])
def spec_l4Name.f  (K : Nat) (a0 : spec_l4State) : Option (spec_l4State × ByteArray) := jn (fun (v1 : Bool) => if v1 = true then ((at_ a0.toks a0.i).bind fun x8 => ((spec_l4Fail.f K a0 3 x8.At).bind fun y9 => (some (y9, (⟨#[]⟩ : ByteArray))))) else ((spec_l4Take.f K a0 3).bind fun (y11, y12) => (some (y11, y12.Text)))) (fun j => if a0.code = 0 then (if a0.i < (a0.toks.length : Int) then ((at_ a0.toks a0.i).bind fun x4 => ((spec_IsKey.f K x4.Text).bind fun y5 => (j y5))) else (j false)) else (j false))
theorem spec_l4Name.ev   {K : Nat} {a0 : spec_l4State} {r : spec_l4State × ByteArray} (h : spec_l4Name.f  K a0 = some r) : E 85 [(.agg (a0.e.map .d))] = some ([(.agg (r.1.e.map .d)), (.d (.p (.string r.2)))], []) := by
  refine Ev_intro (fn := Tryd.f85) rfl (by kernel_rfl) (c := _) rfl ⟨rfl, by simp⟩ rfl (evP_spec _ ?_)
  unfold spec_l4Name.f at h
  refine goS ?_
  refine seqJ h 44 (fun x => [(1, (.ptr 1 0 2 0)), (2, (.ptr 2 0 2 0)), (26, (.d (.p (.bool x))))]) (fun x => [(1, 0, 2, (some (.box [(.d (.l true 4 (a0.toks.map impl_Token.e))), (.d (.p (.int .i64 a0.i))), (.d (.p (.int .i64 a0.code))), (.d (.p (.int .i64 a0.at_))), (.d (.p (.int .i64 a0.end_)))]))), (2, 0, 2, (some (.box [(.own 2 1000 2), (.d (.p (.int .i64 0))), (.d (.p (.int .i64 0))), (.d (.p (.int .i64 0))), (.d (.p (.int .i64 0)))]))), (2, 1000, 2, (some (.row true true 4 (([] : List impl_Token).map impl_Token.e))))]) (fun J h => ?_) ?_
  · try ((with_reducible apply cdX); exact rfl)
    refine iteF h (fun c2 h => ?_) (fun c2 h => ?_)
    · refine Ask.T rfl ?_
      refine Ask.T rfl ?_
      refine Ask.T rfl ?_
      refine Ask.T rfl ?_
      refine eqM ((a0.toks.length : Int) : Int) (mLen rfl) ?_
      refine Ask.T rfl ?_
      refine Ask.T rfl ?_
      refine iteF h (fun c3 h => ?_) (fun c3 h => ?_)
      · refine Ask.T rfl ?_
        refine Ask.T rfl ?_
        refine Ask.T rfl ?_
        refine Ask.T rfl ?_
        refine bindG h fun x4 hx4 h => ?_
        refine anM (at_ix rfl hx4) ?_
        refine Ask.T rfl ?_
        refine Ask.T rfl ?_
        refine exM (impl_Token.e x4) (at_get rfl hx4) ?_
        refine Ask.T rfl ?_
        refine bindG h fun y5 hy6 h => ?_
        refine exM ([(.d (.p (.bool y5)))], []) ?_ ?_
        · exact spec_IsKey.ev hy6
        refine Ask.T rfl ?_
        exact ⟨y5, h, ⟨rfl, ⟨rfl, rfl, rfl, trivial⟩, ⟨rfl, rfl, rfl, trivial⟩⟩⟩
      · refine Ask.F rfl ?_
        refine Ask.F rfl ?_
        refine Ask.F rfl ?_
        refine Ask.F rfl ?_
        refine Ask.F rfl ?_
        refine Ask.F rfl ?_
        refine Ask.F rfl ?_
        refine Ask.F rfl ?_
        exact ⟨false, h, ⟨rfl, ⟨rfl, rfl, rfl, trivial⟩, ⟨rfl, rfl, rfl, trivial⟩⟩⟩
    · refine Ask.F rfl ?_
      refine Ask.F rfl ?_
      refine Ask.F rfl ?_
      refine Ask.F rfl ?_
      refine Ask.F rfl ?_
      refine Ask.F rfl ?_
      refine Ask.F rfl ?_
      refine Ask.F rfl ?_
      refine Ask.F rfl ?_
      refine Ask.F rfl ?_
      refine Ask.F rfl ?_
      refine Ask.F rfl ?_
      refine Ask.F rfl ?_
      refine Ask.F rfl ?_
      refine Ask.F rfl ?_
      exact ⟨false, h, ⟨rfl, ⟨rfl, rfl, rfl, trivial⟩, ⟨rfl, rfl, rfl, trivial⟩⟩⟩
  · rintro v1 h e hp
    try ((with_reducible apply cdX); exact rfl)
    refine ifB h (fun c7 h => ?_) (fun c7 h => ?_)
    · refine goS ?_
      refine ⟨[[28, 29, 30, 31, 32, 33, 34], [27, 30, 31], [27, 30, 31], [27, 28, 29], [27, 28, 29], [27], [27], [27], [], [], []], [], by kernel_rfl, ?_⟩
      refine bindG h fun x8 hx8 h => ?_
      refine anM (at_ix rfl hx8) ?_
      refine exM (impl_Token.e x8) (at_get rfl hx8) ?_
      refine bindG h fun y9 hy10 h => ?_
      refine exM ([(.agg (y9.e.map .d))], []) ?_ ?_
      · exact spec_l4Fail.ev hy10
      exact retE (enc := spec_l4Name.enc) h rfl
    · refine goS ?_
      refine bindG h ?_
      rintro ⟨y11, y12⟩ hy13 h
      refine exM ([(.agg (y11.e.map .d)), (.agg (y12.e.map .d))], []) ?_ ?_
      · exact spec_l4Take.ev hy13
      refine goS ?_
      refine ⟨[[42, 43], [41], [41], [42, 999999, 5, 43, 999999, 5], []], [[], [999999, 5], [999999, 5], [], []], by kernel_rfl, ?_⟩
      exact retE (enc := spec_l4Name.enc) h rfl
def spec_l4Form.enc (r : Int × Int × ByteArray) : Res := ([(.d (.p (.int .i64 r.1))), (.d (.p (.int .i64 r.2.1))), (.d (.p (.string r.2.2)))], [])
def spec_l4Form.f  (K : Nat) (a0 : ByteArray) : Option (Int × Int × ByteArray) := if (a0.toList == (⟨#[102, 117, 110]⟩ : ByteArray).toList) = true then (some (3, 0, (⟨#[110, 101]⟩ : ByteArray))) else (if (a0.toList == (⟨#[97, 112, 112]⟩ : ByteArray).toList) = true then (some (4, 0, (⟨#[101, 101]⟩ : ByteArray))) else (if (a0.toList == (⟨#[108, 101, 116]⟩ : ByteArray).toList) = true then (some (5, 0, (⟨#[110, 101, 101]⟩ : ByteArray))) else (if (a0.toList == (⟨#[114, 101, 99]⟩ : ByteArray).toList) = true then (some (6, 0, (⟨#[110, 110, 101, 101]⟩ : ByteArray))) else (if (a0.toList == (⟨#[105, 102]⟩ : ByteArray).toList) = true then (some (7, 0, (⟨#[101, 101, 101]⟩ : ByteArray))) else (if (a0.toList == (⟨#[97, 100, 100]⟩ : ByteArray).toList) = true then (some (8, 0, (⟨#[101, 101]⟩ : ByteArray))) else (if (a0.toList == (⟨#[115, 117, 98]⟩ : ByteArray).toList) = true then (some (8, 1, (⟨#[101, 101]⟩ : ByteArray))) else (if (a0.toList == (⟨#[108, 101, 115, 115]⟩ : ByteArray).toList) = true then (some (8, 2, (⟨#[101, 101]⟩ : ByteArray))) else (if (a0.toList == (⟨#[115, 97, 109, 101]⟩ : ByteArray).toList) = true then (some (8, 3, (⟨#[101, 101]⟩ : ByteArray))) else (if (a0.toList == (⟨#[112, 97, 105, 114]⟩ : ByteArray).toList) = true then (some (9, 0, (⟨#[101, 101]⟩ : ByteArray))) else (if (a0.toList == (⟨#[102, 115, 116]⟩ : ByteArray).toList) = true then (some (10, 0, (⟨#[101]⟩ : ByteArray))) else (if (a0.toList == (⟨#[115, 110, 100]⟩ : ByteArray).toList) = true then (some (11, 0, (⟨#[101]⟩ : ByteArray))) else (if (a0.toList == (⟨#[99, 111, 110, 115]⟩ : ByteArray).toList) = true then (some (13, 0, (⟨#[101, 101]⟩ : ByteArray))) else (if (a0.toList == (⟨#[109, 97, 116, 99, 104]⟩ : ByteArray).toList) = true then (some (14, 0, (⟨#[101, 101, 110, 110, 101]⟩ : ByteArray))) else (if (a0.toList == (⟨#[114, 101, 102]⟩ : ByteArray).toList) = true then (some (15, 0, (⟨#[101]⟩ : ByteArray))) else (if (a0.toList == (⟨#[103, 101, 116]⟩ : ByteArray).toList) = true then (some (16, 0, (⟨#[101]⟩ : ByteArray))) else (if (a0.toList == (⟨#[115, 101, 116]⟩ : ByteArray).toList) = true then (some (17, 0, (⟨#[101, 101]⟩ : ByteArray))) else (if (a0.toList == (⟨#[114, 97, 105, 115, 101]⟩ : ByteArray).toList) = true then (some (18, 0, (⟨#[101]⟩ : ByteArray))) else (if (a0.toList == (⟨#[116, 114, 121]⟩ : ByteArray).toList) = true then (some (19, 0, (⟨#[101, 110, 101]⟩ : ByteArray))) else (some (0, 0, (⟨#[]⟩ : ByteArray)))))))))))))))))))))
theorem spec_l4Form.ev   {K : Nat} {a0 : ByteArray} {r : Int × Int × ByteArray} (h : spec_l4Form.f  K a0 = some r) : E 87 [(.d (.p (.string a0)))] = some ([(.d (.p (.int .i64 r.1))), (.d (.p (.int .i64 r.2.1))), (.d (.p (.string r.2.2)))], []) := by
  refine Ev_intro (fn := Tryd.f87) rfl (by kernel_rfl) (c := _) rfl ⟨rfl, by simp⟩ rfl (evP_spec _ ?_)
  unfold spec_l4Form.f at h
  refine goS ?_
  try ((with_reducible apply cdX); exact rfl)
  refine ifB h (fun c1 h => ?_) (fun c1 h => ?_)
  · exact retE (enc := spec_l4Form.enc) h rfl
  · try ((with_reducible apply cdX); exact rfl)
    refine ifB h (fun c2 h => ?_) (fun c2 h => ?_)
    · exact retE (enc := spec_l4Form.enc) h rfl
    · try ((with_reducible apply cdX); exact rfl)
      refine ifB h (fun c3 h => ?_) (fun c3 h => ?_)
      · exact retE (enc := spec_l4Form.enc) h rfl
      · try ((with_reducible apply cdX); exact rfl)
        refine ifB h (fun c4 h => ?_) (fun c4 h => ?_)
        · exact retE (enc := spec_l4Form.enc) h rfl
        · try ((with_reducible apply cdX); exact rfl)
          refine ifB h (fun c5 h => ?_) (fun c5 h => ?_)
          · exact retE (enc := spec_l4Form.enc) h rfl
          · try ((with_reducible apply cdX); exact rfl)
            refine ifB h (fun c6 h => ?_) (fun c6 h => ?_)
            · exact retE (enc := spec_l4Form.enc) h rfl
            · try ((with_reducible apply cdX); exact rfl)
              refine ifB h (fun c7 h => ?_) (fun c7 h => ?_)
              · exact retE (enc := spec_l4Form.enc) h rfl
              · try ((with_reducible apply cdX); exact rfl)
                refine ifB h (fun c8 h => ?_) (fun c8 h => ?_)
                · exact retE (enc := spec_l4Form.enc) h rfl
                · try ((with_reducible apply cdX); exact rfl)
                  refine ifB h (fun c9 h => ?_) (fun c9 h => ?_)
                  · exact retE (enc := spec_l4Form.enc) h rfl
                  · try ((with_reducible apply cdX); exact rfl)
                    refine ifB h (fun c10 h => ?_) (fun c10 h => ?_)
                    · exact retE (enc := spec_l4Form.enc) h rfl
                    · try ((with_reducible apply cdX); exact rfl)
                      refine ifB h (fun c11 h => ?_) (fun c11 h => ?_)
                      · exact retE (enc := spec_l4Form.enc) h rfl
                      · try ((with_reducible apply cdX); exact rfl)
                        refine ifB h (fun c12 h => ?_) (fun c12 h => ?_)
                        · exact retE (enc := spec_l4Form.enc) h rfl
                        · try ((with_reducible apply cdX); exact rfl)
                          refine ifB h (fun c13 h => ?_) (fun c13 h => ?_)
                          · exact retE (enc := spec_l4Form.enc) h rfl
                          · try ((with_reducible apply cdX); exact rfl)
                            refine ifB h (fun c14 h => ?_) (fun c14 h => ?_)
                            · exact retE (enc := spec_l4Form.enc) h rfl
                            · try ((with_reducible apply cdX); exact rfl)
                              refine ifB h (fun c15 h => ?_) (fun c15 h => ?_)
                              · exact retE (enc := spec_l4Form.enc) h rfl
                              · try ((with_reducible apply cdX); exact rfl)
                                refine ifB h (fun c16 h => ?_) (fun c16 h => ?_)
                                · exact retE (enc := spec_l4Form.enc) h rfl
                                · try ((with_reducible apply cdX); exact rfl)
                                  refine ifB h (fun c17 h => ?_) (fun c17 h => ?_)
                                  · exact retE (enc := spec_l4Form.enc) h rfl
                                  · try ((with_reducible apply cdX); exact rfl)
                                    refine ifB h (fun c18 h => ?_) (fun c18 h => ?_)
                                    · exact retE (enc := spec_l4Form.enc) h rfl
                                    · try ((with_reducible apply cdX); exact rfl)
                                      refine ifB h (fun c19 h => ?_) (fun c19 h => ?_)
                                      · exact retE (enc := spec_l4Form.enc) h rfl
                                      · exact retE (enc := spec_l4Form.enc) h rfl
end Go.Proofs.YtfkanjgfjejgiaaDoorE
