/- For Go functions of the program: their Lean functions, and that Go answers as these do. Written by a program of the session (evprint.py). -/
import Derived.Test.YtfkanjgfjejgiaaDoorZEvPr
import Derived.Test.YtfkanjgfjejgiaaDoorEvG
set_option linter.unusedSimpArgs false
set_option linter.unusedVariables false
namespace Go.Proofs.YtfkanjgfjejgiaaDoorE
open Go.Ev
set_option linter.unusedVariables false
set_option maxRecDepth 100000
set_option maxHeartbeats 4000000
def md : Md := fun f => match f with
  | 8 => ([], [true])
  | 11 => ([], [true])
  | 35 => ([], [true])
  | 39 => ([], [true, false])
  | 43 => ([], [true])
  | 62 => ([], [true])
  | 69 => ([], [true])
  | 95 => ([], [true])
  | 96 => ([], [true])
  | 117 => ([], [true])
  | 118 => ([], [true])
  | 119 => ([], [true])
  | 124 => ([], [true])
  | 126 => ([], [true])
  | 127 => ([], [true])
  | 128 => ([], [true])
  | 129 => ([], [true])
  | 1000003 => ([1050043], [])
  | _ => ([], [])
noncomputable abbrev E := Go.Ev.Ev Tryd.prog tb md prim
theorem impl_Dec.ev {n : Int} {r : ByteArray} (h : impl_Dec.f n = some r) : E 70 [(.d (.p (.int .i64 n)))] = some ([(.d (.p (.string r)))], []) := Ev_prim rfl (by show (impl_Dec.f n).map _ = _; rw [h]; rfl)
theorem strings_Join.ev {a : List ByteArray} {b r : ByteArray} (h : strings_Join.f a b = some r) : E 73 [(.d (.l true 1 (a.map eS))), (.d (.p (.string b)))] = some ([(.d (.p (.string r)))], []) := Ev_prim rfl (by show (strsOf (a.map eS)).bind _ = _; rw [strsOf_map, Option.bind_some, h]; rfl)
theorem strings_Split.ev {a b : ByteArray} {r : List ByteArray} (h : strings_Split.f a b = some r) : E 103 [(.d (.p (.string a))), (.d (.p (.string b)))] = some ([(.own true 1 (r.map eS))], []) := Ev_prim rfl (by show (strings_Split.f a b).map _ = _; rw [h]; rfl)
structure impl_Node where
  Kind : Int
  A : Int
  B : Int
  C : Int
  N : Int
  Name : ByteArray
  Other : ByteArray
def impl_Node.e (x : impl_Node) : List D := [(.p (.int .i64 x.Kind)), (.p (.int .i64 x.A)), (.p (.int .i64 x.B)), (.p (.int .i64 x.C)), (.p (.int .i64 x.N)), (.p (.string x.Name)), (.p (.string x.Other))]
structure spec_l1Cur where
  b : List Int
  i : Int
  h_ : Int
def spec_l1Cur.e (x : spec_l1Cur) : List D := [(.l true 1 (x.b.map eY)), (.p (.int .i64 x.i)), (.p (.int .i64 x.h_))]
theorem eqT35 : flatEq Tryd.prog 35 = some [0, 0, 0, 0, 0, 1, 1] := by kernel_rfl
def laws_big.enc (r : Bool) : Res := ([(.d (.p (.bool r)))], [])
def laws_big.f  (K : Nat) (a0 : List Int) : Option (Bool) := some (decide ((a0.length : Int) > 1048576))
theorem laws_big.ev   {K : Nat} {a0 : List Int} {r : Bool} (h : laws_big.f  K a0 = some r) : E 7 [(.d (.l true 1 (a0.map eY)))] = some ([(.d (.p (.bool r)))], []) := by
  refine Ev_intro (fn := Tryd.f7) rfl (by kernel_rfl) (c := _) rfl ⟨rfl, by simp⟩ rfl (evP_spec _ ?_)
  unfold laws_big.f at h
  refine eqM ((a0.length : Int) : Int) (mLen rfl) ?_
  exact retE (enc := laws_big.enc) h rfl
def spec_l1New.enc (r : spec_l1Cur) : Res := ([(.ptr [(.d (.l true 1 (r.b.map eY))), (.d (.p (.int .i64 r.i))), (.d (.p (.int .i64 r.h_)))])], [])
def spec_l1New.l0 (a0 : List Int) (K : Nat) : Nat → Int → Int → Option (Int)
  | 0, _, _ => none
  | k + 1, v2, v3 => jn (fun (v5 : Bool) => if v5 = true then ((at_ a0 v3).bind fun x8 => (spec_l1New.l0 a0 K k (w64 (((BitVec.ofInt 64 (w64 ((w64 ((w64 (v2 * 131)) + (w64 x8))) + 7))) &&& (BitVec.ofInt 64 1073741823)).toNat : Int)) (w64 (v3 + 1)))) else (some v2)) (fun j => if v3 < (a0.length : Int) then (j (decide (v3 < 4000))) else (j false))
def spec_l1New.f  (K : Nat) (a0 : List Int) : Option (spec_l1Cur) := jn (fun (v1 : Int) => some (⟨a0, 0, v1⟩ : spec_l1Cur)) (fun j => (spec_l1New.l0 a0 K K (w64 (10101 + (a0.length : Int))) 0).bind fun (v4 : Int) => j v4)
theorem spec_l1New.ev   {K : Nat} {a0 : List Int} {r : spec_l1Cur} (h : spec_l1New.f  K a0 = some r) : E 34 [(.d (.l true 1 (a0.map eY)))] = some ([(.ptr [(.d (.l true 1 (r.b.map eY))), (.d (.p (.int .i64 r.i))), (.d (.p (.int .i64 r.h_)))])], []) := by
  refine Ev_intro (fn := Tryd.f34) rfl (by kernel_rfl) (c := _) rfl ⟨rfl, by simp⟩ rfl (evP_spec _ ?_)
  unfold spec_l1New.f at h
  refine eqM ((a0.length : Int) : Int) (mLen rfl) ?_
  refine seqJ h 32 (fun x => [(0, (.d (.l true 1 (a0.map eY)))), (3, (.d (.p (.int .i64 x))))]) (fun x => []) (fun J h => ?_) ?_
  · refine loopX (α := Int × Int) (a := ((w64 (10101 + (a0.length : Int))), 0)) 32 (fun x => [(0, (.d (.l true 1 (a0.map eY)))), (3, (.d (.p (.int .i64 x.1)))), (4, (.d (.p (.int .i64 x.2))))]) (fun x => []) (fun k x => spec_l1New.l0 a0 K k x.1 x.2) 0 (fun x => [(0, (.d (.l true 1 (a0.map eY)))), (3, (.d (.p (.int .i64 x))))]) (fun x => []) h (fun _ => rfl) ?_ ⟨rfl, ⟨rfl, rfl, rfl, trivial⟩, trivial⟩ ?_
    · rintro k ⟨v2, v3⟩ r h e hp
      replace h : spec_l1New.l0 a0 K (k + 1) v2 v3 = some r := h
      unfold spec_l1New.l0 at h
      refine goS ?_
      refine seqJ h 32 (fun x => [(0, (.d (.l true 1 (a0.map eY)))), (3, (.d (.p (.int .i64 v2)))), (4, (.d (.p (.int .i64 v3)))), (15, (.d (.p (.bool x))))]) (fun x => []) (fun J h => ?_) ?_
      · refine eqM ((a0.length : Int) : Int) (mLen rfl) ?_
        refine iteF h (fun c6 h => ?_) (fun c6 h => ?_)
        · refine Ask.T rfl ?_
          refine Ask.T rfl ?_
          exact ⟨(decide (v3 < 4000)), h, ⟨rfl, ⟨rfl, rfl, rfl, rfl, trivial⟩, trivial⟩⟩
        · refine Ask.F rfl ?_
          refine Ask.F rfl ?_
          exact ⟨false, h, ⟨rfl, ⟨rfl, rfl, rfl, rfl, trivial⟩, trivial⟩⟩
      · rintro v5 h e hp
        try ((with_reducible apply cdX); exact rfl)
        refine ifB h (fun c7 h => ?_) (fun c7 h => ?_)
        · refine goS ?_
          refine bindG h fun x8 hx8 h => ?_
          refine anM (at_ix rfl hx8) ?_
          refine exM (eY x8) (at_get rfl hx8) ?_
          exact ⟨((w64 (((BitVec.ofInt 64 (w64 ((w64 ((w64 (v2 * 131)) + (w64 x8))) + 7))) &&& (BitVec.ofInt 64 1073741823)).toNat : Int)), (w64 (v3 + 1))), h, ⟨rfl, ⟨rfl, rfl, rfl, trivial⟩, trivial⟩⟩
        · refine exQ h ?_
          exact ⟨rfl, ⟨rfl, rfl, trivial⟩, trivial⟩
    · rintro v4 S' h ⟨qn, ⟨qa0, qa1, _⟩, ⟨_⟩⟩
      exact ⟨v4, h, ⟨qn, ⟨qa0, qa1, trivial⟩, trivial⟩⟩
  · rintro v1 h e hp
    exact retE (enc := spec_l1New.enc) h rfl
def spec_l1Byte.enc (r : Int × spec_l1Cur) : Res := ([(.d (.p (.int .i64 r.1)))], [(.ptr [(.d (.l true 1 (r.2.b.map eY))), (.d (.p (.int .i64 r.2.i))), (.d (.p (.int .i64 r.2.h_)))])])
def spec_l1Byte.f  (K : Nat) (a0 : spec_l1Cur) : Option (Int × spec_l1Cur) := jn (fun (v1, v2) => some (v1, v2)) (fun j => if a0.i < (a0.b.length : Int) then ((at_ a0.b a0.i).bind fun x4 => (j ((w64 (((BitVec.ofInt 64 (w64 ((w64 (((BitVec.ofInt 64 (w64 (((BitVec.ofInt 64 (Int.fdiv (w64 ((w64 (a0.h_ * 6364136223846793005)) + 1442695040888963407)) 8589934592)) ^^^ (BitVec.ofInt 64 (Int.fdiv (w64 ((w64 (a0.h_ * 6364136223846793005)) + 1442695040888963407)) 35184372088832))).toNat : Int))) &&& (BitVec.ofInt 64 255)).toNat : Int)) + (w64 x4)))) &&& (BitVec.ofInt 64 255)).toNat : Int)), (⟨a0.b, (w64 (a0.i + 1)), (w64 ((w64 (a0.h_ * 6364136223846793005)) + 1442695040888963407))⟩ : spec_l1Cur)))) else (j ((w64 (((BitVec.ofInt 64 (w64 (((BitVec.ofInt 64 (Int.fdiv (w64 ((w64 (a0.h_ * 6364136223846793005)) + 1442695040888963407)) 8589934592)) ^^^ (BitVec.ofInt 64 (Int.fdiv (w64 ((w64 (a0.h_ * 6364136223846793005)) + 1442695040888963407)) 35184372088832))).toNat : Int))) &&& (BitVec.ofInt 64 255)).toNat : Int)), (⟨a0.b, a0.i, (w64 ((w64 (a0.h_ * 6364136223846793005)) + 1442695040888963407))⟩ : spec_l1Cur))))
theorem spec_l1Byte.ev   {K : Nat} {a0 : spec_l1Cur} {r : Int × spec_l1Cur} (h : spec_l1Byte.f  K a0 = some r) : E 97 [(.ptr [(.d (.l true 1 (a0.b.map eY))), (.d (.p (.int .i64 a0.i))), (.d (.p (.int .i64 a0.h_)))])] = some ([(.d (.p (.int .i64 r.1)))], [(.ptr [(.d (.l true 1 (r.2.b.map eY))), (.d (.p (.int .i64 r.2.i))), (.d (.p (.int .i64 r.2.h_)))])]) := by
  refine Ev_intro (fn := Tryd.f97) rfl (by kernel_rfl) (c := _) rfl ⟨rfl, by simp⟩ rfl (evP_spec _ ?_)
  unfold spec_l1Byte.f at h
  refine goS ?_
  refine ⟨[[], [19, 20, 21], [19, 20, 21], [19, 20, 21], [], [], [14, 15, 16], [14, 15, 16], [14, 15, 16], [], [], [], []], [], by kernel_rfl, ?_⟩
  refine seqJ h 58 (fun x => [(3, (.d (.p (.int .i64 x.1))))]) (fun x => [(58, 0, 1, (some (.box [(.d (.l true 1 (x.2.b.map eY))), (.d (.p (.int .i64 x.2.i))), (.d (.p (.int .i64 x.2.h_)))])))]) (fun J h => ?_) ?_
  · refine ⟨[[], [30, 31, 32, 33], [30, 31, 32, 33], [30, 31, 32, 33], [], [26, 27, 28], [26, 27, 28], [26, 27, 28], [26, 27, 28], []], [], by kernel_rfl, ?_⟩
    refine eqM ((a0.b.length : Int) : Int) (mLen rfl) ?_
    refine iteF h (fun c3 h => ?_) (fun c3 h => ?_)
    · refine ⟨[[], [], [41, 42, 43], [41, 42, 43], [41, 42, 43], [], [37, 38, 39], [37, 38, 39], [37, 38, 39], [], [], [], [], [], []], [], by kernel_rfl, ?_⟩
      refine bindG h fun x4 hx4 h => ?_
      refine anM (at_ix rfl hx4) ?_
      refine exM (eY x4) (at_get rfl hx4) ?_
      exact ⟨((w64 (((BitVec.ofInt 64 (w64 ((w64 (((BitVec.ofInt 64 (w64 (((BitVec.ofInt 64 (Int.fdiv (w64 ((w64 (a0.h_ * 6364136223846793005)) + 1442695040888963407)) 8589934592)) ^^^ (BitVec.ofInt 64 (Int.fdiv (w64 ((w64 (a0.h_ * 6364136223846793005)) + 1442695040888963407)) 35184372088832))).toNat : Int))) &&& (BitVec.ofInt 64 255)).toNat : Int)) + (w64 x4)))) &&& (BitVec.ofInt 64 255)).toNat : Int)), (⟨a0.b, (w64 (a0.i + 1)), (w64 ((w64 (a0.h_ * 6364136223846793005)) + 1442695040888963407))⟩ : spec_l1Cur)), h, ⟨rfl, ⟨rfl, trivial⟩, ⟨rfl, trivial⟩⟩⟩
    · exact ⟨((w64 (((BitVec.ofInt 64 (w64 (((BitVec.ofInt 64 (Int.fdiv (w64 ((w64 (a0.h_ * 6364136223846793005)) + 1442695040888963407)) 8589934592)) ^^^ (BitVec.ofInt 64 (Int.fdiv (w64 ((w64 (a0.h_ * 6364136223846793005)) + 1442695040888963407)) 35184372088832))).toNat : Int))) &&& (BitVec.ofInt 64 255)).toNat : Int)), (⟨a0.b, a0.i, (w64 ((w64 (a0.h_ * 6364136223846793005)) + 1442695040888963407))⟩ : spec_l1Cur)), h, ⟨rfl, ⟨rfl, trivial⟩, ⟨rfl, trivial⟩⟩⟩
  · rintro ⟨v1, v2⟩ h e hp
    exact retE (enc := spec_l1Byte.enc) h rfl
def spec_l1Below.enc (r : Int × spec_l1Cur) : Res := ([(.d (.p (.int .i64 r.1)))], [(.ptr [(.d (.l true 1 (r.2.b.map eY))), (.d (.p (.int .i64 r.2.i))), (.d (.p (.int .i64 r.2.h_)))])])
def spec_l1Below.f  (K : Nat) (a0 : spec_l1Cur) (a1 : Int) : Option (Int × spec_l1Cur) := if a1 ≤ 0 then (some (0, a0)) else (if a1 ≤ 256 then ((spec_l1Byte.f K a0).bind fun (y3, y4) => (gd (a1 ≠ 0) (some ((Int.tmod y3 a1), y4)))) else ((spec_l1Byte.f K a0).bind fun (y6, y7) => ((spec_l1Byte.f K y7).bind fun (y9, y10) => ((spec_l1Byte.f K y10).bind fun (y12, y13) => ((spec_l1Byte.f K y13).bind fun (y15, y16) => (gd (a1 ≠ 0) (some ((Int.tmod (w64 ((w64 ((w64 ((w64 (y6 * 16777216)) + (w64 (y9 * 65536)))) + (w64 (y12 * 256)))) + y15)) a1), y16))))))))
theorem spec_l1Below.ev   {K : Nat} {a0 : spec_l1Cur} {a1 : Int} {r : Int × spec_l1Cur} (h : spec_l1Below.f  K a0 a1 = some r) : E 63 [(.ptr [(.d (.l true 1 (a0.b.map eY))), (.d (.p (.int .i64 a0.i))), (.d (.p (.int .i64 a0.h_)))]), (.d (.p (.int .i64 a1)))] = some ([(.d (.p (.int .i64 r.1)))], [(.ptr [(.d (.l true 1 (r.2.b.map eY))), (.d (.p (.int .i64 r.2.i))), (.d (.p (.int .i64 r.2.h_)))])]) := by
  refine Ev_intro (fn := Tryd.f63) rfl (by kernel_rfl) (c := _) rfl ⟨rfl, by simp⟩ rfl (evP_spec _ ?_)
  unfold spec_l1Below.f at h
  refine goS ?_
  try ((with_reducible apply cdX); exact rfl)
  refine iteF h (fun c1 h => ?_) (fun c1 h => ?_)
  · exact retE (enc := spec_l1Below.enc) h rfl
  · refine goS ?_
    try ((with_reducible apply cdX); exact rfl)
    refine iteF h (fun c2 h => ?_) (fun c2 h => ?_)
    · refine bindG h ?_
      rintro ⟨y3, y4⟩ hy5 h
      refine exM ([(.d (.p (.int .i64 y3)))], [(.ptr [(.d (.l true 1 (y4.b.map eY))), (.d (.p (.int .i64 y4.i))), (.d (.p (.int .i64 y4.h_)))])]) ?_ ?_
      · exact spec_l1Byte.ev hy5
      refine gdG h fun hc h => ?_
      refine anM hc ?_
      exact retE (enc := spec_l1Below.enc) h rfl
    · refine bindG h ?_
      rintro ⟨y6, y7⟩ hy8 h
      refine exM ([(.d (.p (.int .i64 y6)))], [(.ptr [(.d (.l true 1 (y7.b.map eY))), (.d (.p (.int .i64 y7.i))), (.d (.p (.int .i64 y7.h_)))])]) ?_ ?_
      · exact spec_l1Byte.ev hy8
      refine bindG h ?_
      rintro ⟨y9, y10⟩ hy11 h
      refine exM ([(.d (.p (.int .i64 y9)))], [(.ptr [(.d (.l true 1 (y10.b.map eY))), (.d (.p (.int .i64 y10.i))), (.d (.p (.int .i64 y10.h_)))])]) ?_ ?_
      · exact spec_l1Byte.ev hy11
      refine bindG h ?_
      rintro ⟨y12, y13⟩ hy14 h
      refine exM ([(.d (.p (.int .i64 y12)))], [(.ptr [(.d (.l true 1 (y13.b.map eY))), (.d (.p (.int .i64 y13.i))), (.d (.p (.int .i64 y13.h_)))])]) ?_ ?_
      · exact spec_l1Byte.ev hy14
      refine bindG h ?_
      rintro ⟨y15, y16⟩ hy17 h
      refine exM ([(.d (.p (.int .i64 y15)))], [(.ptr [(.d (.l true 1 (y16.b.map eY))), (.d (.p (.int .i64 y16.i))), (.d (.p (.int .i64 y16.h_)))])]) ?_ ?_
      · exact spec_l1Byte.ev hy17
      refine gdG h fun hc h => ?_
      refine anM hc ?_
      exact retE (enc := spec_l1Below.enc) h rfl
def spec_l1Once.enc (r : Bool × spec_l1Cur) : Res := ([(.d (.p (.bool r.1)))], [(.ptr [(.d (.l true 1 (r.2.b.map eY))), (.d (.p (.int .i64 r.2.i))), (.d (.p (.int .i64 r.2.h_)))])])
def spec_l1Once.f  (K : Nat) (a0 : spec_l1Cur) (a1 : Int) : Option (Bool × spec_l1Cur) := (spec_l1Below.f K a0 a1).bind fun (y1, y2) => (some ((decide (y1 = 0)), y2))
theorem spec_l1Once.ev   {K : Nat} {a0 : spec_l1Cur} {a1 : Int} {r : Bool × spec_l1Cur} (h : spec_l1Once.f  K a0 a1 = some r) : E 94 [(.ptr [(.d (.l true 1 (a0.b.map eY))), (.d (.p (.int .i64 a0.i))), (.d (.p (.int .i64 a0.h_)))]), (.d (.p (.int .i64 a1)))] = some ([(.d (.p (.bool r.1)))], [(.ptr [(.d (.l true 1 (r.2.b.map eY))), (.d (.p (.int .i64 r.2.i))), (.d (.p (.int .i64 r.2.h_)))])]) := by
  refine Ev_intro (fn := Tryd.f94) rfl (by kernel_rfl) (c := _) rfl ⟨rfl, by simp⟩ rfl (evP_spec _ ?_)
  unfold spec_l1Once.f at h
  refine bindG h ?_
  rintro ⟨y1, y2⟩ hy3 h
  refine exM ([(.d (.p (.int .i64 y1)))], [(.ptr [(.d (.l true 1 (y2.b.map eY))), (.d (.p (.int .i64 y2.i))), (.d (.p (.int .i64 y2.h_)))])]) ?_ ?_
  · exact spec_l1Below.ev hy3
  exact retE (enc := spec_l1Once.enc) h rfl
def spec_l1PickInt.enc (r : Int × spec_l1Cur) : Res := ([(.d (.p (.int .i64 r.1)))], [(.ptr [(.d (.l true 1 (r.2.b.map eY))), (.d (.p (.int .i64 r.2.i))), (.d (.p (.int .i64 r.2.h_)))])])
def spec_l1PickInt.f  (K : Nat) (a0 : spec_l1Cur) (a1 : List Int) : Option (Int × spec_l1Cur) := (spec_l1Below.f K a0 (a1.length : Int)).bind fun (y1, y2) => ((at_ a1 y1).bind fun x4 => (some (x4, y2)))
theorem spec_l1PickInt.ev   {K : Nat} {a0 : spec_l1Cur} {a1 : List Int} {r : Int × spec_l1Cur} (h : spec_l1PickInt.f  K a0 a1 = some r) : E 64 [(.ptr [(.d (.l true 1 (a0.b.map eY))), (.d (.p (.int .i64 a0.i))), (.d (.p (.int .i64 a0.h_)))]), (.d (.l true 1 (a1.map eI)))] = some ([(.d (.p (.int .i64 r.1)))], [(.ptr [(.d (.l true 1 (r.2.b.map eY))), (.d (.p (.int .i64 r.2.i))), (.d (.p (.int .i64 r.2.h_)))])]) := by
  refine Ev_intro (fn := Tryd.f64) rfl (by kernel_rfl) (c := _) rfl ⟨rfl, by simp⟩ rfl (evP_spec _ ?_)
  unfold spec_l1PickInt.f at h
  refine eqM ((a1.length : Int) : Int) (mLen rfl) ?_
  refine bindG h ?_
  rintro ⟨y1, y2⟩ hy3 h
  refine exM ([(.d (.p (.int .i64 y1)))], [(.ptr [(.d (.l true 1 (y2.b.map eY))), (.d (.p (.int .i64 y2.i))), (.d (.p (.int .i64 y2.h_)))])]) ?_ ?_
  · exact spec_l1Below.ev hy3
  refine bindG h fun x4 hx4 h => ?_
  refine anM (at_ix rfl hx4) ?_
  refine exM (eI x4) (at_get rfl hx4) ?_
  exact retE (enc := spec_l1PickInt.enc) h rfl
def spec_l3Names.enc (r : Int) : Res := ([(.d (.p (.int .i64 r)))], [])
def spec_l3Names.f  (K : Nat) (a0 : Int) : Option (Int) := jn (fun (v1 : Bool) => if v1 = true then (some 1) else (jn (fun (v6 : Bool) => if v6 = true then (some 2) else (some 0)) (fun j => if a0 = 6 then (j true) else (j (decide (a0 = 14)))))) (fun j => if a0 = 1 then (j true) else (if a0 = 3 then (j true) else (if a0 = 5 then (j true) else (j (decide (a0 = 19))))))
theorem spec_l3Names.ev   {K : Nat} {a0 : Int} {r : Int} (h : spec_l3Names.f  K a0 = some r) : E 100 [(.d (.p (.int .i64 a0)))] = some ([(.d (.p (.int .i64 r)))], []) := by
  refine Ev_intro (fn := Tryd.f100) rfl (by kernel_rfl) (c := _) rfl ⟨rfl, by simp⟩ rfl (evP_spec _ ?_)
  unfold spec_l3Names.f at h
  refine goS ?_
  refine seqJ h 12 (fun x => [(3, (.d (.p (.int .i64 a0)))), (4, (.d (.p (.bool x))))]) (fun x => []) (fun J h => ?_) ?_
  · try ((with_reducible apply cdX); exact rfl)
    refine iteF h (fun c2 h => ?_) (fun c2 h => ?_)
    · exact ⟨true, h, ⟨rfl, ⟨rfl, rfl, trivial⟩, trivial⟩⟩
    · try ((with_reducible apply cdX); exact rfl)
      refine iteF h (fun c3 h => ?_) (fun c3 h => ?_)
      · exact ⟨true, h, ⟨rfl, ⟨rfl, rfl, trivial⟩, trivial⟩⟩
      · try ((with_reducible apply cdX); exact rfl)
        refine iteF h (fun c4 h => ?_) (fun c4 h => ?_)
        · exact ⟨true, h, ⟨rfl, ⟨rfl, rfl, trivial⟩, trivial⟩⟩
        · exact ⟨(decide (a0 = 19)), h, ⟨rfl, ⟨rfl, rfl, trivial⟩, trivial⟩⟩
  · rintro v1 h e hp
    try ((with_reducible apply cdX); exact rfl)
    refine ifB h (fun c5 h => ?_) (fun c5 h => ?_)
    · exact retE (enc := spec_l3Names.enc) h rfl
    · refine seqJ h 12 (fun x => [(9, (.d (.p (.bool x))))]) (fun x => []) (fun J h => ?_) ?_
      · try ((with_reducible apply cdX); exact rfl)
        refine iteF h (fun c7 h => ?_) (fun c7 h => ?_)
        · exact ⟨true, h, ⟨rfl, ⟨rfl, trivial⟩, trivial⟩⟩
        · exact ⟨(decide (a0 = 14)), h, ⟨rfl, ⟨rfl, trivial⟩, trivial⟩⟩
      · rintro v6 h e hp
        try ((with_reducible apply cdX); exact rfl)
        refine ifB h (fun c8 h => ?_) (fun c8 h => ?_)
        · exact retE (enc := spec_l3Names.enc) h rfl
        · exact retE (enc := spec_l3Names.enc) h rfl
def spec_l1Pick.enc (r : ByteArray × spec_l1Cur) : Res := ([(.d (.p (.string r.1)))], [(.ptr [(.d (.l true 1 (r.2.b.map eY))), (.d (.p (.int .i64 r.2.i))), (.d (.p (.int .i64 r.2.h_)))])])
def spec_l1Pick.f  (K : Nat) (a0 : spec_l1Cur) (a1 : List ByteArray) : Option (ByteArray × spec_l1Cur) := (spec_l1Below.f K a0 (a1.length : Int)).bind fun (y1, y2) => ((at_ a1 y1).bind fun x4 => (some (x4, y2)))
theorem spec_l1Pick.ev   {K : Nat} {a0 : spec_l1Cur} {a1 : List ByteArray} {r : ByteArray × spec_l1Cur} (h : spec_l1Pick.f  K a0 a1 = some r) : E 65 [(.ptr [(.d (.l true 1 (a0.b.map eY))), (.d (.p (.int .i64 a0.i))), (.d (.p (.int .i64 a0.h_)))]), (.d (.l true 1 (a1.map eS)))] = some ([(.d (.p (.string r.1)))], [(.ptr [(.d (.l true 1 (r.2.b.map eY))), (.d (.p (.int .i64 r.2.i))), (.d (.p (.int .i64 r.2.h_)))])]) := by
  refine Ev_intro (fn := Tryd.f65) rfl (by kernel_rfl) (c := _) rfl ⟨rfl, by simp⟩ rfl (evP_spec _ ?_)
  unfold spec_l1Pick.f at h
  refine eqM ((a1.length : Int) : Int) (mLen rfl) ?_
  refine bindG h ?_
  rintro ⟨y1, y2⟩ hy3 h
  refine exM ([(.d (.p (.int .i64 y1)))], [(.ptr [(.d (.l true 1 (y2.b.map eY))), (.d (.p (.int .i64 y2.i))), (.d (.p (.int .i64 y2.h_)))])]) ?_ ?_
  · exact spec_l1Below.ev hy3
  refine bindG h fun x4 hx4 h => ?_
  refine anM (at_ix rfl hx4) ?_
  refine exM (eS x4) (at_get rfl hx4) ?_
  exact retE (enc := spec_l1Pick.enc) h rfl
def spec_Arity.enc (r : Int) : Res := ([(.d (.p (.int .i64 r)))], [])
def spec_Arity.f  (K : Nat) (a0 : Int) : Option (Int) := jn (fun (v1 : Bool) => if v1 = true then (some 1) else (jn (fun (v8 : Bool) => if v8 = true then (some 2) else (jn (fun (v17 : Bool) => if v17 = true then (some 3) else (some 0)) (fun j => if a0 = 7 then (j true) else (j (decide (a0 = 14)))))) (fun j => if a0 = 4 then (j true) else (if a0 = 5 then (j true) else (if a0 = 6 then (j true) else (if a0 = 8 then (j true) else (if a0 = 9 then (j true) else (if a0 = 13 then (j true) else (if a0 = 17 then (j true) else (j (decide (a0 = 19)))))))))))) (fun j => if a0 = 3 then (j true) else (if a0 = 10 then (j true) else (if a0 = 11 then (j true) else (if a0 = 15 then (j true) else (if a0 = 16 then (j true) else (j (decide (a0 = 18))))))))
theorem spec_Arity.ev   {K : Nat} {a0 : Int} {r : Int} (h : spec_Arity.f  K a0 = some r) : E 99 [(.d (.p (.int .i64 a0)))] = some ([(.d (.p (.int .i64 r)))], []) := by
  refine Ev_intro (fn := Tryd.f99) rfl (by kernel_rfl) (c := _) rfl ⟨rfl, by simp⟩ rfl (evP_spec _ ?_)
  unfold spec_Arity.f at h
  refine goS ?_
  refine seqJ h 23 (fun x => [(3, (.d (.p (.int .i64 a0)))), (4, (.d (.p (.bool x))))]) (fun x => []) (fun J h => ?_) ?_
  · try ((with_reducible apply cdX); exact rfl)
    refine iteF h (fun c2 h => ?_) (fun c2 h => ?_)
    · exact ⟨true, h, ⟨rfl, ⟨rfl, rfl, trivial⟩, trivial⟩⟩
    · try ((with_reducible apply cdX); exact rfl)
      refine iteF h (fun c3 h => ?_) (fun c3 h => ?_)
      · exact ⟨true, h, ⟨rfl, ⟨rfl, rfl, trivial⟩, trivial⟩⟩
      · try ((with_reducible apply cdX); exact rfl)
        refine iteF h (fun c4 h => ?_) (fun c4 h => ?_)
        · exact ⟨true, h, ⟨rfl, ⟨rfl, rfl, trivial⟩, trivial⟩⟩
        · try ((with_reducible apply cdX); exact rfl)
          refine iteF h (fun c5 h => ?_) (fun c5 h => ?_)
          · exact ⟨true, h, ⟨rfl, ⟨rfl, rfl, trivial⟩, trivial⟩⟩
          · try ((with_reducible apply cdX); exact rfl)
            refine iteF h (fun c6 h => ?_) (fun c6 h => ?_)
            · exact ⟨true, h, ⟨rfl, ⟨rfl, rfl, trivial⟩, trivial⟩⟩
            · exact ⟨(decide (a0 = 18)), h, ⟨rfl, ⟨rfl, rfl, trivial⟩, trivial⟩⟩
  · rintro v1 h e hp
    try ((with_reducible apply cdX); exact rfl)
    refine ifB h (fun c7 h => ?_) (fun c7 h => ?_)
    · exact retE (enc := spec_Arity.enc) h rfl
    · refine seqJ h 23 (fun x => [(3, (.d (.p (.int .i64 a0)))), (11, (.d (.p (.bool x))))]) (fun x => []) (fun J h => ?_) ?_
      · try ((with_reducible apply cdX); exact rfl)
        refine iteF h (fun c9 h => ?_) (fun c9 h => ?_)
        · exact ⟨true, h, ⟨rfl, ⟨rfl, rfl, trivial⟩, trivial⟩⟩
        · try ((with_reducible apply cdX); exact rfl)
          refine iteF h (fun c10 h => ?_) (fun c10 h => ?_)
          · exact ⟨true, h, ⟨rfl, ⟨rfl, rfl, trivial⟩, trivial⟩⟩
          · try ((with_reducible apply cdX); exact rfl)
            refine iteF h (fun c11 h => ?_) (fun c11 h => ?_)
            · exact ⟨true, h, ⟨rfl, ⟨rfl, rfl, trivial⟩, trivial⟩⟩
            · try ((with_reducible apply cdX); exact rfl)
              refine iteF h (fun c12 h => ?_) (fun c12 h => ?_)
              · exact ⟨true, h, ⟨rfl, ⟨rfl, rfl, trivial⟩, trivial⟩⟩
              · try ((with_reducible apply cdX); exact rfl)
                refine iteF h (fun c13 h => ?_) (fun c13 h => ?_)
                · exact ⟨true, h, ⟨rfl, ⟨rfl, rfl, trivial⟩, trivial⟩⟩
                · try ((with_reducible apply cdX); exact rfl)
                  refine iteF h (fun c14 h => ?_) (fun c14 h => ?_)
                  · exact ⟨true, h, ⟨rfl, ⟨rfl, rfl, trivial⟩, trivial⟩⟩
                  · try ((with_reducible apply cdX); exact rfl)
                    refine iteF h (fun c15 h => ?_) (fun c15 h => ?_)
                    · exact ⟨true, h, ⟨rfl, ⟨rfl, rfl, trivial⟩, trivial⟩⟩
                    · exact ⟨(decide (a0 = 19)), h, ⟨rfl, ⟨rfl, rfl, trivial⟩, trivial⟩⟩
      · rintro v8 h e hp
        try ((with_reducible apply cdX); exact rfl)
        refine ifB h (fun c16 h => ?_) (fun c16 h => ?_)
        · exact retE (enc := spec_Arity.enc) h rfl
        · refine seqJ h 23 (fun x => [(20, (.d (.p (.bool x))))]) (fun x => []) (fun J h => ?_) ?_
          · try ((with_reducible apply cdX); exact rfl)
            refine iteF h (fun c18 h => ?_) (fun c18 h => ?_)
            · exact ⟨true, h, ⟨rfl, ⟨rfl, trivial⟩, trivial⟩⟩
            · exact ⟨(decide (a0 = 14)), h, ⟨rfl, ⟨rfl, trivial⟩, trivial⟩⟩
          · rintro v17 h e hp
            try ((with_reducible apply cdX); exact rfl)
            refine ifB h (fun c19 h => ?_) (fun c19 h => ?_)
            · exact retE (enc := spec_Arity.enc) h rfl
            · exact retE (enc := spec_Arity.enc) h rfl
def spec_l3Shift.enc (r : List impl_Node) : Res := ([(.own true 7 (r.map impl_Node.e))], [])
def spec_l3Shift.l0 (a0 : List impl_Node) (a1 : Int) (K : Nat) : Nat → Int → (List impl_Node) → Option (List impl_Node)
  | 0, _, _ => none
  | k + 1, v2, v3 => if v2 < (a0.length : Int) then ((at_ a0 v2).bind fun x6 => ((spec_Arity.f K x6.Kind).bind fun y7 => (jn (fun (v9 : impl_Node) => jn (fun (v11 : impl_Node) => jn (fun (v13 : impl_Node) => gd ((v3.length + 1) * 72 ≤ 140737488355328) (spec_l3Shift.l0 a0 a1 K k (w64 (v2 + 1)) (v3 ++ ([v13] : List impl_Node)))) (fun j => if y7 > 2 then (j (⟨v11.Kind, v11.A, v11.B, (w64 (v11.C + a1)), v11.N, v11.Name, v11.Other⟩ : impl_Node)) else (j v11))) (fun j => if y7 > 1 then (j (⟨v9.Kind, v9.A, (w64 (v9.B + a1)), v9.C, v9.N, v9.Name, v9.Other⟩ : impl_Node)) else (j v9))) (fun j => if y7 > 0 then (j (⟨x6.Kind, (w64 (x6.A + a1)), x6.B, x6.C, x6.N, x6.Name, x6.Other⟩ : impl_Node)) else (j x6))))) else (some v3)
def spec_l3Shift.f  (K : Nat) (a0 : List impl_Node) (a1 : Int) : Option (List impl_Node) := jn (fun (v1 : List impl_Node) => some v1) (fun j => (spec_l3Shift.l0 a0 a1 K K 0 ([] : List impl_Node)).bind fun (v4 : List impl_Node) => j v4)
theorem spec_l3Shift.ev   {K : Nat} {a0 : List impl_Node} {a1 : Int} {r : List impl_Node} (h : spec_l3Shift.f  K a0 a1 = some r) : E 126 [(.d (.l true 7 (a0.map impl_Node.e))), (.d (.p (.int .i64 a1)))] = some ([(.own true 7 (r.map impl_Node.e))], []) := by
  refine Ev_intro (fn := Tryd.f126) rfl (by kernel_rfl) (c := _) rfl ⟨rfl, by simp⟩ rfl (evP_spec _ ?_)
  unfold spec_l3Shift.f at h
  refine eqM (([] : List impl_Node).map impl_Node.e) rfl ?_
  refine seqJ h 49 (fun x => [(5, (.own 5 1 2))]) (fun x => [(5, 1, 2, (some (.row true true 7 (x.map impl_Node.e))))]) (fun J h => ?_) ?_
  · refine loopX (α := Int × List impl_Node) (a := (0, ([] : List impl_Node))) 49 (fun x => [(0, (.d (.l true 7 (a0.map impl_Node.e)))), (1, (.d (.p (.int .i64 a1)))), (5, (.own 5 1 2)), (6, (.d (.p (.int .i64 x.1))))]) (fun x => [(5, 1, 2, (some (.row true true 7 (x.2.map impl_Node.e))))]) (fun k x => spec_l3Shift.l0 a0 a1 K k x.1 x.2) 0 (fun x => [(5, (.own 5 1 2))]) (fun x => [(5, 1, 2, (some (.row true true 7 (x.map impl_Node.e))))]) h (fun _ => rfl) ?_ ⟨rfl, ⟨rfl, rfl, rfl, rfl, trivial⟩, ⟨rfl, trivial⟩⟩ ?_
    · rintro k ⟨v2, v3⟩ r h e hp
      replace h : spec_l3Shift.l0 a0 a1 K (k + 1) v2 v3 = some r := h
      unfold spec_l3Shift.l0 at h
      refine goS ?_
      refine eqM ((a0.length : Int) : Int) (mLen rfl) ?_
      refine iteF h (fun c5 h => ?_) (fun c5 h => ?_)
      · refine goS ?_
        refine goS ?_
        refine bindG h fun x6 hx6 h => ?_
        refine anM (at_ix rfl hx6) ?_
        refine exM (impl_Node.e x6) (at_get rfl hx6) ?_
        refine bindG h fun y7 hy8 h => ?_
        refine exM ([(.d (.p (.int .i64 y7)))], []) ?_ ?_
        · exact spec_Arity.ev hy8
        refine seqJ h 49 (fun x => [(0, (.d (.l true 7 (a0.map impl_Node.e)))), (1, (.d (.p (.int .i64 a1)))), (5, (.own 5 1 2)), (6, (.d (.p (.int .i64 v2)))), (7, (.ptr 7 0 2 0)), (8, (.d (.p (.int .i64 y7))))]) (fun x => [(5, 1, 2, (some (.row true true 7 (v3.map impl_Node.e)))), (7, 0, 2, (some (.box [(.d (.p (.int .i64 x.Kind))), (.d (.p (.int .i64 x.A))), (.d (.p (.int .i64 x.B))), (.d (.p (.int .i64 x.C))), (.d (.p (.int .i64 x.N))), (.d (.p (.string x.Name))), (.d (.p (.string x.Other)))])))]) (fun J h => ?_) ?_
        · try ((with_reducible apply cdX); exact rfl)
          refine iteF h (fun c10 h => ?_) (fun c10 h => ?_)
          · exact ⟨(⟨x6.Kind, (w64 (x6.A + a1)), x6.B, x6.C, x6.N, x6.Name, x6.Other⟩ : impl_Node), h, ⟨rfl, ⟨rfl, rfl, rfl, rfl, rfl, rfl, trivial⟩, ⟨rfl, rfl, trivial⟩⟩⟩
          · exact ⟨x6, h, ⟨rfl, ⟨rfl, rfl, rfl, rfl, rfl, rfl, trivial⟩, ⟨rfl, rfl, trivial⟩⟩⟩
        · rintro v9 h e hp
          refine seqJ h 49 (fun x => [(0, (.d (.l true 7 (a0.map impl_Node.e)))), (1, (.d (.p (.int .i64 a1)))), (5, (.own 5 1 2)), (6, (.d (.p (.int .i64 v2)))), (7, (.ptr 7 0 2 0)), (8, (.d (.p (.int .i64 y7))))]) (fun x => [(5, 1, 2, (some (.row true true 7 (v3.map impl_Node.e)))), (7, 0, 2, (some (.box [(.d (.p (.int .i64 x.Kind))), (.d (.p (.int .i64 x.A))), (.d (.p (.int .i64 x.B))), (.d (.p (.int .i64 x.C))), (.d (.p (.int .i64 x.N))), (.d (.p (.string x.Name))), (.d (.p (.string x.Other)))])))]) (fun J h => ?_) ?_
          · try ((with_reducible apply cdX); exact rfl)
            refine iteF h (fun c12 h => ?_) (fun c12 h => ?_)
            · exact ⟨(⟨v9.Kind, v9.A, (w64 (v9.B + a1)), v9.C, v9.N, v9.Name, v9.Other⟩ : impl_Node), h, ⟨rfl, ⟨rfl, rfl, rfl, rfl, rfl, rfl, trivial⟩, ⟨rfl, rfl, trivial⟩⟩⟩
            · exact ⟨v9, h, ⟨rfl, ⟨rfl, rfl, rfl, rfl, rfl, rfl, trivial⟩, ⟨rfl, rfl, trivial⟩⟩⟩
          · rintro v11 h e hp
            refine seqJ h 49 (fun x => [(0, (.d (.l true 7 (a0.map impl_Node.e)))), (1, (.d (.p (.int .i64 a1)))), (5, (.own 5 1 2)), (6, (.d (.p (.int .i64 v2)))), (7, (.ptr 7 0 2 0))]) (fun x => [(5, 1, 2, (some (.row true true 7 (v3.map impl_Node.e)))), (7, 0, 2, (some (.box [(.d (.p (.int .i64 x.Kind))), (.d (.p (.int .i64 x.A))), (.d (.p (.int .i64 x.B))), (.d (.p (.int .i64 x.C))), (.d (.p (.int .i64 x.N))), (.d (.p (.string x.Name))), (.d (.p (.string x.Other)))])))]) (fun J h => ?_) ?_
            · try ((with_reducible apply cdX); exact rfl)
              refine iteF h (fun c14 h => ?_) (fun c14 h => ?_)
              · exact ⟨(⟨v11.Kind, v11.A, v11.B, (w64 (v11.C + a1)), v11.N, v11.Name, v11.Other⟩ : impl_Node), h, ⟨rfl, ⟨rfl, rfl, rfl, rfl, rfl, trivial⟩, ⟨rfl, rfl, trivial⟩⟩⟩
              · exact ⟨v11, h, ⟨rfl, ⟨rfl, rfl, rfl, rfl, rfl, trivial⟩, ⟨rfl, rfl, trivial⟩⟩⟩
            · rintro v13 h e hp
              refine eqM (([v13] : List impl_Node).map impl_Node.e) rfl ?_
              refine gdG h fun hc h => ?_
              refine anM (apB hc) ?_
              refine eqM ((v3 ++ ([v13] : List impl_Node)).map impl_Node.e) (mApp rfl rfl) ?_
              exact ⟨((w64 (v2 + 1)), (v3 ++ ([v13] : List impl_Node))), h, ⟨rfl, ⟨rfl, rfl, rfl, rfl, trivial⟩, ⟨rfl, trivial⟩⟩⟩
      · refine exQ h ?_
        exact ⟨rfl, ⟨rfl, trivial⟩, ⟨rfl, trivial⟩⟩
    · rintro v4 S' h ⟨qn, ⟨qa0, _⟩, ⟨qb0, _⟩⟩
      exact ⟨v4, h, ⟨qn, ⟨qa0, trivial⟩, ⟨qb0, trivial⟩⟩⟩
  · rintro v1 h e hp
    exact retE (enc := spec_l3Shift.enc) h rfl
def spec_l3Make.enc (r : List impl_Node) : Res := ([(.own true 7 (r.map impl_Node.e))], [])
def spec_l3Make.l0 (a1 : List (List impl_Node)) (K : Nat) : Nat → Int → impl_Node → (List impl_Node) → Option (impl_Node × List impl_Node)
  | 0, _, _, _ => none
  | k + 1, v3, v4, v5 => if v3 < (a1.length : Int) then (jn (fun (v9, v10) => spec_l3Make.l0 a1 K k (w64 (v3 + 1)) v9 v10) (fun j => (at_ a1 v3).bind fun x11 => ((spec_l3Shift.f K x11 (v5.length : Int)).bind fun y12 => (gd ((v5.length + y12.length) * 72 ≤ 140737488355328) (if v3 = 0 then (j ((⟨v4.Kind, (w64 (((v5 ++ y12).length : Int) - 1)), v4.B, v4.C, v4.N, v4.Name, v4.Other⟩ : impl_Node), (v5 ++ y12))) else (if v3 = 1 then (j ((⟨v4.Kind, v4.A, (w64 (((v5 ++ y12).length : Int) - 1)), v4.C, v4.N, v4.Name, v4.Other⟩ : impl_Node), (v5 ++ y12))) else (j ((⟨v4.Kind, v4.A, v4.B, (w64 (((v5 ++ y12).length : Int) - 1)), v4.N, v4.Name, v4.Other⟩ : impl_Node), (v5 ++ y12))))))))) else (some (v4, v5))
def spec_l3Make.f  (K : Nat) (a0 : impl_Node) (a1 : List (List impl_Node)) : Option (List impl_Node) := jn (fun (v1, v2) => gd ((v2.length + 1) * 72 ≤ 140737488355328) (some (v2 ++ ([v1] : List impl_Node)))) (fun j => (spec_l3Make.l0 a1 K K 0 a0 ([] : List impl_Node)).bind fun (v6, v7) => j (v6, v7))
theorem spec_l3Make.ev   {K : Nat} {a0 : impl_Node} {a1 : List (List impl_Node)} {r : List impl_Node} (h : spec_l3Make.f  K a0 a1 = some r) : E 117 [(.agg (a0.e.map .d)), (.d (.l false 1 (a1.map (eL true 7 impl_Node.e))))] = some ([(.own true 7 (r.map impl_Node.e))], []) := by
  refine Ev_intro (fn := Tryd.f117) rfl (by kernel_rfl) (c := _) rfl ⟨rfl, by simp⟩ rfl (evP_spec _ ?_)
  unfold spec_l3Make.f at h
  refine eqM (([] : List impl_Node).map impl_Node.e) rfl ?_
  refine seqJ h 44 (fun x => [(2, (.ptr 2 0 2 0)), (5, (.own 5 1 2))]) (fun x => [(2, 0, 2, (some (.box [(.d (.p (.int .i64 x.1.Kind))), (.d (.p (.int .i64 x.1.A))), (.d (.p (.int .i64 x.1.B))), (.d (.p (.int .i64 x.1.C))), (.d (.p (.int .i64 x.1.N))), (.d (.p (.string x.1.Name))), (.d (.p (.string x.1.Other)))]))), (5, 1, 2, (some (.row true true 7 (x.2.map impl_Node.e))))]) (fun J h => ?_) ?_
  · refine loopX (α := Int × impl_Node × List impl_Node) (a := (0, a0, ([] : List impl_Node))) 44 (fun x => [(1, (.d (.l false 1 (a1.map (eL true 7 impl_Node.e))))), (2, (.ptr 2 0 2 0)), (5, (.own 5 1 2)), (6, (.d (.p (.int .i64 x.1))))]) (fun x => [(2, 0, 2, (some (.box [(.d (.p (.int .i64 x.2.1.Kind))), (.d (.p (.int .i64 x.2.1.A))), (.d (.p (.int .i64 x.2.1.B))), (.d (.p (.int .i64 x.2.1.C))), (.d (.p (.int .i64 x.2.1.N))), (.d (.p (.string x.2.1.Name))), (.d (.p (.string x.2.1.Other)))]))), (5, 1, 2, (some (.row true true 7 (x.2.2.map impl_Node.e))))]) (fun k x => spec_l3Make.l0 a1 K k x.1 x.2.1 x.2.2) 0 (fun x => [(2, (.ptr 2 0 2 0)), (5, (.own 5 1 2))]) (fun x => [(2, 0, 2, (some (.box [(.d (.p (.int .i64 x.1.Kind))), (.d (.p (.int .i64 x.1.A))), (.d (.p (.int .i64 x.1.B))), (.d (.p (.int .i64 x.1.C))), (.d (.p (.int .i64 x.1.N))), (.d (.p (.string x.1.Name))), (.d (.p (.string x.1.Other)))]))), (5, 1, 2, (some (.row true true 7 (x.2.map impl_Node.e))))]) h (fun _ => rfl) ?_ ⟨rfl, ⟨rfl, rfl, rfl, rfl, trivial⟩, ⟨rfl, rfl, trivial⟩⟩ ?_
    · rintro k ⟨v3, v4, v5⟩ r h e hp
      replace h : spec_l3Make.l0 a1 K (k + 1) v3 v4 v5 = some r := h
      unfold spec_l3Make.l0 at h
      refine goS ?_
      refine eqM ((a1.length : Int) : Int) (mLen rfl) ?_
      refine iteF h (fun c8 h => ?_) (fun c8 h => ?_)
      · refine seqJ h 44 (fun x => [(1, (.d (.l false 1 (a1.map (eL true 7 impl_Node.e))))), (2, (.ptr 2 0 2 0)), (5, (.own 5 1 2)), (6, (.d (.p (.int .i64 v3))))]) (fun x => [(2, 0, 2, (some (.box [(.d (.p (.int .i64 x.1.Kind))), (.d (.p (.int .i64 x.1.A))), (.d (.p (.int .i64 x.1.B))), (.d (.p (.int .i64 x.1.C))), (.d (.p (.int .i64 x.1.N))), (.d (.p (.string x.1.Name))), (.d (.p (.string x.1.Other)))]))), (5, 1, 2, (some (.row true true 7 (x.2.map impl_Node.e))))]) (fun J h => ?_) ?_
        · refine bindG h fun x11 hx11 h => ?_
          refine anM (at_ix rfl hx11) ?_
          refine exM ((eL true 7 impl_Node.e) x11) (at_get rfl hx11) ?_
          refine eqM ((v5.length : Int) : Int) (mLen rfl) ?_
          refine bindG h fun y12 hy13 h => ?_
          refine exM ([(.own true 7 (y12.map impl_Node.e))], []) ?_ ?_
          · exact spec_l3Shift.ev hy13
          refine gdG h fun hc h => ?_
          refine anM (apB hc) ?_
          refine eqM ((v5 ++ y12).map impl_Node.e) (mApp rfl rfl) ?_
          refine iteF h (fun c14 h => ?_) (fun c14 h => ?_)
          · refine eqM (((v5 ++ y12).length : Int) : Int) (mLen rfl) ?_
            exact ⟨((⟨v4.Kind, (w64 (((v5 ++ y12).length : Int) - 1)), v4.B, v4.C, v4.N, v4.Name, v4.Other⟩ : impl_Node), (v5 ++ y12)), h, ⟨rfl, ⟨rfl, rfl, rfl, rfl, trivial⟩, ⟨rfl, rfl, trivial⟩⟩⟩
          · try ((with_reducible apply cdX); exact rfl)
            refine iteF h (fun c15 h => ?_) (fun c15 h => ?_)
            · refine eqM (((v5 ++ y12).length : Int) : Int) (mLen rfl) ?_
              exact ⟨((⟨v4.Kind, v4.A, (w64 (((v5 ++ y12).length : Int) - 1)), v4.C, v4.N, v4.Name, v4.Other⟩ : impl_Node), (v5 ++ y12)), h, ⟨rfl, ⟨rfl, rfl, rfl, rfl, trivial⟩, ⟨rfl, rfl, trivial⟩⟩⟩
            · refine eqM (((v5 ++ y12).length : Int) : Int) (mLen rfl) ?_
              exact ⟨((⟨v4.Kind, v4.A, v4.B, (w64 (((v5 ++ y12).length : Int) - 1)), v4.N, v4.Name, v4.Other⟩ : impl_Node), (v5 ++ y12)), h, ⟨rfl, ⟨rfl, rfl, rfl, rfl, trivial⟩, ⟨rfl, rfl, trivial⟩⟩⟩
        · rintro ⟨v9, v10⟩ h e hp
          exact ⟨((w64 (v3 + 1)), v9, v10), h, ⟨rfl, ⟨rfl, rfl, rfl, rfl, trivial⟩, ⟨rfl, rfl, trivial⟩⟩⟩
      · refine exQ h ?_
        exact ⟨rfl, ⟨rfl, rfl, trivial⟩, ⟨rfl, rfl, trivial⟩⟩
    · rintro ⟨v6, v7⟩ S' h ⟨qn, ⟨qa0, qa1, _⟩, ⟨qb0, qb1, _⟩⟩
      exact ⟨(v6, v7), h, ⟨qn, ⟨qa0, qa1, trivial⟩, ⟨qb0, qb1, trivial⟩⟩⟩
  · rintro ⟨v1, v2⟩ h e hp
    refine eqM (([v1] : List impl_Node).map impl_Node.e) rfl ?_
    refine gdG h fun hc h => ?_
    refine anM (apB hc) ?_
    refine eqM ((v2 ++ ([v1] : List impl_Node)).map impl_Node.e) (mApp rfl rfl) ?_
    exact retE (enc := spec_l3Make.enc) h rfl
def spec_l3Loose.enc (r : List impl_Node × spec_l1Cur) : Res := ([(.own true 7 (r.1.map impl_Node.e))], [(.ptr [(.d (.l true 1 (r.2.b.map eY))), (.d (.p (.int .i64 r.2.i))), (.d (.p (.int .i64 r.2.h_)))])])
def spec_l3Loose.l0 (r_spec_l3Loose : spec_l1Cur → Int → Option (List impl_Node × spec_l1Cur)) (a1 : Int) (v4 : Int) (K : Nat) : Nat → Int → spec_l1Cur → (List (List impl_Node)) → Option (List (List impl_Node) × spec_l1Cur)
  | 0, _, _, _ => none
  | k + 1, v40, v41, v42 => (spec_Arity.f K v4).bind fun y45 => (if v40 < y45 then ((spec_l1Below.f K v41 2).bind fun (y48, y49) => ((r_spec_l3Loose y49 (w64 ((w64 (a1 - 1)) - y48))).bind fun (y51, y52) => (gd ((v42.length + 1) * 24 ≤ 140737488355328) (spec_l3Loose.l0 r_spec_l3Loose a1 v4 K k (w64 (v40 + 1)) y52 (v42 ++ ([y51] : List (List impl_Node))))))) else (some (v42, v41)))
def spec_l3Loose.b (r_spec_l3Loose : spec_l1Cur → Int → Option (List impl_Node × spec_l1Cur)) (K : Nat) (a0 : spec_l1Cur) (a1 : Int) : Option (List impl_Node × spec_l1Cur) := (spec_l1Below.f K a0 19).bind fun (y1, y2) => (jn (fun (v4, v5) => jn (fun (v10, v11) => jn (fun (v18, v19) => jn (fun (v26, v27) => jn (fun (v32, v33) => jn (fun (v38, v39) => if (v38.length : Int) = 0 then (some (([v33] : List impl_Node), v39)) else (if (v38.length : Int) = 1 then ((at_ v38 0).bind fun x56 => ((spec_l3Make.f K v33 ([x56] : List (List impl_Node))).bind fun y57 => (some (y57, v39)))) else (if (v38.length : Int) = 2 then ((at_ v38 0).bind fun x60 => ((at_ v38 1).bind fun x61 => ((spec_l3Make.f K v33 ([x60, x61] : List (List impl_Node))).bind fun y62 => (some (y62, v39))))) else ((at_ v38 0).bind fun x64 => ((at_ v38 1).bind fun x65 => ((at_ v38 2).bind fun x66 => ((spec_l3Make.f K v33 ([x64, x65, x66] : List (List impl_Node))).bind fun y67 => (some (y67, v39))))))))) (fun j => (spec_l3Loose.l0 r_spec_l3Loose a1 v4 K K 0 v32 ([] : List (List impl_Node))).bind fun (v43, v44) => j (v43, v44))) (fun j => if v4 = 8 then ((spec_l1Below.f K v26 4).bind fun (y35, y36) => (j (y36, (⟨v27.Kind, v27.A, v27.B, v27.C, y35, v27.Name, v27.Other⟩ : impl_Node)))) else (j (v26, v27)))) (fun j => if v4 = 2 then ((spec_l1Below.f K v18 9).bind fun (y29, y30) => (j (y30, (⟨v19.Kind, v19.A, v19.B, v19.C, y29, v19.Name, v19.Other⟩ : impl_Node)))) else (j (v18, v19)))) (fun j => (spec_l3Names.f K v4).bind fun y20 => (if y20 > 1 then ((spec_l1Pick.f K v10 ([(⟨#[120]⟩ : ByteArray), (⟨#[121]⟩ : ByteArray), (⟨#[122]⟩ : ByteArray)] : List ByteArray)).bind fun (y23, y24) => (j (y24, (⟨v11.Kind, v11.A, v11.B, v11.C, v11.N, v11.Name, y23⟩ : impl_Node)))) else (j (v10, v11))))) (fun j => (spec_l3Names.f K v4).bind fun y12 => (if y12 > 0 then ((spec_l1Pick.f K v5 ([(⟨#[120]⟩ : ByteArray), (⟨#[121]⟩ : ByteArray), (⟨#[102]⟩ : ByteArray)] : List ByteArray)).bind fun (y15, y16) => (j (y16, (⟨v4, 0, 0, 0, 0, y15, (⟨#[]⟩ : ByteArray)⟩ : impl_Node)))) else (j (v5, (⟨v4, 0, 0, 0, 0, (⟨#[]⟩ : ByteArray), (⟨#[]⟩ : ByteArray)⟩ : impl_Node)))))) (fun j => if a1 ≤ 0 then ((spec_l1PickInt.f K y2 ([1, 2, 12, 1] : List Int)).bind fun (y7, y8) => (j (y7, y8))) else (j ((w64 (1 + y1)), y2))))
theorem spec_l3Loose.b_ev {r_spec_l3Loose : spec_l1Cur → Int → Option (List impl_Node × spec_l1Cur)} (hr_spec_l3Loose : ∀ {a0 : spec_l1Cur} {a1 : Int} {r : List impl_Node × spec_l1Cur}, r_spec_l3Loose a0 a1 = some r → E 95 [(.ptr [(.d (.l true 1 (a0.b.map eY))), (.d (.p (.int .i64 a0.i))), (.d (.p (.int .i64 a0.h_)))]), (.d (.p (.int .i64 a1)))] = some ([(.own true 7 (r.1.map impl_Node.e))], [(.ptr [(.d (.l true 1 (r.2.b.map eY))), (.d (.p (.int .i64 r.2.i))), (.d (.p (.int .i64 r.2.h_)))])])) {K : Nat} {a0 : spec_l1Cur} {a1 : Int} {r : List impl_Node × spec_l1Cur} (h : spec_l3Loose.b r_spec_l3Loose K a0 a1 = some r) : E 95 [(.ptr [(.d (.l true 1 (a0.b.map eY))), (.d (.p (.int .i64 a0.i))), (.d (.p (.int .i64 a0.h_)))]), (.d (.p (.int .i64 a1)))] = some ([(.own true 7 (r.1.map impl_Node.e))], [(.ptr [(.d (.l true 1 (r.2.b.map eY))), (.d (.p (.int .i64 r.2.i))), (.d (.p (.int .i64 r.2.h_)))])]) := by
  refine Ev_intro (fn := Tryd.f95) rfl (by kernel_rfl) (c := _) rfl ⟨rfl, by simp⟩ rfl (evP_spec _ ?_)
  unfold spec_l3Loose.b at h
  refine bindG h ?_
  rintro ⟨y1, y2⟩ hy3 h
  refine exM ([(.d (.p (.int .i64 y1)))], [(.ptr [(.d (.l true 1 (y2.b.map eY))), (.d (.p (.int .i64 y2.i))), (.d (.p (.int .i64 y2.h_)))])]) ?_ ?_
  · exact spec_l1Below.ev hy3
  refine seqJ h 97 (fun x => [(0, (.ptr 97 0 1 0)), (1, (.d (.p (.int .i64 a1)))), (5, (.d (.p (.int .i64 x.1))))]) (fun x => [(97, 0, 1, (some (.box [(.d (.l true 1 (x.2.b.map eY))), (.d (.p (.int .i64 x.2.i))), (.d (.p (.int .i64 x.2.h_)))])))]) (fun J h => ?_) ?_
  · try ((with_reducible apply cdX); exact rfl)
    refine iteF h (fun c6 h => ?_) (fun c6 h => ?_)
    · refine eqM (([1, 2, 12, 1] : List Int).map eI) rfl ?_
      refine bindG h ?_
      rintro ⟨y7, y8⟩ hy9 h
      refine exM ([(.d (.p (.int .i64 y7)))], [(.ptr [(.d (.l true 1 (y8.b.map eY))), (.d (.p (.int .i64 y8.i))), (.d (.p (.int .i64 y8.h_)))])]) ?_ ?_
      · exact spec_l1PickInt.ev hy9
      exact ⟨(y7, y8), h, ⟨rfl, ⟨rfl, rfl, rfl, trivial⟩, ⟨rfl, trivial⟩⟩⟩
    · exact ⟨((w64 (1 + y1)), y2), h, ⟨rfl, ⟨rfl, rfl, rfl, trivial⟩, ⟨rfl, trivial⟩⟩⟩
  · rintro ⟨v4, v5⟩ h e hp
    refine goS ?_
    refine seqJ h 97 (fun x => [(0, (.ptr 97 0 1 0)), (1, (.d (.p (.int .i64 a1)))), (5, (.d (.p (.int .i64 v4)))), (6, (.ptr 6 0 2 0))]) (fun x => [(6, 0, 2, (some (.box [(.d (.p (.int .i64 x.2.Kind))), (.d (.p (.int .i64 x.2.A))), (.d (.p (.int .i64 x.2.B))), (.d (.p (.int .i64 x.2.C))), (.d (.p (.int .i64 x.2.N))), (.d (.p (.string x.2.Name))), (.d (.p (.string x.2.Other)))]))), (97, 0, 1, (some (.box [(.d (.l true 1 (x.1.b.map eY))), (.d (.p (.int .i64 x.1.i))), (.d (.p (.int .i64 x.1.h_)))])))]) (fun J h => ?_) ?_
    · refine bindG h fun y12 hy13 h => ?_
      refine exM ([(.d (.p (.int .i64 y12)))], []) ?_ ?_
      · exact spec_l3Names.ev hy13
      refine iteF h (fun c14 h => ?_) (fun c14 h => ?_)
      · refine eqM (([(⟨#[120]⟩ : ByteArray), (⟨#[121]⟩ : ByteArray), (⟨#[102]⟩ : ByteArray)] : List ByteArray).map eS) rfl ?_
        refine bindG h ?_
        rintro ⟨y15, y16⟩ hy17 h
        refine exM ([(.d (.p (.string y15)))], [(.ptr [(.d (.l true 1 (y16.b.map eY))), (.d (.p (.int .i64 y16.i))), (.d (.p (.int .i64 y16.h_)))])]) ?_ ?_
        · exact spec_l1Pick.ev hy17
        exact ⟨(y16, (⟨v4, 0, 0, 0, 0, y15, (⟨#[]⟩ : ByteArray)⟩ : impl_Node)), h, ⟨rfl, ⟨rfl, rfl, rfl, rfl, trivial⟩, ⟨rfl, rfl, trivial⟩⟩⟩
      · exact ⟨(v5, (⟨v4, 0, 0, 0, 0, (⟨#[]⟩ : ByteArray), (⟨#[]⟩ : ByteArray)⟩ : impl_Node)), h, ⟨rfl, ⟨rfl, rfl, rfl, rfl, trivial⟩, ⟨rfl, rfl, trivial⟩⟩⟩
    · rintro ⟨v10, v11⟩ h e hp
      refine seqJ h 97 (fun x => [(0, (.ptr 97 0 1 0)), (1, (.d (.p (.int .i64 a1)))), (5, (.d (.p (.int .i64 v4)))), (6, (.ptr 6 0 2 0))]) (fun x => [(6, 0, 2, (some (.box [(.d (.p (.int .i64 x.2.Kind))), (.d (.p (.int .i64 x.2.A))), (.d (.p (.int .i64 x.2.B))), (.d (.p (.int .i64 x.2.C))), (.d (.p (.int .i64 x.2.N))), (.d (.p (.string x.2.Name))), (.d (.p (.string x.2.Other)))]))), (97, 0, 1, (some (.box [(.d (.l true 1 (x.1.b.map eY))), (.d (.p (.int .i64 x.1.i))), (.d (.p (.int .i64 x.1.h_)))])))]) (fun J h => ?_) ?_
      · refine bindG h fun y20 hy21 h => ?_
        refine exM ([(.d (.p (.int .i64 y20)))], []) ?_ ?_
        · exact spec_l3Names.ev hy21
        refine iteF h (fun c22 h => ?_) (fun c22 h => ?_)
        · refine eqM (([(⟨#[120]⟩ : ByteArray), (⟨#[121]⟩ : ByteArray), (⟨#[122]⟩ : ByteArray)] : List ByteArray).map eS) rfl ?_
          refine bindG h ?_
          rintro ⟨y23, y24⟩ hy25 h
          refine exM ([(.d (.p (.string y23)))], [(.ptr [(.d (.l true 1 (y24.b.map eY))), (.d (.p (.int .i64 y24.i))), (.d (.p (.int .i64 y24.h_)))])]) ?_ ?_
          · exact spec_l1Pick.ev hy25
          exact ⟨(y24, (⟨v11.Kind, v11.A, v11.B, v11.C, v11.N, v11.Name, y23⟩ : impl_Node)), h, ⟨rfl, ⟨rfl, rfl, rfl, rfl, trivial⟩, ⟨rfl, rfl, trivial⟩⟩⟩
        · exact ⟨(v10, v11), h, ⟨rfl, ⟨rfl, rfl, rfl, rfl, trivial⟩, ⟨rfl, rfl, trivial⟩⟩⟩
      · rintro ⟨v18, v19⟩ h e hp
        refine seqJ h 97 (fun x => [(0, (.ptr 97 0 1 0)), (1, (.d (.p (.int .i64 a1)))), (5, (.d (.p (.int .i64 v4)))), (6, (.ptr 6 0 2 0))]) (fun x => [(6, 0, 2, (some (.box [(.d (.p (.int .i64 x.2.Kind))), (.d (.p (.int .i64 x.2.A))), (.d (.p (.int .i64 x.2.B))), (.d (.p (.int .i64 x.2.C))), (.d (.p (.int .i64 x.2.N))), (.d (.p (.string x.2.Name))), (.d (.p (.string x.2.Other)))]))), (97, 0, 1, (some (.box [(.d (.l true 1 (x.1.b.map eY))), (.d (.p (.int .i64 x.1.i))), (.d (.p (.int .i64 x.1.h_)))])))]) (fun J h => ?_) ?_
        · try ((with_reducible apply cdX); exact rfl)
          refine iteF h (fun c28 h => ?_) (fun c28 h => ?_)
          · refine bindG h ?_
            rintro ⟨y29, y30⟩ hy31 h
            refine exM ([(.d (.p (.int .i64 y29)))], [(.ptr [(.d (.l true 1 (y30.b.map eY))), (.d (.p (.int .i64 y30.i))), (.d (.p (.int .i64 y30.h_)))])]) ?_ ?_
            · exact spec_l1Below.ev hy31
            exact ⟨(y30, (⟨v19.Kind, v19.A, v19.B, v19.C, y29, v19.Name, v19.Other⟩ : impl_Node)), h, ⟨rfl, ⟨rfl, rfl, rfl, rfl, trivial⟩, ⟨rfl, rfl, trivial⟩⟩⟩
          · exact ⟨(v18, v19), h, ⟨rfl, ⟨rfl, rfl, rfl, rfl, trivial⟩, ⟨rfl, rfl, trivial⟩⟩⟩
        · rintro ⟨v26, v27⟩ h e hp
          refine seqJ h 97 (fun x => [(0, (.ptr 97 0 1 0)), (1, (.d (.p (.int .i64 a1)))), (5, (.d (.p (.int .i64 v4)))), (6, (.ptr 6 0 2 0))]) (fun x => [(6, 0, 2, (some (.box [(.d (.p (.int .i64 x.2.Kind))), (.d (.p (.int .i64 x.2.A))), (.d (.p (.int .i64 x.2.B))), (.d (.p (.int .i64 x.2.C))), (.d (.p (.int .i64 x.2.N))), (.d (.p (.string x.2.Name))), (.d (.p (.string x.2.Other)))]))), (97, 0, 1, (some (.box [(.d (.l true 1 (x.1.b.map eY))), (.d (.p (.int .i64 x.1.i))), (.d (.p (.int .i64 x.1.h_)))])))]) (fun J h => ?_) ?_
          · try ((with_reducible apply cdX); exact rfl)
            refine iteF h (fun c34 h => ?_) (fun c34 h => ?_)
            · refine bindG h ?_
              rintro ⟨y35, y36⟩ hy37 h
              refine exM ([(.d (.p (.int .i64 y35)))], [(.ptr [(.d (.l true 1 (y36.b.map eY))), (.d (.p (.int .i64 y36.i))), (.d (.p (.int .i64 y36.h_)))])]) ?_ ?_
              · exact spec_l1Below.ev hy37
              exact ⟨(y36, (⟨v27.Kind, v27.A, v27.B, v27.C, y35, v27.Name, v27.Other⟩ : impl_Node)), h, ⟨rfl, ⟨rfl, rfl, rfl, rfl, trivial⟩, ⟨rfl, rfl, trivial⟩⟩⟩
            · exact ⟨(v26, v27), h, ⟨rfl, ⟨rfl, rfl, rfl, rfl, trivial⟩, ⟨rfl, rfl, trivial⟩⟩⟩
          · rintro ⟨v32, v33⟩ h e hp
            refine eqM (([] : List (List impl_Node)).map (eL true 7 impl_Node.e)) rfl ?_
            refine seqJ h 97 (fun x => [(6, (.ptr 6 0 2 0)), (7, (.own 7 1 2))]) (fun x => [(6, 0, 2, (some (.box [(.d (.p (.int .i64 v33.Kind))), (.d (.p (.int .i64 v33.A))), (.d (.p (.int .i64 v33.B))), (.d (.p (.int .i64 v33.C))), (.d (.p (.int .i64 v33.N))), (.d (.p (.string v33.Name))), (.d (.p (.string v33.Other)))]))), (7, 1, 2, (some (.row true false 1 (x.1.map (eL true 7 impl_Node.e))))), (97, 0, 1, (some (.box [(.d (.l true 1 (x.2.b.map eY))), (.d (.p (.int .i64 x.2.i))), (.d (.p (.int .i64 x.2.h_)))])))]) (fun J h => ?_) ?_
            · refine loopX (α := Int × spec_l1Cur × List (List impl_Node)) (a := (0, v32, ([] : List (List impl_Node)))) 97 (fun x => [(0, (.ptr 97 0 1 0)), (1, (.d (.p (.int .i64 a1)))), (5, (.d (.p (.int .i64 v4)))), (6, (.ptr 6 0 2 0)), (7, (.own 7 1 2)), (8, (.d (.p (.int .i64 x.1))))]) (fun x => [(6, 0, 2, (some (.box [(.d (.p (.int .i64 v33.Kind))), (.d (.p (.int .i64 v33.A))), (.d (.p (.int .i64 v33.B))), (.d (.p (.int .i64 v33.C))), (.d (.p (.int .i64 v33.N))), (.d (.p (.string v33.Name))), (.d (.p (.string v33.Other)))]))), (7, 1, 2, (some (.row true false 1 (x.2.2.map (eL true 7 impl_Node.e))))), (97, 0, 1, (some (.box [(.d (.l true 1 (x.2.1.b.map eY))), (.d (.p (.int .i64 x.2.1.i))), (.d (.p (.int .i64 x.2.1.h_)))])))]) (fun k x => spec_l3Loose.l0 r_spec_l3Loose a1 v4 K k x.1 x.2.1 x.2.2) 0 (fun x => [(6, (.ptr 6 0 2 0)), (7, (.own 7 1 2))]) (fun x => [(6, 0, 2, (some (.box [(.d (.p (.int .i64 v33.Kind))), (.d (.p (.int .i64 v33.A))), (.d (.p (.int .i64 v33.B))), (.d (.p (.int .i64 v33.C))), (.d (.p (.int .i64 v33.N))), (.d (.p (.string v33.Name))), (.d (.p (.string v33.Other)))]))), (7, 1, 2, (some (.row true false 1 (x.1.map (eL true 7 impl_Node.e))))), (97, 0, 1, (some (.box [(.d (.l true 1 (x.2.b.map eY))), (.d (.p (.int .i64 x.2.i))), (.d (.p (.int .i64 x.2.h_)))])))]) h (fun _ => rfl) ?_ ⟨rfl, ⟨rfl, rfl, rfl, rfl, rfl, rfl, trivial⟩, ⟨rfl, rfl, rfl, trivial⟩⟩ ?_
              · rintro k ⟨v40, v41, v42⟩ r h e hp
                replace h : spec_l3Loose.l0 r_spec_l3Loose a1 v4 K (k + 1) v40 v41 v42 = some r := h
                unfold spec_l3Loose.l0 at h
                refine goS ?_
                refine bindG h fun y45 hy46 h => ?_
                refine exM ([(.d (.p (.int .i64 y45)))], []) ?_ ?_
                · exact spec_Arity.ev hy46
                refine iteF h (fun c47 h => ?_) (fun c47 h => ?_)
                · refine goS ?_
                  refine bindG h ?_
                  rintro ⟨y48, y49⟩ hy50 h
                  refine exM ([(.d (.p (.int .i64 y48)))], [(.ptr [(.d (.l true 1 (y49.b.map eY))), (.d (.p (.int .i64 y49.i))), (.d (.p (.int .i64 y49.h_)))])]) ?_ ?_
                  · exact spec_l1Below.ev hy50
                  refine bindG h ?_
                  rintro ⟨y51, y52⟩ hy53 h
                  refine exM ([(.own true 7 (y51.map impl_Node.e))], [(.ptr [(.d (.l true 1 (y52.b.map eY))), (.d (.p (.int .i64 y52.i))), (.d (.p (.int .i64 y52.h_)))])]) ?_ ?_
                  · exact hr_spec_l3Loose hy53
                  refine eqM (([y51] : List (List impl_Node)).map (eL true 7 impl_Node.e)) rfl ?_
                  refine gdG h fun hc h => ?_
                  refine anM (apB hc) ?_
                  refine eqM ((v42 ++ ([y51] : List (List impl_Node))).map (eL true 7 impl_Node.e)) (mApp rfl rfl) ?_
                  exact ⟨((w64 (v40 + 1)), y52, (v42 ++ ([y51] : List (List impl_Node)))), h, ⟨rfl, ⟨rfl, rfl, rfl, rfl, rfl, rfl, trivial⟩, ⟨rfl, rfl, rfl, trivial⟩⟩⟩
                · refine exQ h ?_
                  exact ⟨rfl, ⟨rfl, rfl, trivial⟩, ⟨rfl, rfl, rfl, trivial⟩⟩
              · rintro ⟨v43, v44⟩ S' h ⟨qn, ⟨qa0, qa1, _⟩, ⟨qb0, qb1, qb2, _⟩⟩
                exact ⟨(v43, v44), h, ⟨qn, ⟨qa0, qa1, trivial⟩, ⟨qb0, qb1, qb2, trivial⟩⟩⟩
            · rintro ⟨v38, v39⟩ h e hp
              refine goS ?_
              refine eqM ((v38.length : Int) : Int) (mLen rfl) ?_
              refine iteF h (fun c54 h => ?_) (fun c54 h => ?_)
              · refine eqM (([v33] : List impl_Node).map impl_Node.e) rfl ?_
                exact retE (enc := spec_l3Loose.enc) h rfl
              · try ((with_reducible apply cdX); exact rfl)
                refine iteF h (fun c55 h => ?_) (fun c55 h => ?_)
                · refine ⟨[[70, 71, 72], [], [68], [68], [68], [], []], [], by kernel_rfl, ?_⟩
                  refine bindG h fun x56 hx56 h => ?_
                  refine anM (at_ix rfl hx56) ?_
                  refine exM ((eL true 7 impl_Node.e) x56) (at_get rfl hx56) ?_
                  refine eqM (([x56] : List (List impl_Node)).map (eL true 7 impl_Node.e)) rfl ?_
                  refine bindG h fun y57 hy58 h => ?_
                  refine exM ([(.own true 7 (y57.map impl_Node.e))], []) ?_ ?_
                  · exact spec_l3Make.ev hy58
                  exact retE (enc := spec_l3Loose.enc) h rfl
                · try ((with_reducible apply cdX); exact rfl)
                  refine iteF h (fun c59 h => ?_) (fun c59 h => ?_)
                  · refine ⟨[[78, 79, 81, 82, 83], [], [76, 81, 82], [76, 81, 82], [], [76, 78, 79], [76, 78, 79], [76], [], []], [], by kernel_rfl, ?_⟩
                    refine bindG h fun x60 hx60 h => ?_
                    refine anM (at_ix rfl hx60) ?_
                    refine exM ((eL true 7 impl_Node.e) x60) (at_get rfl hx60) ?_
                    refine bindG h fun x61 hx61 h => ?_
                    refine anM (at_ix rfl hx61) ?_
                    refine exM ((eL true 7 impl_Node.e) x61) (at_get rfl hx61) ?_
                    refine eqM (([x60, x61] : List (List impl_Node)).map (eL true 7 impl_Node.e)) rfl ?_
                    refine bindG h fun y62 hy63 h => ?_
                    refine exM ([(.own true 7 (y62.map impl_Node.e))], []) ?_ ?_
                    · exact spec_l3Make.ev hy63
                    exact retE (enc := spec_l3Loose.enc) h rfl
                  · refine ⟨[[87, 88, 90, 91, 93, 94, 95], [], [85, 90, 91, 93, 94], [85, 90, 91, 93, 94], [], [85, 87, 88, 93, 94], [85, 87, 88, 93, 94], [], [85, 87, 88, 90, 91], [85, 87, 88, 90, 91], [85], [], []], [], by kernel_rfl, ?_⟩
                    refine bindG h fun x64 hx64 h => ?_
                    refine anM (at_ix rfl hx64) ?_
                    refine exM ((eL true 7 impl_Node.e) x64) (at_get rfl hx64) ?_
                    refine bindG h fun x65 hx65 h => ?_
                    refine anM (at_ix rfl hx65) ?_
                    refine exM ((eL true 7 impl_Node.e) x65) (at_get rfl hx65) ?_
                    refine bindG h fun x66 hx66 h => ?_
                    refine anM (at_ix rfl hx66) ?_
                    refine exM ((eL true 7 impl_Node.e) x66) (at_get rfl hx66) ?_
                    refine eqM (([x64, x65, x66] : List (List impl_Node)).map (eL true 7 impl_Node.e)) rfl ?_
                    refine bindG h fun y67 hy68 h => ?_
                    refine exM ([(.own true 7 (y67.map impl_Node.e))], []) ?_ ?_
                    · exact spec_l3Make.ev hy68
                    exact retE (enc := spec_l3Loose.enc) h rfl
def spec_l3Loose.r (K : Nat) : Nat → spec_l1Cur → Int → Option (List impl_Node × spec_l1Cur)
  | 0, _, _ => none
  | d + 1, a0, a1 => spec_l3Loose.b (spec_l3Loose.r K d) K a0 a1
theorem spec_l3Loose.r_ev {K : Nat} : ∀ (d : Nat) {a0 : spec_l1Cur} {a1 : Int} {r : List impl_Node × spec_l1Cur}, spec_l3Loose.r K d a0 a1 = some r → E 95 [(.ptr [(.d (.l true 1 (a0.b.map eY))), (.d (.p (.int .i64 a0.i))), (.d (.p (.int .i64 a0.h_)))]), (.d (.p (.int .i64 a1)))] = some ([(.own true 7 (r.1.map impl_Node.e))], [(.ptr [(.d (.l true 1 (r.2.b.map eY))), (.d (.p (.int .i64 r.2.i))), (.d (.p (.int .i64 r.2.h_)))])]) := by
  intro d
  induction d with
  | zero => intro a0 a1 r h; cases h
  | succ d ih => intro a0 a1 r h; exact spec_l3Loose.b_ev ih h
def spec_l3Loose.f (K : Nat) (a0 : spec_l1Cur) (a1 : Int) : Option (List impl_Node × spec_l1Cur) := spec_l3Loose.r K K a0 a1
theorem spec_l3Loose.ev {K : Nat} {a0 : spec_l1Cur} {a1 : Int} {r : List impl_Node × spec_l1Cur} (h : spec_l3Loose.f K a0 a1 = some r) : E 95 [(.ptr [(.d (.l true 1 (a0.b.map eY))), (.d (.p (.int .i64 a0.i))), (.d (.p (.int .i64 a0.h_)))]), (.d (.p (.int .i64 a1)))] = some ([(.own true 7 (r.1.map impl_Node.e))], [(.ptr [(.d (.l true 1 (r.2.b.map eY))), (.d (.p (.int .i64 r.2.i))), (.d (.p (.int .i64 r.2.h_)))])]) := spec_l3Loose.r_ev K h
def spec_l3Var.enc (r : List impl_Node) : Res := ([(.own true 7 (r.map impl_Node.e))], [])
def spec_l3Var.f  (K : Nat) (a0 : ByteArray) : Option (List impl_Node) := some ([(⟨1, 0, 0, 0, 0, a0, (⟨#[]⟩ : ByteArray)⟩ : impl_Node)] : List impl_Node)
theorem spec_l3Var.ev   {K : Nat} {a0 : ByteArray} {r : List impl_Node} (h : spec_l3Var.f  K a0 = some r) : E 127 [(.d (.p (.string a0)))] = some ([(.own true 7 (r.map impl_Node.e))], []) := by
  refine Ev_intro (fn := Tryd.f127) rfl (by kernel_rfl) (c := _) rfl ⟨rfl, by simp⟩ rfl (evP_spec _ ?_)
  unfold spec_l3Var.f at h
  refine eqM (([(⟨1, 0, 0, 0, 0, a0, (⟨#[]⟩ : ByteArray)⟩ : impl_Node)] : List impl_Node).map impl_Node.e) rfl ?_
  exact retE (enc := spec_l3Var.enc) h rfl
def spec_l3Any.enc (r : List impl_Node × spec_l1Cur) : Res := ([(.own true 7 (r.1.map impl_Node.e))], [(.ptr [(.d (.l true 1 (r.2.b.map eY))), (.d (.p (.int .i64 r.2.i))), (.d (.p (.int .i64 r.2.h_)))])])
def spec_l3Any.b (r_spec_l3Gen : spec_l1Cur → Int → Int → (List ByteArray) → (List Int) → Option (List impl_Node × spec_l1Cur)) (K : Nat) (a0 : spec_l1Cur) (a1 : Int) (a2 : Int) (a3 : List ByteArray) (a4 : List Int) : Option (List impl_Node × spec_l1Cur) := (spec_l1Pick.f K a0 ([(⟨#[120]⟩ : ByteArray), (⟨#[121]⟩ : ByteArray), (⟨#[122]⟩ : ByteArray), (⟨#[102]⟩ : ByteArray), (⟨#[103]⟩ : ByteArray)] : List ByteArray)).bind fun (y1, y2) => ((spec_l1Pick.f K y2 ([(⟨#[117]⟩ : ByteArray), (⟨#[118]⟩ : ByteArray), (⟨#[120]⟩ : ByteArray)] : List ByteArray)).bind fun (y4, y5) => (gd ((0 + a3.length) * 16 ≤ 140737488355328) (gd (((([] : List ByteArray) ++ a3).length + 1) * 16 ≤ 140737488355328) ((spec_l1Below.f K y5 6).bind fun (y7, y8) => (jn (fun (v10 : Bool) => if v10 = true then ((spec_l1Below.f K y8 5).bind fun (y13, y14) => ((r_spec_l3Gen y14 y13 (w64 (a2 - 1)) a3 a4).bind fun (y16, y17) => (gd ((0 + a4.length) * 8 ≤ 140737488355328) (gd (((([] : List Int) ++ a4).length + 1) * 8 ≤ 140737488355328) ((r_spec_l3Gen y17 a1 (w64 (a2 - 1)) ((([] : List ByteArray) ++ a3) ++ ([y1] : List ByteArray)) ((([] : List Int) ++ a4) ++ ([y13] : List Int))).bind fun (y19, y20) => ((spec_l3Make.f K (⟨5, 0, 0, 0, 0, y1, (⟨#[]⟩ : ByteArray)⟩ : impl_Node) ([y16, y19] : List (List impl_Node))).bind fun y22 => (some (y22, y20)))))))) else (if y7 = 2 then (gd ((0 + ((([] : List ByteArray) ++ a3) ++ ([y1] : List ByteArray)).length) * 16 ≤ 140737488355328) (gd (((([] : List ByteArray) ++ ((([] : List ByteArray) ++ a3) ++ ([y1] : List ByteArray))).length + 1) * 16 ≤ 140737488355328) (gd ((0 + a4.length) * 8 ≤ 140737488355328) (gd (((([] : List Int) ++ a4).length + 2) * 8 ≤ 140737488355328) ((r_spec_l3Gen y8 0 (w64 (a2 - 1)) ((([] : List ByteArray) ++ ((([] : List ByteArray) ++ a3) ++ ([y1] : List ByteArray))) ++ ([y4] : List ByteArray)) ((([] : List Int) ++ a4) ++ ([1, 0] : List Int))).bind fun (y25, y26) => (gd ((0 + a4.length) * 8 ≤ 140737488355328) (gd (((([] : List Int) ++ a4).length + 1) * 8 ≤ 140737488355328) ((r_spec_l3Gen y26 a1 (w64 (a2 - 1)) ((([] : List ByteArray) ++ a3) ++ ([y1] : List ByteArray)) ((([] : List Int) ++ a4) ++ ([1] : List Int))).bind fun (y28, y29) => ((spec_l3Make.f K (⟨6, 0, 0, 0, 0, y1, y4⟩ : impl_Node) ([y25, y28] : List (List impl_Node))).bind fun y31 => (some (y31, y29))))))))))) else (if y7 = 3 then ((r_spec_l3Gen y8 0 (w64 (a2 - 2)) a3 a4).bind fun (y34, y35) => ((r_spec_l3Gen y35 a1 (w64 (a2 - 1)) a3 a4).bind fun (y37, y38) => ((r_spec_l3Gen y38 a1 (w64 (a2 - 2)) a3 a4).bind fun (y40, y41) => ((spec_l3Make.f K (⟨7, 0, 0, 0, 0, (⟨#[]⟩ : ByteArray), (⟨#[]⟩ : ByteArray)⟩ : impl_Node) ([y34, y37, y40] : List (List impl_Node))).bind fun y43 => (some (y43, y41)))))) else (if y7 = 4 then (gd ((0 + ((([] : List ByteArray) ++ a3) ++ ([y1] : List ByteArray)).length) * 16 ≤ 140737488355328) (gd (((([] : List ByteArray) ++ ((([] : List ByteArray) ++ a3) ++ ([y1] : List ByteArray))).length + 1) * 16 ≤ 140737488355328) ((r_spec_l3Gen y8 3 (w64 (a2 - 1)) a3 a4).bind fun (y46, y47) => ((r_spec_l3Gen y47 a1 (w64 (a2 - 2)) a3 a4).bind fun (y49, y50) => (gd ((0 + a4.length) * 8 ≤ 140737488355328) (gd (((([] : List Int) ++ a4).length + 2) * 8 ≤ 140737488355328) ((r_spec_l3Gen y50 a1 (w64 (a2 - 1)) ((([] : List ByteArray) ++ ((([] : List ByteArray) ++ a3) ++ ([y1] : List ByteArray))) ++ ([y4] : List ByteArray)) ((([] : List Int) ++ a4) ++ ([0, 3] : List Int))).bind fun (y52, y53) => ((spec_l3Make.f K (⟨14, 0, 0, 0, 0, y1, y4⟩ : impl_Node) ([y46, y49, y52] : List (List impl_Node))).bind fun y55 => (some (y55, y53)))))))))) else ((r_spec_l3Gen y8 a1 (w64 (a2 - 1)) a3 a4).bind fun (y57, y58) => (gd ((0 + a4.length) * 8 ≤ 140737488355328) (gd (((([] : List Int) ++ a4).length + 1) * 8 ≤ 140737488355328) ((r_spec_l3Gen y58 a1 (w64 (a2 - 2)) ((([] : List ByteArray) ++ a3) ++ ([y1] : List ByteArray)) ((([] : List Int) ++ a4) ++ ([0] : List Int))).bind fun (y60, y61) => ((spec_l3Make.f K (⟨19, 0, 0, 0, 0, y1, (⟨#[]⟩ : ByteArray)⟩ : impl_Node) ([y57, y60] : List (List impl_Node))).bind fun y63 => (some (y63, y61))))))))))) (fun j => if y7 = 0 then (j true) else (j (decide (y7 = 1)))))))))
theorem spec_l3Any.b_ev {r_spec_l3Gen : spec_l1Cur → Int → Int → (List ByteArray) → (List Int) → Option (List impl_Node × spec_l1Cur)} (hr_spec_l3Gen : ∀ {a0 : spec_l1Cur} {a1 : Int} {a2 : Int} {a3 : List ByteArray} {a4 : List Int} {r : List impl_Node × spec_l1Cur}, r_spec_l3Gen a0 a1 a2 a3 a4 = some r → E 118 [(.ptr [(.d (.l true 1 (a0.b.map eY))), (.d (.p (.int .i64 a0.i))), (.d (.p (.int .i64 a0.h_)))]), (.d (.p (.int .i64 a1))), (.d (.p (.int .i64 a2))), (.d (.l true 1 (a3.map eS))), (.d (.l true 1 (a4.map eI)))] = some ([(.own true 7 (r.1.map impl_Node.e))], [(.ptr [(.d (.l true 1 (r.2.b.map eY))), (.d (.p (.int .i64 r.2.i))), (.d (.p (.int .i64 r.2.h_)))])])) {K : Nat} {a0 : spec_l1Cur} {a1 : Int} {a2 : Int} {a3 : List ByteArray} {a4 : List Int} {r : List impl_Node × spec_l1Cur} (h : spec_l3Any.b r_spec_l3Gen K a0 a1 a2 a3 a4 = some r) : E 128 [(.ptr [(.d (.l true 1 (a0.b.map eY))), (.d (.p (.int .i64 a0.i))), (.d (.p (.int .i64 a0.h_)))]), (.d (.p (.int .i64 a1))), (.d (.p (.int .i64 a2))), (.d (.l true 1 (a3.map eS))), (.d (.l true 1 (a4.map eI)))] = some ([(.own true 7 (r.1.map impl_Node.e))], [(.ptr [(.d (.l true 1 (r.2.b.map eY))), (.d (.p (.int .i64 r.2.i))), (.d (.p (.int .i64 r.2.h_)))])]) := by
  refine Ev_intro (fn := Tryd.f128) rfl (by kernel_rfl) (c := _) rfl ⟨rfl, by simp⟩ rfl (evP_spec _ ?_)
  unfold spec_l3Any.b at h
  refine eqM (([(⟨#[120]⟩ : ByteArray), (⟨#[121]⟩ : ByteArray), (⟨#[122]⟩ : ByteArray), (⟨#[102]⟩ : ByteArray), (⟨#[103]⟩ : ByteArray)] : List ByteArray).map eS) rfl ?_
  refine bindG h ?_
  rintro ⟨y1, y2⟩ hy3 h
  refine exM ([(.d (.p (.string y1)))], [(.ptr [(.d (.l true 1 (y2.b.map eY))), (.d (.p (.int .i64 y2.i))), (.d (.p (.int .i64 y2.h_)))])]) ?_ ?_
  · exact spec_l1Pick.ev hy3
  refine eqM (([(⟨#[117]⟩ : ByteArray), (⟨#[118]⟩ : ByteArray), (⟨#[120]⟩ : ByteArray)] : List ByteArray).map eS) rfl ?_
  refine bindG h ?_
  rintro ⟨y4, y5⟩ hy6 h
  refine exM ([(.d (.p (.string y4)))], [(.ptr [(.d (.l true 1 (y5.b.map eY))), (.d (.p (.int .i64 y5.i))), (.d (.p (.int .i64 y5.h_)))])]) ?_ ?_
  · exact spec_l1Pick.ev hy6
  refine eqM (([] : List ByteArray).map eS) rfl ?_
  refine gdG h fun hc h => ?_
  refine anM (apB hc) ?_
  refine eqM ((([] : List ByteArray) ++ a3).map eS) (mApp rfl rfl) ?_
  refine eqM (([y1] : List ByteArray).map eS) rfl ?_
  refine gdG h fun hc h => ?_
  refine anM (apB hc) ?_
  refine eqM (((([] : List ByteArray) ++ a3) ++ ([y1] : List ByteArray)).map eS) (mApp rfl rfl) ?_
  refine goS ?_
  refine bindG h ?_
  rintro ⟨y7, y8⟩ hy9 h
  refine exM ([(.d (.p (.int .i64 y7)))], [(.ptr [(.d (.l true 1 (y8.b.map eY))), (.d (.p (.int .i64 y8.i))), (.d (.p (.int .i64 y8.h_)))])]) ?_ ?_
  · exact spec_l1Below.ev hy9
  refine seqJ h 179 (fun x => [(0, (.ptr 179 0 1 0)), (1, (.d (.p (.int .i64 a1)))), (2, (.d (.p (.int .i64 a2)))), (3, (.d (.l true 1 (a3.map eS)))), (4, (.d (.l true 1 (a4.map eI)))), (11, (.d (.p (.string y1)))), (12, (.d (.p (.string y4)))), (13, (.own 13 1 2)), (31, (.d (.p (.int .i64 y7)))), (32, (.d (.p (.bool x))))]) (fun x => [(13, 1, 2, (some (.row true true 1 (((([] : List ByteArray) ++ a3) ++ ([y1] : List ByteArray)).map eS)))), (179, 0, 1, (some (.box [(.d (.l true 1 (y8.b.map eY))), (.d (.p (.int .i64 y8.i))), (.d (.p (.int .i64 y8.h_)))])))]) (fun J h => ?_) ?_
  · try ((with_reducible apply cdX); exact rfl)
    refine iteF h (fun c11 h => ?_) (fun c11 h => ?_)
    · exact ⟨true, h, ⟨rfl, ⟨rfl, rfl, rfl, rfl, rfl, rfl, rfl, rfl, rfl, rfl, trivial⟩, ⟨rfl, rfl, trivial⟩⟩⟩
    · exact ⟨(decide (y7 = 1)), h, ⟨rfl, ⟨rfl, rfl, rfl, rfl, rfl, rfl, rfl, rfl, rfl, rfl, trivial⟩, ⟨rfl, rfl, trivial⟩⟩⟩
  · rintro v10 h e hp
    try ((with_reducible apply cdX); exact rfl)
    refine ifB h (fun c12 h => ?_) (fun c12 h => ?_)
    · refine bindG h ?_
      rintro ⟨y13, y14⟩ hy15 h
      refine exM ([(.d (.p (.int .i64 y13)))], [(.ptr [(.d (.l true 1 (y14.b.map eY))), (.d (.p (.int .i64 y14.i))), (.d (.p (.int .i64 y14.h_)))])]) ?_ ?_
      · exact spec_l1Below.ev hy15
      refine bindG h ?_
      rintro ⟨y16, y17⟩ hy18 h
      refine exM ([(.own true 7 (y16.map impl_Node.e))], [(.ptr [(.d (.l true 1 (y17.b.map eY))), (.d (.p (.int .i64 y17.i))), (.d (.p (.int .i64 y17.h_)))])]) ?_ ?_
      · exact hr_spec_l3Gen hy18
      refine eqM (([] : List Int).map eI) rfl ?_
      refine gdG h fun hc h => ?_
      refine anM (apB hc) ?_
      refine eqM ((([] : List Int) ++ a4).map eI) (mApp rfl rfl) ?_
      refine eqM (([y13] : List Int).map eI) rfl ?_
      refine gdG h fun hc h => ?_
      refine anM (apB hc) ?_
      refine eqM (((([] : List Int) ++ a4) ++ ([y13] : List Int)).map eI) (mApp rfl rfl) ?_
      refine bindG h ?_
      rintro ⟨y19, y20⟩ hy21 h
      refine exM ([(.own true 7 (y19.map impl_Node.e))], [(.ptr [(.d (.l true 1 (y20.b.map eY))), (.d (.p (.int .i64 y20.i))), (.d (.p (.int .i64 y20.h_)))])]) ?_ ?_
      · exact hr_spec_l3Gen hy21
      refine eqM (([y16, y19] : List (List impl_Node)).map (eL true 7 impl_Node.e)) rfl ?_
      refine bindG h fun y22 hy23 h => ?_
      refine exM ([(.own true 7 (y22.map impl_Node.e))], []) ?_ ?_
      · exact spec_l3Make.ev hy23
      exact retE (enc := spec_l3Any.enc) h rfl
    · try ((with_reducible apply cdX); exact rfl)
      refine iteF h (fun c24 h => ?_) (fun c24 h => ?_)
      · refine eqM (([] : List ByteArray).map eS) rfl ?_
        refine gdG h fun hc h => ?_
        refine anM (apB hc) ?_
        refine eqM ((([] : List ByteArray) ++ ((([] : List ByteArray) ++ a3) ++ ([y1] : List ByteArray))).map eS) (mApp rfl rfl) ?_
        refine eqM (([y4] : List ByteArray).map eS) rfl ?_
        refine gdG h fun hc h => ?_
        refine anM (apB hc) ?_
        refine eqM (((([] : List ByteArray) ++ ((([] : List ByteArray) ++ a3) ++ ([y1] : List ByteArray))) ++ ([y4] : List ByteArray)).map eS) (mApp rfl rfl) ?_
        refine eqM (([] : List Int).map eI) rfl ?_
        refine gdG h fun hc h => ?_
        refine anM (apB hc) ?_
        refine eqM ((([] : List Int) ++ a4).map eI) (mApp rfl rfl) ?_
        refine eqM (([1, 0] : List Int).map eI) rfl ?_
        refine gdG h fun hc h => ?_
        refine anM (apB hc) ?_
        refine eqM (((([] : List Int) ++ a4) ++ ([1, 0] : List Int)).map eI) (mApp rfl rfl) ?_
        refine bindG h ?_
        rintro ⟨y25, y26⟩ hy27 h
        refine exM ([(.own true 7 (y25.map impl_Node.e))], [(.ptr [(.d (.l true 1 (y26.b.map eY))), (.d (.p (.int .i64 y26.i))), (.d (.p (.int .i64 y26.h_)))])]) ?_ ?_
        · exact hr_spec_l3Gen hy27
        refine eqM (([] : List Int).map eI) rfl ?_
        refine gdG h fun hc h => ?_
        refine anM (apB hc) ?_
        refine eqM ((([] : List Int) ++ a4).map eI) (mApp rfl rfl) ?_
        refine eqM (([1] : List Int).map eI) rfl ?_
        refine gdG h fun hc h => ?_
        refine anM (apB hc) ?_
        refine eqM (((([] : List Int) ++ a4) ++ ([1] : List Int)).map eI) (mApp rfl rfl) ?_
        refine bindG h ?_
        rintro ⟨y28, y29⟩ hy30 h
        refine exM ([(.own true 7 (y28.map impl_Node.e))], [(.ptr [(.d (.l true 1 (y29.b.map eY))), (.d (.p (.int .i64 y29.i))), (.d (.p (.int .i64 y29.h_)))])]) ?_ ?_
        · exact hr_spec_l3Gen hy30
        refine eqM (([y25, y28] : List (List impl_Node)).map (eL true 7 impl_Node.e)) rfl ?_
        refine bindG h fun y31 hy32 h => ?_
        refine exM ([(.own true 7 (y31.map impl_Node.e))], []) ?_ ?_
        · exact spec_l3Make.ev hy32
        exact retE (enc := spec_l3Any.enc) h rfl
      · try ((with_reducible apply cdX); exact rfl)
        refine iteF h (fun c33 h => ?_) (fun c33 h => ?_)
        · refine bindG h ?_
          rintro ⟨y34, y35⟩ hy36 h
          refine exM ([(.own true 7 (y34.map impl_Node.e))], [(.ptr [(.d (.l true 1 (y35.b.map eY))), (.d (.p (.int .i64 y35.i))), (.d (.p (.int .i64 y35.h_)))])]) ?_ ?_
          · exact hr_spec_l3Gen hy36
          refine bindG h ?_
          rintro ⟨y37, y38⟩ hy39 h
          refine exM ([(.own true 7 (y37.map impl_Node.e))], [(.ptr [(.d (.l true 1 (y38.b.map eY))), (.d (.p (.int .i64 y38.i))), (.d (.p (.int .i64 y38.h_)))])]) ?_ ?_
          · exact hr_spec_l3Gen hy39
          refine bindG h ?_
          rintro ⟨y40, y41⟩ hy42 h
          refine exM ([(.own true 7 (y40.map impl_Node.e))], [(.ptr [(.d (.l true 1 (y41.b.map eY))), (.d (.p (.int .i64 y41.i))), (.d (.p (.int .i64 y41.h_)))])]) ?_ ?_
          · exact hr_spec_l3Gen hy42
          refine eqM (([y34, y37, y40] : List (List impl_Node)).map (eL true 7 impl_Node.e)) rfl ?_
          refine bindG h fun y43 hy44 h => ?_
          refine exM ([(.own true 7 (y43.map impl_Node.e))], []) ?_ ?_
          · exact spec_l3Make.ev hy44
          exact retE (enc := spec_l3Any.enc) h rfl
        · try ((with_reducible apply cdX); exact rfl)
          refine iteF h (fun c45 h => ?_) (fun c45 h => ?_)
          · refine eqM (([] : List ByteArray).map eS) rfl ?_
            refine gdG h fun hc h => ?_
            refine anM (apB hc) ?_
            refine eqM ((([] : List ByteArray) ++ ((([] : List ByteArray) ++ a3) ++ ([y1] : List ByteArray))).map eS) (mApp rfl rfl) ?_
            refine eqM (([y4] : List ByteArray).map eS) rfl ?_
            refine gdG h fun hc h => ?_
            refine anM (apB hc) ?_
            refine eqM (((([] : List ByteArray) ++ ((([] : List ByteArray) ++ a3) ++ ([y1] : List ByteArray))) ++ ([y4] : List ByteArray)).map eS) (mApp rfl rfl) ?_
            refine bindG h ?_
            rintro ⟨y46, y47⟩ hy48 h
            refine exM ([(.own true 7 (y46.map impl_Node.e))], [(.ptr [(.d (.l true 1 (y47.b.map eY))), (.d (.p (.int .i64 y47.i))), (.d (.p (.int .i64 y47.h_)))])]) ?_ ?_
            · exact hr_spec_l3Gen hy48
            refine bindG h ?_
            rintro ⟨y49, y50⟩ hy51 h
            refine exM ([(.own true 7 (y49.map impl_Node.e))], [(.ptr [(.d (.l true 1 (y50.b.map eY))), (.d (.p (.int .i64 y50.i))), (.d (.p (.int .i64 y50.h_)))])]) ?_ ?_
            · exact hr_spec_l3Gen hy51
            refine eqM (([] : List Int).map eI) rfl ?_
            refine gdG h fun hc h => ?_
            refine anM (apB hc) ?_
            refine eqM ((([] : List Int) ++ a4).map eI) (mApp rfl rfl) ?_
            refine eqM (([0, 3] : List Int).map eI) rfl ?_
            refine gdG h fun hc h => ?_
            refine anM (apB hc) ?_
            refine eqM (((([] : List Int) ++ a4) ++ ([0, 3] : List Int)).map eI) (mApp rfl rfl) ?_
            refine bindG h ?_
            rintro ⟨y52, y53⟩ hy54 h
            refine exM ([(.own true 7 (y52.map impl_Node.e))], [(.ptr [(.d (.l true 1 (y53.b.map eY))), (.d (.p (.int .i64 y53.i))), (.d (.p (.int .i64 y53.h_)))])]) ?_ ?_
            · exact hr_spec_l3Gen hy54
            refine eqM (([y46, y49, y52] : List (List impl_Node)).map (eL true 7 impl_Node.e)) rfl ?_
            refine bindG h fun y55 hy56 h => ?_
            refine exM ([(.own true 7 (y55.map impl_Node.e))], []) ?_ ?_
            · exact spec_l3Make.ev hy56
            exact retE (enc := spec_l3Any.enc) h rfl
          · refine bindG h ?_
            rintro ⟨y57, y58⟩ hy59 h
            refine exM ([(.own true 7 (y57.map impl_Node.e))], [(.ptr [(.d (.l true 1 (y58.b.map eY))), (.d (.p (.int .i64 y58.i))), (.d (.p (.int .i64 y58.h_)))])]) ?_ ?_
            · exact hr_spec_l3Gen hy59
            refine eqM (([] : List Int).map eI) rfl ?_
            refine gdG h fun hc h => ?_
            refine anM (apB hc) ?_
            refine eqM ((([] : List Int) ++ a4).map eI) (mApp rfl rfl) ?_
            refine eqM (([0] : List Int).map eI) rfl ?_
            refine gdG h fun hc h => ?_
            refine anM (apB hc) ?_
            refine eqM (((([] : List Int) ++ a4) ++ ([0] : List Int)).map eI) (mApp rfl rfl) ?_
            refine bindG h ?_
            rintro ⟨y60, y61⟩ hy62 h
            refine exM ([(.own true 7 (y60.map impl_Node.e))], [(.ptr [(.d (.l true 1 (y61.b.map eY))), (.d (.p (.int .i64 y61.i))), (.d (.p (.int .i64 y61.h_)))])]) ?_ ?_
            · exact hr_spec_l3Gen hy62
            refine eqM (([y57, y60] : List (List impl_Node)).map (eL true 7 impl_Node.e)) rfl ?_
            refine bindG h fun y63 hy64 h => ?_
            refine exM ([(.own true 7 (y63.map impl_Node.e))], []) ?_ ?_
            · exact spec_l3Make.ev hy64
            exact retE (enc := spec_l3Any.enc) h rfl
def spec_l3Int.enc (r : List impl_Node) : Res := ([(.own true 7 (r.map impl_Node.e))], [])
def spec_l3Int.f  (K : Nat) (a0 : Int) : Option (List impl_Node) := some ([(⟨2, 0, 0, 0, a0, (⟨#[]⟩ : ByteArray), (⟨#[]⟩ : ByteArray)⟩ : impl_Node)] : List impl_Node)
theorem spec_l3Int.ev   {K : Nat} {a0 : Int} {r : List impl_Node} (h : spec_l3Int.f  K a0 = some r) : E 119 [(.d (.p (.int .i64 a0)))] = some ([(.own true 7 (r.map impl_Node.e))], []) := by
  refine Ev_intro (fn := Tryd.f119) rfl (by kernel_rfl) (c := _) rfl ⟨rfl, by simp⟩ rfl (evP_spec _ ?_)
  unfold spec_l3Int.f at h
  refine eqM (([(⟨2, 0, 0, 0, a0, (⟨#[]⟩ : ByteArray), (⟨#[]⟩ : ByteArray)⟩ : impl_Node)] : List impl_Node).map impl_Node.e) rfl ?_
  exact retE (enc := spec_l3Int.enc) h rfl
def spec_l3Num.enc (r : List impl_Node × spec_l1Cur) : Res := ([(.own true 7 (r.1.map impl_Node.e))], [(.ptr [(.d (.l true 1 (r.2.b.map eY))), (.d (.p (.int .i64 r.2.i))), (.d (.p (.int .i64 r.2.h_)))])])
def spec_l3Num.b (r_spec_l3Gen : spec_l1Cur → Int → Int → (List ByteArray) → (List Int) → Option (List impl_Node × spec_l1Cur)) (K : Nat) (a0 : spec_l1Cur) (a1 : Int) (a2 : List ByteArray) (a3 : List Int) : Option (List impl_Node × spec_l1Cur) := jn (fun (v1 : spec_l1Cur) => (spec_l1Below.f K v1 9).bind fun (y62, y63) => ((spec_l3Int.f K y62).bind fun y65 => (some (y65, y63)))) (fun j => (spec_l1Below.f K a0 8).bind fun (y2, y3) => (jn (fun (v5 : Bool) => if v5 = true then ((spec_l1Below.f K y3 4).bind fun (y8, y9) => ((r_spec_l3Gen y9 0 (w64 (a1 - 1)) a2 a3).bind fun (y11, y12) => ((r_spec_l3Gen y12 0 (w64 (a1 - 1)) a2 a3).bind fun (y14, y15) => ((spec_l3Make.f K (⟨8, 0, 0, 0, y8, (⟨#[]⟩ : ByteArray), (⟨#[]⟩ : ByteArray)⟩ : impl_Node) ([y11, y14] : List (List impl_Node))).bind fun y17 => (some (y17, y15)))))) else (if y2 = 2 then ((r_spec_l3Gen y3 1 (w64 (a1 - 1)) a2 a3).bind fun (y20, y21) => ((r_spec_l3Gen y21 0 (w64 (a1 - 1)) a2 a3).bind fun (y23, y24) => ((spec_l3Make.f K (⟨4, 0, 0, 0, 0, (⟨#[]⟩ : ByteArray), (⟨#[]⟩ : ByteArray)⟩ : impl_Node) ([y20, y23] : List (List impl_Node))).bind fun y26 => (some (y26, y24))))) else (if y2 = 3 then ((spec_l1Below.f K y3 2).bind fun (y29, y30) => ((r_spec_l3Gen y30 2 (w64 (a1 - 1)) a2 a3).bind fun (y32, y33) => ((spec_l3Make.f K (⟨(w64 (10 + y29)), 0, 0, 0, 0, (⟨#[]⟩ : ByteArray), (⟨#[]⟩ : ByteArray)⟩ : impl_Node) ([y32] : List (List impl_Node))).bind fun y35 => (some (y35, y33))))) else (if y2 = 4 then ((r_spec_l3Gen y3 4 (w64 (a1 - 1)) a2 a3).bind fun (y38, y39) => ((spec_l3Make.f K (⟨16, 0, 0, 0, 0, (⟨#[]⟩ : ByteArray), (⟨#[]⟩ : ByteArray)⟩ : impl_Node) ([y38] : List (List impl_Node))).bind fun y41 => (some (y41, y39)))) else (if y2 = 5 then ((r_spec_l3Gen y3 4 (w64 (a1 - 1)) a2 a3).bind fun (y44, y45) => ((r_spec_l3Gen y45 0 (w64 (a1 - 1)) a2 a3).bind fun (y47, y48) => ((spec_l3Make.f K (⟨17, 0, 0, 0, 0, (⟨#[]⟩ : ByteArray), (⟨#[]⟩ : ByteArray)⟩ : impl_Node) ([y44, y47] : List (List impl_Node))).bind fun y50 => (some (y50, y48))))) else (if y2 = 6 then ((spec_l1Once.f K y3 2).bind fun (y53, y54) => (if y53 = true then ((r_spec_l3Gen y54 0 (w64 (a1 - 2)) a2 a3).bind fun (y57, y58) => ((spec_l3Make.f K (⟨18, 0, 0, 0, 0, (⟨#[]⟩ : ByteArray), (⟨#[]⟩ : ByteArray)⟩ : impl_Node) ([y57] : List (List impl_Node))).bind fun y60 => (some (y60, y58)))) else (j y54))) else (j y3))))))) (fun j => if y2 = 0 then (j true) else (j (decide (y2 = 1))))))
theorem spec_l3Num.b_ev {r_spec_l3Gen : spec_l1Cur → Int → Int → (List ByteArray) → (List Int) → Option (List impl_Node × spec_l1Cur)} (hr_spec_l3Gen : ∀ {a0 : spec_l1Cur} {a1 : Int} {a2 : Int} {a3 : List ByteArray} {a4 : List Int} {r : List impl_Node × spec_l1Cur}, r_spec_l3Gen a0 a1 a2 a3 a4 = some r → E 118 [(.ptr [(.d (.l true 1 (a0.b.map eY))), (.d (.p (.int .i64 a0.i))), (.d (.p (.int .i64 a0.h_)))]), (.d (.p (.int .i64 a1))), (.d (.p (.int .i64 a2))), (.d (.l true 1 (a3.map eS))), (.d (.l true 1 (a4.map eI)))] = some ([(.own true 7 (r.1.map impl_Node.e))], [(.ptr [(.d (.l true 1 (r.2.b.map eY))), (.d (.p (.int .i64 r.2.i))), (.d (.p (.int .i64 r.2.h_)))])])) {K : Nat} {a0 : spec_l1Cur} {a1 : Int} {a2 : List ByteArray} {a3 : List Int} {r : List impl_Node × spec_l1Cur} (h : spec_l3Num.b r_spec_l3Gen K a0 a1 a2 a3 = some r) : E 129 [(.ptr [(.d (.l true 1 (a0.b.map eY))), (.d (.p (.int .i64 a0.i))), (.d (.p (.int .i64 a0.h_)))]), (.d (.p (.int .i64 a1))), (.d (.l true 1 (a2.map eS))), (.d (.l true 1 (a3.map eI)))] = some ([(.own true 7 (r.1.map impl_Node.e))], [(.ptr [(.d (.l true 1 (r.2.b.map eY))), (.d (.p (.int .i64 r.2.i))), (.d (.p (.int .i64 r.2.h_)))])]) := by
  refine Ev_intro (fn := Tryd.f129) rfl (by kernel_rfl) (c := _) rfl ⟨rfl, by simp⟩ rfl (evP_spec _ ?_)
  unfold spec_l3Num.b at h
  refine seqJ h 106 (fun x => [(0, (.ptr 106 0 1 0))]) (fun x => [(106, 0, 1, (some (.box [(.d (.l true 1 (x.b.map eY))), (.d (.p (.int .i64 x.i))), (.d (.p (.int .i64 x.h_)))])))]) (fun J h => ?_) ?_
  · refine bindG h ?_
    rintro ⟨y2, y3⟩ hy4 h
    refine exM ([(.d (.p (.int .i64 y2)))], [(.ptr [(.d (.l true 1 (y3.b.map eY))), (.d (.p (.int .i64 y3.i))), (.d (.p (.int .i64 y3.h_)))])]) ?_ ?_
    · exact spec_l1Below.ev hy4
    refine seqJ h 106 (fun x => [(0, (.ptr 106 0 1 0)), (1, (.d (.p (.int .i64 a1)))), (2, (.d (.l true 1 (a2.map eS)))), (3, (.d (.l true 1 (a3.map eI)))), (10, (.d (.p (.int .i64 y2)))), (11, (.d (.p (.bool x))))]) (fun x => [(106, 0, 1, (some (.box [(.d (.l true 1 (y3.b.map eY))), (.d (.p (.int .i64 y3.i))), (.d (.p (.int .i64 y3.h_)))])))]) (fun J h => ?_) ?_
    · try ((with_reducible apply cdX); exact rfl)
      refine iteF h (fun c6 h => ?_) (fun c6 h => ?_)
      · exact ⟨true, h, ⟨rfl, ⟨rfl, rfl, rfl, rfl, rfl, rfl, trivial⟩, ⟨rfl, trivial⟩⟩⟩
      · exact ⟨(decide (y2 = 1)), h, ⟨rfl, ⟨rfl, rfl, rfl, rfl, rfl, rfl, trivial⟩, ⟨rfl, trivial⟩⟩⟩
    · rintro v5 h e hp
      try ((with_reducible apply cdX); exact rfl)
      refine ifB h (fun c7 h => ?_) (fun c7 h => ?_)
      · refine bindG h ?_
        rintro ⟨y8, y9⟩ hy10 h
        refine exM ([(.d (.p (.int .i64 y8)))], [(.ptr [(.d (.l true 1 (y9.b.map eY))), (.d (.p (.int .i64 y9.i))), (.d (.p (.int .i64 y9.h_)))])]) ?_ ?_
        · exact spec_l1Below.ev hy10
        refine bindG h ?_
        rintro ⟨y11, y12⟩ hy13 h
        refine exM ([(.own true 7 (y11.map impl_Node.e))], [(.ptr [(.d (.l true 1 (y12.b.map eY))), (.d (.p (.int .i64 y12.i))), (.d (.p (.int .i64 y12.h_)))])]) ?_ ?_
        · exact hr_spec_l3Gen hy13
        refine bindG h ?_
        rintro ⟨y14, y15⟩ hy16 h
        refine exM ([(.own true 7 (y14.map impl_Node.e))], [(.ptr [(.d (.l true 1 (y15.b.map eY))), (.d (.p (.int .i64 y15.i))), (.d (.p (.int .i64 y15.h_)))])]) ?_ ?_
        · exact hr_spec_l3Gen hy16
        refine eqM (([y11, y14] : List (List impl_Node)).map (eL true 7 impl_Node.e)) rfl ?_
        refine bindG h fun y17 hy18 h => ?_
        refine exM ([(.own true 7 (y17.map impl_Node.e))], []) ?_ ?_
        · exact spec_l3Make.ev hy18
        exact retE (enc := spec_l3Num.enc) h rfl
      · try ((with_reducible apply cdX); exact rfl)
        refine iteF h (fun c19 h => ?_) (fun c19 h => ?_)
        · refine bindG h ?_
          rintro ⟨y20, y21⟩ hy22 h
          refine exM ([(.own true 7 (y20.map impl_Node.e))], [(.ptr [(.d (.l true 1 (y21.b.map eY))), (.d (.p (.int .i64 y21.i))), (.d (.p (.int .i64 y21.h_)))])]) ?_ ?_
          · exact hr_spec_l3Gen hy22
          refine bindG h ?_
          rintro ⟨y23, y24⟩ hy25 h
          refine exM ([(.own true 7 (y23.map impl_Node.e))], [(.ptr [(.d (.l true 1 (y24.b.map eY))), (.d (.p (.int .i64 y24.i))), (.d (.p (.int .i64 y24.h_)))])]) ?_ ?_
          · exact hr_spec_l3Gen hy25
          refine eqM (([y20, y23] : List (List impl_Node)).map (eL true 7 impl_Node.e)) rfl ?_
          refine bindG h fun y26 hy27 h => ?_
          refine exM ([(.own true 7 (y26.map impl_Node.e))], []) ?_ ?_
          · exact spec_l3Make.ev hy27
          exact retE (enc := spec_l3Num.enc) h rfl
        · try ((with_reducible apply cdX); exact rfl)
          refine iteF h (fun c28 h => ?_) (fun c28 h => ?_)
          · refine bindG h ?_
            rintro ⟨y29, y30⟩ hy31 h
            refine exM ([(.d (.p (.int .i64 y29)))], [(.ptr [(.d (.l true 1 (y30.b.map eY))), (.d (.p (.int .i64 y30.i))), (.d (.p (.int .i64 y30.h_)))])]) ?_ ?_
            · exact spec_l1Below.ev hy31
            refine bindG h ?_
            rintro ⟨y32, y33⟩ hy34 h
            refine exM ([(.own true 7 (y32.map impl_Node.e))], [(.ptr [(.d (.l true 1 (y33.b.map eY))), (.d (.p (.int .i64 y33.i))), (.d (.p (.int .i64 y33.h_)))])]) ?_ ?_
            · exact hr_spec_l3Gen hy34
            refine eqM (([y32] : List (List impl_Node)).map (eL true 7 impl_Node.e)) rfl ?_
            refine bindG h fun y35 hy36 h => ?_
            refine exM ([(.own true 7 (y35.map impl_Node.e))], []) ?_ ?_
            · exact spec_l3Make.ev hy36
            exact retE (enc := spec_l3Num.enc) h rfl
          · try ((with_reducible apply cdX); exact rfl)
            refine iteF h (fun c37 h => ?_) (fun c37 h => ?_)
            · refine bindG h ?_
              rintro ⟨y38, y39⟩ hy40 h
              refine exM ([(.own true 7 (y38.map impl_Node.e))], [(.ptr [(.d (.l true 1 (y39.b.map eY))), (.d (.p (.int .i64 y39.i))), (.d (.p (.int .i64 y39.h_)))])]) ?_ ?_
              · exact hr_spec_l3Gen hy40
              refine eqM (([y38] : List (List impl_Node)).map (eL true 7 impl_Node.e)) rfl ?_
              refine bindG h fun y41 hy42 h => ?_
              refine exM ([(.own true 7 (y41.map impl_Node.e))], []) ?_ ?_
              · exact spec_l3Make.ev hy42
              exact retE (enc := spec_l3Num.enc) h rfl
            · try ((with_reducible apply cdX); exact rfl)
              refine iteF h (fun c43 h => ?_) (fun c43 h => ?_)
              · refine bindG h ?_
                rintro ⟨y44, y45⟩ hy46 h
                refine exM ([(.own true 7 (y44.map impl_Node.e))], [(.ptr [(.d (.l true 1 (y45.b.map eY))), (.d (.p (.int .i64 y45.i))), (.d (.p (.int .i64 y45.h_)))])]) ?_ ?_
                · exact hr_spec_l3Gen hy46
                refine bindG h ?_
                rintro ⟨y47, y48⟩ hy49 h
                refine exM ([(.own true 7 (y47.map impl_Node.e))], [(.ptr [(.d (.l true 1 (y48.b.map eY))), (.d (.p (.int .i64 y48.i))), (.d (.p (.int .i64 y48.h_)))])]) ?_ ?_
                · exact hr_spec_l3Gen hy49
                refine eqM (([y44, y47] : List (List impl_Node)).map (eL true 7 impl_Node.e)) rfl ?_
                refine bindG h fun y50 hy51 h => ?_
                refine exM ([(.own true 7 (y50.map impl_Node.e))], []) ?_ ?_
                · exact spec_l3Make.ev hy51
                exact retE (enc := spec_l3Num.enc) h rfl
              · try ((with_reducible apply cdX); exact rfl)
                refine iteF h (fun c52 h => ?_) (fun c52 h => ?_)
                · refine bindG h ?_
                  rintro ⟨y53, y54⟩ hy55 h
                  refine exM ([(.d (.p (.bool y53)))], [(.ptr [(.d (.l true 1 (y54.b.map eY))), (.d (.p (.int .i64 y54.i))), (.d (.p (.int .i64 y54.h_)))])]) ?_ ?_
                  · exact spec_l1Once.ev hy55
                  refine ifB h (fun c56 h => ?_) (fun c56 h => ?_)
                  · refine bindG h ?_
                    rintro ⟨y57, y58⟩ hy59 h
                    refine exM ([(.own true 7 (y57.map impl_Node.e))], [(.ptr [(.d (.l true 1 (y58.b.map eY))), (.d (.p (.int .i64 y58.i))), (.d (.p (.int .i64 y58.h_)))])]) ?_ ?_
                    · exact hr_spec_l3Gen hy59
                    refine eqM (([y57] : List (List impl_Node)).map (eL true 7 impl_Node.e)) rfl ?_
                    refine bindG h fun y60 hy61 h => ?_
                    refine exM ([(.own true 7 (y60.map impl_Node.e))], []) ?_ ?_
                    · exact spec_l3Make.ev hy61
                    exact retE (enc := spec_l3Num.enc) h rfl
                  · exact ⟨y54, h, ⟨rfl, ⟨rfl, trivial⟩, ⟨rfl, trivial⟩⟩⟩
                · exact ⟨y3, h, ⟨rfl, ⟨rfl, trivial⟩, ⟨rfl, trivial⟩⟩⟩
  · rintro v1 h e hp
    refine bindG h ?_
    rintro ⟨y62, y63⟩ hy64 h
    refine exM ([(.d (.p (.int .i64 y62)))], [(.ptr [(.d (.l true 1 (y63.b.map eY))), (.d (.p (.int .i64 y63.i))), (.d (.p (.int .i64 y63.h_)))])]) ?_ ?_
    · exact spec_l1Below.ev hy64
    refine bindG h fun y65 hy66 h => ?_
    refine exM ([(.own true 7 (y65.map impl_Node.e))], []) ?_ ?_
    · exact spec_l3Int.ev hy66
    exact retE (enc := spec_l3Num.enc) h rfl
def spec_l3Gen.enc (r : List impl_Node × spec_l1Cur) : Res := ([(.own true 7 (r.1.map impl_Node.e))], [(.ptr [(.d (.l true 1 (r.2.b.map eY))), (.d (.p (.int .i64 r.2.i))), (.d (.p (.int .i64 r.2.h_)))])])
def spec_l3Gen.l1 (a3 : List ByteArray) (v2 : Int) (K : Nat) : Nat → Bool → Int → Option (Bool)
  | 0, _, _ => none
  | k + 1, v8, v9 => if v9 < (a3.length : Int) then (jn (fun (v12 : Bool) => spec_l3Gen.l1 a3 v2 K k v12 (w64 (v9 + 1))) (fun j => if v8 = true then ((at_ a3 v9).bind fun x14 => ((at_ a3 v2).bind fun x15 => (j (!(x14.toList == x15.toList))))) else (j false))) else (some v8)
def spec_l3Gen.l0 (a1 : Int) (a3 : List ByteArray) (a4 : List Int) (K : Nat) : Nat → Int → (List ByteArray) → Option (List ByteArray)
  | 0, _, _ => none
  | k + 1, v2, v3 => if v2 < (a3.length : Int) then (jn (fun (v6 : List ByteArray) => spec_l3Gen.l0 a1 a3 a4 K k (w64 (v2 + 1)) v6) (fun j => jn (fun (v7 : Bool) => jn (fun (v16 : Bool) => if v16 = true then ((at_ a3 v2).bind fun x20 => (gd ((v3.length + 1) * 16 ≤ 140737488355328) (j (v3 ++ ([x20] : List ByteArray))))) else (j v3)) (fun j => if v7 = true then ((at_ a4 v2).bind fun x18 => (j (decide (x18 = a1)))) else (j false))) (fun j => (spec_l3Gen.l1 a3 v2 K K true (w64 (v2 + 1))).bind fun (v10 : Bool) => j v10))) else (some v3)
def spec_l3Gen.b (r_spec_l3Gen : spec_l1Cur → Int → Int → (List ByteArray) → (List Int) → Option (List impl_Node × spec_l1Cur)) (K : Nat) (a0 : spec_l1Cur) (a1 : Int) (a2 : Int) (a3 : List ByteArray) (a4 : List Int) : Option (List impl_Node × spec_l1Cur) := jn (fun (v1 : List ByteArray) => jn (fun (v21, v22) => if v21 = true then ((spec_l1Pick.f K v22 v1).bind fun (y29, y30) => ((spec_l3Var.f K y29).bind fun y32 => (some (y32, y30)))) else (jn (fun (v34, v35) => if v34 = true then ((spec_l3Any.b r_spec_l3Gen K v35 a1 a2 a3 a4).bind fun (y41, y42) => (some (y41, y42))) else ((spec_l1Pick.f K v35 ([(⟨#[120]⟩ : ByteArray), (⟨#[121]⟩ : ByteArray), (⟨#[122]⟩ : ByteArray), (⟨#[102]⟩ : ByteArray), (⟨#[103]⟩ : ByteArray)] : List ByteArray)).bind fun (y44, y45) => (if a1 = 0 then (jn (fun (v48, v49) => if v48 = true then ((spec_l3Num.b r_spec_l3Gen K v49 a2 a3 a4).bind fun (y55, y56) => (some (y55, y56))) else ((spec_l1Below.f K v49 50).bind fun (y58, y59) => ((spec_l1PickInt.f K y59 ([0, 1, 2, 3, 7, 65535, y58] : List Int)).bind fun (y61, y62) => ((spec_l3Int.f K y61).bind fun y64 => (some (y64, y62)))))) (fun j => if a2 > 0 then ((spec_l1Once.f K y45 4).bind fun (y51, y52) => (j ((!y51), y52))) else (j (false, y45)))) else (if a1 = 1 then (gd ((0 + a3.length) * 16 ≤ 140737488355328) (gd (((([] : List ByteArray) ++ a3).length + 1) * 16 ≤ 140737488355328) (gd ((0 + a4.length) * 8 ≤ 140737488355328) (gd (((([] : List Int) ++ a4).length + 1) * 8 ≤ 140737488355328) ((r_spec_l3Gen y45 0 (w64 (a2 - 1)) ((([] : List ByteArray) ++ a3) ++ ([y44] : List ByteArray)) ((([] : List Int) ++ a4) ++ ([0] : List Int))).bind fun (y67, y68) => ((spec_l3Make.f K (⟨3, 0, 0, 0, 0, y44, (⟨#[]⟩ : ByteArray)⟩ : impl_Node) ([y67] : List (List impl_Node))).bind fun y70 => (some (y70, y68)))))))) else (if a1 = 2 then ((r_spec_l3Gen y45 0 (w64 (a2 - 1)) a3 a4).bind fun (y73, y74) => ((r_spec_l3Gen y74 0 (w64 (a2 - 2)) a3 a4).bind fun (y76, y77) => ((spec_l3Make.f K (⟨9, 0, 0, 0, 0, (⟨#[]⟩ : ByteArray), (⟨#[]⟩ : ByteArray)⟩ : impl_Node) ([y73, y76] : List (List impl_Node))).bind fun y79 => (some (y79, y77))))) else (if a1 = 3 then (jn (fun (v82, v83) => if v82 = true then ((r_spec_l3Gen v83 0 (w64 (a2 - 2)) a3 a4).bind fun (y89, y90) => ((r_spec_l3Gen y90 3 (w64 (a2 - 1)) a3 a4).bind fun (y92, y93) => ((spec_l3Make.f K (⟨13, 0, 0, 0, 0, (⟨#[]⟩ : ByteArray), (⟨#[]⟩ : ByteArray)⟩ : impl_Node) ([y89, y92] : List (List impl_Node))).bind fun y95 => (some (y95, y93))))) else (some (([(⟨12, 0, 0, 0, 0, (⟨#[]⟩ : ByteArray), (⟨#[]⟩ : ByteArray)⟩ : impl_Node)] : List impl_Node), v83))) (fun j => if a2 > 0 then ((spec_l1Once.f K y45 3).bind fun (y85, y86) => (j ((!y85), y86))) else (j (false, y45)))) else ((r_spec_l3Gen y45 0 (w64 (a2 - 1)) a3 a4).bind fun (y97, y98) => ((spec_l3Make.f K (⟨15, 0, 0, 0, 0, (⟨#[]⟩ : ByteArray), (⟨#[]⟩ : ByteArray)⟩ : impl_Node) ([y97] : List (List impl_Node))).bind fun y100 => (some (y100, y98)))))))))) (fun j => if a2 > 0 then ((spec_l1Once.f K v22 3).bind fun (y37, y38) => (j (y37, y38))) else (j (false, v22))))) (fun j => if (v1.length : Int) > 0 then (if a2 ≤ 0 then (j (true, a0)) else ((spec_l1Once.f K a0 3).bind fun (y25, y26) => (j (y25, y26)))) else (j (false, a0)))) (fun j => (spec_l3Gen.l0 a1 a3 a4 K K 0 ([] : List ByteArray)).bind fun (v4 : List ByteArray) => j v4)
theorem spec_l3Gen.b_ev {r_spec_l3Gen : spec_l1Cur → Int → Int → (List ByteArray) → (List Int) → Option (List impl_Node × spec_l1Cur)} (hr_spec_l3Gen : ∀ {a0 : spec_l1Cur} {a1 : Int} {a2 : Int} {a3 : List ByteArray} {a4 : List Int} {r : List impl_Node × spec_l1Cur}, r_spec_l3Gen a0 a1 a2 a3 a4 = some r → E 118 [(.ptr [(.d (.l true 1 (a0.b.map eY))), (.d (.p (.int .i64 a0.i))), (.d (.p (.int .i64 a0.h_)))]), (.d (.p (.int .i64 a1))), (.d (.p (.int .i64 a2))), (.d (.l true 1 (a3.map eS))), (.d (.l true 1 (a4.map eI)))] = some ([(.own true 7 (r.1.map impl_Node.e))], [(.ptr [(.d (.l true 1 (r.2.b.map eY))), (.d (.p (.int .i64 r.2.i))), (.d (.p (.int .i64 r.2.h_)))])])) {K : Nat} {a0 : spec_l1Cur} {a1 : Int} {a2 : Int} {a3 : List ByteArray} {a4 : List Int} {r : List impl_Node × spec_l1Cur} (h : spec_l3Gen.b r_spec_l3Gen K a0 a1 a2 a3 a4 = some r) : E 118 [(.ptr [(.d (.l true 1 (a0.b.map eY))), (.d (.p (.int .i64 a0.i))), (.d (.p (.int .i64 a0.h_)))]), (.d (.p (.int .i64 a1))), (.d (.p (.int .i64 a2))), (.d (.l true 1 (a3.map eS))), (.d (.l true 1 (a4.map eI)))] = some ([(.own true 7 (r.1.map impl_Node.e))], [(.ptr [(.d (.l true 1 (r.2.b.map eY))), (.d (.p (.int .i64 r.2.i))), (.d (.p (.int .i64 r.2.h_)))])]) := by
  refine Ev_intro (fn := Tryd.f118) rfl (by kernel_rfl) (c := _) rfl ⟨rfl, by simp⟩ rfl (evP_spec _ ?_)
  unfold spec_l3Gen.b at h
  refine eqM (([] : List ByteArray).map eS) rfl ?_
  refine seqJ h 183 (fun x => [(0, (.ptr 183 0 1 0)), (1, (.d (.p (.int .i64 a1)))), (2, (.d (.p (.int .i64 a2)))), (3, (.d (.l true 1 (a3.map eS)))), (4, (.d (.l true 1 (a4.map eI)))), (11, (.own 11 1 2))]) (fun x => [(11, 1, 2, (some (.row true true 1 (x.map eS)))), (183, 0, 1, (some (.box [(.d (.l true 1 (a0.b.map eY))), (.d (.p (.int .i64 a0.i))), (.d (.p (.int .i64 a0.h_)))])))]) (fun J h => ?_) ?_
  · refine loopX (α := Int × List ByteArray) (a := (0, ([] : List ByteArray))) 183 (fun x => [(0, (.ptr 183 0 1 0)), (1, (.d (.p (.int .i64 a1)))), (2, (.d (.p (.int .i64 a2)))), (3, (.d (.l true 1 (a3.map eS)))), (4, (.d (.l true 1 (a4.map eI)))), (11, (.own 11 1 2)), (12, (.d (.p (.int .i64 x.1))))]) (fun x => [(11, 1, 2, (some (.row true true 1 (x.2.map eS)))), (183, 0, 1, (some (.box [(.d (.l true 1 (a0.b.map eY))), (.d (.p (.int .i64 a0.i))), (.d (.p (.int .i64 a0.h_)))])))]) (fun k x => spec_l3Gen.l0 a1 a3 a4 K k x.1 x.2) 0 (fun x => [(0, (.ptr 183 0 1 0)), (1, (.d (.p (.int .i64 a1)))), (2, (.d (.p (.int .i64 a2)))), (3, (.d (.l true 1 (a3.map eS)))), (4, (.d (.l true 1 (a4.map eI)))), (11, (.own 11 1 2))]) (fun x => [(11, 1, 2, (some (.row true true 1 (x.map eS)))), (183, 0, 1, (some (.box [(.d (.l true 1 (a0.b.map eY))), (.d (.p (.int .i64 a0.i))), (.d (.p (.int .i64 a0.h_)))])))]) h (fun _ => rfl) ?_ ⟨rfl, ⟨rfl, rfl, rfl, rfl, rfl, rfl, rfl, trivial⟩, ⟨rfl, rfl, trivial⟩⟩ ?_
    · rintro k ⟨v2, v3⟩ r h e hp
      replace h : spec_l3Gen.l0 a1 a3 a4 K (k + 1) v2 v3 = some r := h
      unfold spec_l3Gen.l0 at h
      refine goS ?_
      refine eqM ((a3.length : Int) : Int) (mLen rfl) ?_
      refine iteF h (fun c5 h => ?_) (fun c5 h => ?_)
      · refine seqJ h 183 (fun x => [(0, (.ptr 183 0 1 0)), (1, (.d (.p (.int .i64 a1)))), (2, (.d (.p (.int .i64 a2)))), (3, (.d (.l true 1 (a3.map eS)))), (4, (.d (.l true 1 (a4.map eI)))), (11, (.own 11 1 2)), (12, (.d (.p (.int .i64 v2))))]) (fun x => [(11, 1, 2, (some (.row true true 1 (x.map eS)))), (183, 0, 1, (some (.box [(.d (.l true 1 (a0.b.map eY))), (.d (.p (.int .i64 a0.i))), (.d (.p (.int .i64 a0.h_)))])))]) (fun J h => ?_) ?_
        · refine seqJ h 183 (fun x => [(0, (.ptr 183 0 1 0)), (1, (.d (.p (.int .i64 a1)))), (2, (.d (.p (.int .i64 a2)))), (3, (.d (.l true 1 (a3.map eS)))), (4, (.d (.l true 1 (a4.map eI)))), (11, (.own 11 1 2)), (12, (.d (.p (.int .i64 v2)))), (13, (.d (.p (.bool x))))]) (fun x => [(11, 1, 2, (some (.row true true 1 (v3.map eS)))), (183, 0, 1, (some (.box [(.d (.l true 1 (a0.b.map eY))), (.d (.p (.int .i64 a0.i))), (.d (.p (.int .i64 a0.h_)))])))]) (fun J h => ?_) ?_
          · refine loopX (α := Bool × Int) (a := (true, (w64 (v2 + 1)))) 183 (fun x => [(0, (.ptr 183 0 1 0)), (1, (.d (.p (.int .i64 a1)))), (2, (.d (.p (.int .i64 a2)))), (3, (.d (.l true 1 (a3.map eS)))), (4, (.d (.l true 1 (a4.map eI)))), (11, (.own 11 1 2)), (12, (.d (.p (.int .i64 v2)))), (13, (.d (.p (.bool x.1)))), (14, (.d (.p (.int .i64 x.2))))]) (fun x => [(11, 1, 2, (some (.row true true 1 (v3.map eS)))), (183, 0, 1, (some (.box [(.d (.l true 1 (a0.b.map eY))), (.d (.p (.int .i64 a0.i))), (.d (.p (.int .i64 a0.h_)))])))]) (fun k x => spec_l3Gen.l1 a3 v2 K k x.1 x.2) 2 (fun x => [(0, (.ptr 183 0 1 0)), (1, (.d (.p (.int .i64 a1)))), (2, (.d (.p (.int .i64 a2)))), (3, (.d (.l true 1 (a3.map eS)))), (4, (.d (.l true 1 (a4.map eI)))), (11, (.own 11 1 2)), (12, (.d (.p (.int .i64 v2)))), (13, (.d (.p (.bool x))))]) (fun x => [(11, 1, 2, (some (.row true true 1 (v3.map eS)))), (183, 0, 1, (some (.box [(.d (.l true 1 (a0.b.map eY))), (.d (.p (.int .i64 a0.i))), (.d (.p (.int .i64 a0.h_)))])))]) h (fun _ => rfl) ?_ ⟨rfl, ⟨rfl, rfl, rfl, rfl, rfl, rfl, rfl, rfl, rfl, trivial⟩, ⟨rfl, rfl, trivial⟩⟩ ?_
            · rintro k ⟨v8, v9⟩ r h e hp
              replace h : spec_l3Gen.l1 a3 v2 K (k + 1) v8 v9 = some r := h
              unfold spec_l3Gen.l1 at h
              refine goS ?_
              refine eqM ((a3.length : Int) : Int) (mLen rfl) ?_
              refine iteF h (fun c11 h => ?_) (fun c11 h => ?_)
              · refine seqJ h 183 (fun x => [(0, (.ptr 183 0 1 0)), (1, (.d (.p (.int .i64 a1)))), (2, (.d (.p (.int .i64 a2)))), (3, (.d (.l true 1 (a3.map eS)))), (4, (.d (.l true 1 (a4.map eI)))), (11, (.own 11 1 2)), (12, (.d (.p (.int .i64 v2)))), (13, (.d (.p (.bool x)))), (14, (.d (.p (.int .i64 v9))))]) (fun x => [(11, 1, 2, (some (.row true true 1 (v3.map eS)))), (183, 0, 1, (some (.box [(.d (.l true 1 (a0.b.map eY))), (.d (.p (.int .i64 a0.i))), (.d (.p (.int .i64 a0.h_)))])))]) (fun J h => ?_) ?_
                · refine ⟨[[], [], [], [], [39, 40], [39, 40], [], [], [35, 36], [35, 36], [], [], []], [], by kernel_rfl, ?_⟩
                  refine ifB h (fun c13 h => ?_) (fun c13 h => ?_)
                  · refine Ask.T rfl ?_
                    refine Ask.T rfl ?_
                    refine bindG h fun x14 hx14 h => ?_
                    refine anM (at_ix rfl hx14) ?_
                    refine Ask.T rfl ?_
                    refine exM (eS x14) (at_get rfl hx14) ?_
                    refine Ask.T rfl ?_
                    refine Ask.T rfl ?_
                    refine Ask.T rfl ?_
                    refine bindG h fun x15 hx15 h => ?_
                    refine anM (at_ix rfl hx15) ?_
                    refine Ask.T rfl ?_
                    refine exM (eS x15) (at_get rfl hx15) ?_
                    refine Ask.T rfl ?_
                    refine Ask.T rfl ?_
                    exact ⟨(!(x14.toList == x15.toList)), h, ⟨rfl, ⟨rfl, rfl, rfl, rfl, rfl, rfl, rfl, rfl, rfl, trivial⟩, ⟨rfl, rfl, trivial⟩⟩⟩
                  · refine Ask.F rfl ?_
                    refine Ask.F rfl ?_
                    refine Ask.F rfl ?_
                    refine Ask.F rfl ?_
                    refine Ask.F rfl ?_
                    refine Ask.F rfl ?_
                    refine Ask.F rfl ?_
                    refine Ask.F rfl ?_
                    refine Ask.F rfl ?_
                    exact ⟨false, h, ⟨rfl, ⟨rfl, rfl, rfl, rfl, rfl, rfl, rfl, rfl, rfl, trivial⟩, ⟨rfl, rfl, trivial⟩⟩⟩
                · rintro v12 h e hp
                  exact ⟨(v12, (w64 (v9 + 1))), h, ⟨rfl, ⟨rfl, rfl, rfl, rfl, rfl, rfl, rfl, rfl, rfl, trivial⟩, ⟨rfl, rfl, trivial⟩⟩⟩
              · refine exQ h ?_
                exact ⟨rfl, ⟨rfl, rfl, rfl, rfl, rfl, rfl, rfl, rfl, trivial⟩, ⟨rfl, rfl, trivial⟩⟩
            · rintro v10 S' h ⟨qn, ⟨qa0, qa1, qa2, qa3, qa4, qa5, qa6, qa7, _⟩, ⟨qb0, qb1, _⟩⟩
              exact ⟨v10, h, ⟨qn, ⟨qa0, qa1, qa2, qa3, qa4, qa5, qa6, qa7, trivial⟩, ⟨qb0, qb1, trivial⟩⟩⟩
          · rintro v7 h e hp
            refine seqJ h 183 (fun x => [(0, (.ptr 183 0 1 0)), (1, (.d (.p (.int .i64 a1)))), (2, (.d (.p (.int .i64 a2)))), (3, (.d (.l true 1 (a3.map eS)))), (4, (.d (.l true 1 (a4.map eI)))), (11, (.own 11 1 2)), (12, (.d (.p (.int .i64 v2)))), (51, (.d (.p (.bool x))))]) (fun x => [(11, 1, 2, (some (.row true true 1 (v3.map eS)))), (183, 0, 1, (some (.box [(.d (.l true 1 (a0.b.map eY))), (.d (.p (.int .i64 a0.i))), (.d (.p (.int .i64 a0.h_)))])))]) (fun J h => ?_) ?_
            · try ((with_reducible apply cdX); exact rfl)
              refine ifB h (fun c17 h => ?_) (fun c17 h => ?_)
              · refine Ask.T rfl ?_
                refine Ask.T rfl ?_
                refine bindG h fun x18 hx18 h => ?_
                refine anM (at_ix rfl hx18) ?_
                refine Ask.T rfl ?_
                refine exM (eI x18) (at_get rfl hx18) ?_
                refine Ask.T rfl ?_
                refine Ask.T rfl ?_
                refine Ask.T rfl ?_
                exact ⟨(decide (x18 = a1)), h, ⟨rfl, ⟨rfl, rfl, rfl, rfl, rfl, rfl, rfl, rfl, trivial⟩, ⟨rfl, rfl, trivial⟩⟩⟩
              · refine Ask.F rfl ?_
                refine Ask.F rfl ?_
                refine Ask.F rfl ?_
                refine Ask.F rfl ?_
                refine Ask.F rfl ?_
                refine Ask.F rfl ?_
                exact ⟨false, h, ⟨rfl, ⟨rfl, rfl, rfl, rfl, rfl, rfl, rfl, rfl, trivial⟩, ⟨rfl, rfl, trivial⟩⟩⟩
            · rintro v16 h e hp
              try ((with_reducible apply cdX); exact rfl)
              refine ifB h (fun c19 h => ?_) (fun c19 h => ?_)
              · refine bindG h fun x20 hx20 h => ?_
                refine anM (at_ix rfl hx20) ?_
                refine exM (eS x20) (at_get rfl hx20) ?_
                refine eqM (([x20] : List ByteArray).map eS) rfl ?_
                refine gdG h fun hc h => ?_
                refine anM (apB hc) ?_
                refine eqM ((v3 ++ ([x20] : List ByteArray)).map eS) (mApp rfl rfl) ?_
                exact ⟨(v3 ++ ([x20] : List ByteArray)), h, ⟨rfl, ⟨rfl, rfl, rfl, rfl, rfl, rfl, rfl, trivial⟩, ⟨rfl, rfl, trivial⟩⟩⟩
              · exact ⟨v3, h, ⟨rfl, ⟨rfl, rfl, rfl, rfl, rfl, rfl, rfl, trivial⟩, ⟨rfl, rfl, trivial⟩⟩⟩
        · rintro v6 h e hp
          exact ⟨((w64 (v2 + 1)), v6), h, ⟨rfl, ⟨rfl, rfl, rfl, rfl, rfl, rfl, rfl, trivial⟩, ⟨rfl, rfl, trivial⟩⟩⟩
      · refine exQ h ?_
        exact ⟨rfl, ⟨rfl, rfl, rfl, rfl, rfl, rfl, trivial⟩, ⟨rfl, rfl, trivial⟩⟩
    · rintro v4 S' h ⟨qn, ⟨qa0, qa1, qa2, qa3, qa4, qa5, _⟩, ⟨qb0, qb1, _⟩⟩
      exact ⟨v4, h, ⟨qn, ⟨qa0, qa1, qa2, qa3, qa4, qa5, trivial⟩, ⟨qb0, qb1, trivial⟩⟩⟩
  · rintro v1 h e hp
    refine goS ?_
    refine seqJ h 183 (fun x => [(0, (.ptr 183 0 1 0)), (1, (.d (.p (.int .i64 a1)))), (2, (.d (.p (.int .i64 a2)))), (3, (.d (.l true 1 (a3.map eS)))), (4, (.d (.l true 1 (a4.map eI)))), (11, (.own 11 1 2)), (69, (.d (.p (.bool x.1))))]) (fun x => [(11, 1, 2, (some (.row true true 1 (v1.map eS)))), (183, 0, 1, (some (.box [(.d (.l true 1 (x.2.b.map eY))), (.d (.p (.int .i64 x.2.i))), (.d (.p (.int .i64 x.2.h_)))])))]) (fun J h => ?_) ?_
    · refine eqM ((v1.length : Int) : Int) (mLen rfl) ?_
      refine iteF h (fun c23 h => ?_) (fun c23 h => ?_)
      · refine Ask.T rfl ?_
        refine Ask.T rfl ?_
        refine iteF h (fun c24 h => ?_) (fun c24 h => ?_)
        · refine Ask.T rfl ?_
          refine Ask.T rfl ?_
          refine Ask.T rfl ?_
          refine Ask.T rfl ?_
          exact ⟨(true, a0), h, ⟨rfl, ⟨rfl, rfl, rfl, rfl, rfl, rfl, rfl, trivial⟩, ⟨rfl, rfl, trivial⟩⟩⟩
        · refine Ask.F rfl ?_
          refine bindG h ?_
          rintro ⟨y25, y26⟩ hy27 h
          refine exM ([(.d (.p (.bool y25)))], [(.ptr [(.d (.l true 1 (y26.b.map eY))), (.d (.p (.int .i64 y26.i))), (.d (.p (.int .i64 y26.h_)))])]) ?_ ?_
          · exact spec_l1Once.ev hy27
          refine Ask.T rfl ?_
          refine Ask.F rfl ?_
          refine Ask.T rfl ?_
          exact ⟨(y25, y26), h, ⟨rfl, ⟨rfl, rfl, rfl, rfl, rfl, rfl, rfl, trivial⟩, ⟨rfl, rfl, trivial⟩⟩⟩
      · refine Ask.F rfl ?_
        refine Ask.F rfl ?_
        refine Ask.F rfl ?_
        refine Ask.F rfl ?_
        exact ⟨(false, a0), h, ⟨rfl, ⟨rfl, rfl, rfl, rfl, rfl, rfl, rfl, trivial⟩, ⟨rfl, rfl, trivial⟩⟩⟩
    · rintro ⟨v21, v22⟩ h e hp
      try ((with_reducible apply cdX); exact rfl)
      refine ifB h (fun c28 h => ?_) (fun c28 h => ?_)
      · refine bindG h ?_
        rintro ⟨y29, y30⟩ hy31 h
        refine exM ([(.d (.p (.string y29)))], [(.ptr [(.d (.l true 1 (y30.b.map eY))), (.d (.p (.int .i64 y30.i))), (.d (.p (.int .i64 y30.h_)))])]) ?_ ?_
        · exact spec_l1Pick.ev hy31
        refine bindG h fun y32 hy33 h => ?_
        refine exM ([(.own true 7 (y32.map impl_Node.e))], []) ?_ ?_
        · exact spec_l3Var.ev hy33
        exact retE (enc := spec_l3Gen.enc) h rfl
      · refine goS ?_
        refine seqJ h 183 (fun x => [(0, (.ptr 183 0 1 0)), (1, (.d (.p (.int .i64 a1)))), (2, (.d (.p (.int .i64 a2)))), (3, (.d (.l true 1 (a3.map eS)))), (4, (.d (.l true 1 (a4.map eI)))), (79, (.d (.p (.bool x.1))))]) (fun x => [(183, 0, 1, (some (.box [(.d (.l true 1 (x.2.b.map eY))), (.d (.p (.int .i64 x.2.i))), (.d (.p (.int .i64 x.2.h_)))])))]) (fun J h => ?_) ?_
        · try ((with_reducible apply cdX); exact rfl)
          refine iteF h (fun c36 h => ?_) (fun c36 h => ?_)
          · refine Ask.T rfl ?_
            refine bindG h ?_
            rintro ⟨y37, y38⟩ hy39 h
            refine exM ([(.d (.p (.bool y37)))], [(.ptr [(.d (.l true 1 (y38.b.map eY))), (.d (.p (.int .i64 y38.i))), (.d (.p (.int .i64 y38.h_)))])]) ?_ ?_
            · exact spec_l1Once.ev hy39
            refine Ask.T rfl ?_
            exact ⟨(y37, y38), h, ⟨rfl, ⟨rfl, rfl, rfl, rfl, rfl, rfl, trivial⟩, ⟨rfl, trivial⟩⟩⟩
          · refine Ask.F rfl ?_
            refine Ask.F rfl ?_
            exact ⟨(false, v22), h, ⟨rfl, ⟨rfl, rfl, rfl, rfl, rfl, rfl, trivial⟩, ⟨rfl, trivial⟩⟩⟩
        · rintro ⟨v34, v35⟩ h e hp
          try ((with_reducible apply cdX); exact rfl)
          refine ifB h (fun c40 h => ?_) (fun c40 h => ?_)
          · refine bindG h ?_
            rintro ⟨y41, y42⟩ hy43 h
            refine exM ([(.own true 7 (y41.map impl_Node.e))], [(.ptr [(.d (.l true 1 (y42.b.map eY))), (.d (.p (.int .i64 y42.i))), (.d (.p (.int .i64 y42.h_)))])]) ?_ ?_
            · exact spec_l3Any.b_ev hr_spec_l3Gen hy43
            exact retE (enc := spec_l3Gen.enc) h rfl
          · refine eqM (([(⟨#[120]⟩ : ByteArray), (⟨#[121]⟩ : ByteArray), (⟨#[122]⟩ : ByteArray), (⟨#[102]⟩ : ByteArray), (⟨#[103]⟩ : ByteArray)] : List ByteArray).map eS) rfl ?_
            refine bindG h ?_
            rintro ⟨y44, y45⟩ hy46 h
            refine exM ([(.d (.p (.string y44)))], [(.ptr [(.d (.l true 1 (y45.b.map eY))), (.d (.p (.int .i64 y45.i))), (.d (.p (.int .i64 y45.h_)))])]) ?_ ?_
            · exact spec_l1Pick.ev hy46
            refine goS ?_
            try ((with_reducible apply cdX); exact rfl)
            refine iteF h (fun c47 h => ?_) (fun c47 h => ?_)
            · refine goS ?_
              refine seqJ h 183 (fun x => [(0, (.ptr 183 0 1 0)), (2, (.d (.p (.int .i64 a2)))), (3, (.d (.l true 1 (a3.map eS)))), (4, (.d (.l true 1 (a4.map eI)))), (98, (.d (.p (.bool x.1))))]) (fun x => [(183, 0, 1, (some (.box [(.d (.l true 1 (x.2.b.map eY))), (.d (.p (.int .i64 x.2.i))), (.d (.p (.int .i64 x.2.h_)))])))]) (fun J h => ?_) ?_
              · try ((with_reducible apply cdX); exact rfl)
                refine iteF h (fun c50 h => ?_) (fun c50 h => ?_)
                · refine Ask.T rfl ?_
                  refine bindG h ?_
                  rintro ⟨y51, y52⟩ hy53 h
                  refine exM ([(.d (.p (.bool y51)))], [(.ptr [(.d (.l true 1 (y52.b.map eY))), (.d (.p (.int .i64 y52.i))), (.d (.p (.int .i64 y52.h_)))])]) ?_ ?_
                  · exact spec_l1Once.ev hy53
                  refine Ask.T rfl ?_
                  refine Ask.T rfl ?_
                  exact ⟨((!y51), y52), h, ⟨rfl, ⟨rfl, rfl, rfl, rfl, rfl, trivial⟩, ⟨rfl, trivial⟩⟩⟩
                · refine Ask.F rfl ?_
                  refine Ask.F rfl ?_
                  refine Ask.F rfl ?_
                  exact ⟨(false, y45), h, ⟨rfl, ⟨rfl, rfl, rfl, rfl, rfl, trivial⟩, ⟨rfl, trivial⟩⟩⟩
              · rintro ⟨v48, v49⟩ h e hp
                try ((with_reducible apply cdX); exact rfl)
                refine ifB h (fun c54 h => ?_) (fun c54 h => ?_)
                · refine bindG h ?_
                  rintro ⟨y55, y56⟩ hy57 h
                  refine exM ([(.own true 7 (y55.map impl_Node.e))], [(.ptr [(.d (.l true 1 (y56.b.map eY))), (.d (.p (.int .i64 y56.i))), (.d (.p (.int .i64 y56.h_)))])]) ?_ ?_
                  · exact spec_l3Num.b_ev hr_spec_l3Gen hy57
                  exact retE (enc := spec_l3Gen.enc) h rfl
                · refine bindG h ?_
                  rintro ⟨y58, y59⟩ hy60 h
                  refine exM ([(.d (.p (.int .i64 y58)))], [(.ptr [(.d (.l true 1 (y59.b.map eY))), (.d (.p (.int .i64 y59.i))), (.d (.p (.int .i64 y59.h_)))])]) ?_ ?_
                  · exact spec_l1Below.ev hy60
                  refine eqM (([0, 1, 2, 3, 7, 65535, y58] : List Int).map eI) rfl ?_
                  refine bindG h ?_
                  rintro ⟨y61, y62⟩ hy63 h
                  refine exM ([(.d (.p (.int .i64 y61)))], [(.ptr [(.d (.l true 1 (y62.b.map eY))), (.d (.p (.int .i64 y62.i))), (.d (.p (.int .i64 y62.h_)))])]) ?_ ?_
                  · exact spec_l1PickInt.ev hy63
                  refine bindG h fun y64 hy65 h => ?_
                  refine exM ([(.own true 7 (y64.map impl_Node.e))], []) ?_ ?_
                  · exact spec_l3Int.ev hy65
                  exact retE (enc := spec_l3Gen.enc) h rfl
            · try ((with_reducible apply cdX); exact rfl)
              refine iteF h (fun c66 h => ?_) (fun c66 h => ?_)
              · refine eqM (([] : List ByteArray).map eS) rfl ?_
                refine gdG h fun hc h => ?_
                refine anM (apB hc) ?_
                refine eqM ((([] : List ByteArray) ++ a3).map eS) (mApp rfl rfl) ?_
                refine eqM (([y44] : List ByteArray).map eS) rfl ?_
                refine gdG h fun hc h => ?_
                refine anM (apB hc) ?_
                refine eqM (((([] : List ByteArray) ++ a3) ++ ([y44] : List ByteArray)).map eS) (mApp rfl rfl) ?_
                refine eqM (([] : List Int).map eI) rfl ?_
                refine gdG h fun hc h => ?_
                refine anM (apB hc) ?_
                refine eqM ((([] : List Int) ++ a4).map eI) (mApp rfl rfl) ?_
                refine eqM (([0] : List Int).map eI) rfl ?_
                refine gdG h fun hc h => ?_
                refine anM (apB hc) ?_
                refine eqM (((([] : List Int) ++ a4) ++ ([0] : List Int)).map eI) (mApp rfl rfl) ?_
                refine bindG h ?_
                rintro ⟨y67, y68⟩ hy69 h
                refine exM ([(.own true 7 (y67.map impl_Node.e))], [(.ptr [(.d (.l true 1 (y68.b.map eY))), (.d (.p (.int .i64 y68.i))), (.d (.p (.int .i64 y68.h_)))])]) ?_ ?_
                · exact hr_spec_l3Gen hy69
                refine eqM (([y67] : List (List impl_Node)).map (eL true 7 impl_Node.e)) rfl ?_
                refine bindG h fun y70 hy71 h => ?_
                refine exM ([(.own true 7 (y70.map impl_Node.e))], []) ?_ ?_
                · exact spec_l3Make.ev hy71
                exact retE (enc := spec_l3Gen.enc) h rfl
              · try ((with_reducible apply cdX); exact rfl)
                refine iteF h (fun c72 h => ?_) (fun c72 h => ?_)
                · refine bindG h ?_
                  rintro ⟨y73, y74⟩ hy75 h
                  refine exM ([(.own true 7 (y73.map impl_Node.e))], [(.ptr [(.d (.l true 1 (y74.b.map eY))), (.d (.p (.int .i64 y74.i))), (.d (.p (.int .i64 y74.h_)))])]) ?_ ?_
                  · exact hr_spec_l3Gen hy75
                  refine bindG h ?_
                  rintro ⟨y76, y77⟩ hy78 h
                  refine exM ([(.own true 7 (y76.map impl_Node.e))], [(.ptr [(.d (.l true 1 (y77.b.map eY))), (.d (.p (.int .i64 y77.i))), (.d (.p (.int .i64 y77.h_)))])]) ?_ ?_
                  · exact hr_spec_l3Gen hy78
                  refine eqM (([y73, y76] : List (List impl_Node)).map (eL true 7 impl_Node.e)) rfl ?_
                  refine bindG h fun y79 hy80 h => ?_
                  refine exM ([(.own true 7 (y79.map impl_Node.e))], []) ?_ ?_
                  · exact spec_l3Make.ev hy80
                  exact retE (enc := spec_l3Gen.enc) h rfl
                · try ((with_reducible apply cdX); exact rfl)
                  refine iteF h (fun c81 h => ?_) (fun c81 h => ?_)
                  · refine goS ?_
                    refine seqJ h 183 (fun x => [(0, (.ptr 183 0 1 0)), (2, (.d (.p (.int .i64 a2)))), (3, (.d (.l true 1 (a3.map eS)))), (4, (.d (.l true 1 (a4.map eI)))), (156, (.d (.p (.bool x.1))))]) (fun x => [(183, 0, 1, (some (.box [(.d (.l true 1 (x.2.b.map eY))), (.d (.p (.int .i64 x.2.i))), (.d (.p (.int .i64 x.2.h_)))])))]) (fun J h => ?_) ?_
                    · try ((with_reducible apply cdX); exact rfl)
                      refine iteF h (fun c84 h => ?_) (fun c84 h => ?_)
                      · refine Ask.T rfl ?_
                        refine bindG h ?_
                        rintro ⟨y85, y86⟩ hy87 h
                        refine exM ([(.d (.p (.bool y85)))], [(.ptr [(.d (.l true 1 (y86.b.map eY))), (.d (.p (.int .i64 y86.i))), (.d (.p (.int .i64 y86.h_)))])]) ?_ ?_
                        · exact spec_l1Once.ev hy87
                        refine Ask.T rfl ?_
                        refine Ask.T rfl ?_
                        exact ⟨((!y85), y86), h, ⟨rfl, ⟨rfl, rfl, rfl, rfl, rfl, trivial⟩, ⟨rfl, trivial⟩⟩⟩
                      · refine Ask.F rfl ?_
                        refine Ask.F rfl ?_
                        refine Ask.F rfl ?_
                        exact ⟨(false, y45), h, ⟨rfl, ⟨rfl, rfl, rfl, rfl, rfl, trivial⟩, ⟨rfl, trivial⟩⟩⟩
                    · rintro ⟨v82, v83⟩ h e hp
                      try ((with_reducible apply cdX); exact rfl)
                      refine ifB h (fun c88 h => ?_) (fun c88 h => ?_)
                      · refine bindG h ?_
                        rintro ⟨y89, y90⟩ hy91 h
                        refine exM ([(.own true 7 (y89.map impl_Node.e))], [(.ptr [(.d (.l true 1 (y90.b.map eY))), (.d (.p (.int .i64 y90.i))), (.d (.p (.int .i64 y90.h_)))])]) ?_ ?_
                        · exact hr_spec_l3Gen hy91
                        refine bindG h ?_
                        rintro ⟨y92, y93⟩ hy94 h
                        refine exM ([(.own true 7 (y92.map impl_Node.e))], [(.ptr [(.d (.l true 1 (y93.b.map eY))), (.d (.p (.int .i64 y93.i))), (.d (.p (.int .i64 y93.h_)))])]) ?_ ?_
                        · exact hr_spec_l3Gen hy94
                        refine eqM (([y89, y92] : List (List impl_Node)).map (eL true 7 impl_Node.e)) rfl ?_
                        refine bindG h fun y95 hy96 h => ?_
                        refine exM ([(.own true 7 (y95.map impl_Node.e))], []) ?_ ?_
                        · exact spec_l3Make.ev hy96
                        exact retE (enc := spec_l3Gen.enc) h rfl
                      · refine eqM (([(⟨12, 0, 0, 0, 0, (⟨#[]⟩ : ByteArray), (⟨#[]⟩ : ByteArray)⟩ : impl_Node)] : List impl_Node).map impl_Node.e) rfl ?_
                        exact retE (enc := spec_l3Gen.enc) h rfl
                  · refine bindG h ?_
                    rintro ⟨y97, y98⟩ hy99 h
                    refine exM ([(.own true 7 (y97.map impl_Node.e))], [(.ptr [(.d (.l true 1 (y98.b.map eY))), (.d (.p (.int .i64 y98.i))), (.d (.p (.int .i64 y98.h_)))])]) ?_ ?_
                    · exact hr_spec_l3Gen hy99
                    refine eqM (([y97] : List (List impl_Node)).map (eL true 7 impl_Node.e)) rfl ?_
                    refine bindG h fun y100 hy101 h => ?_
                    refine exM ([(.own true 7 (y100.map impl_Node.e))], []) ?_ ?_
                    · exact spec_l3Make.ev hy101
                    exact retE (enc := spec_l3Gen.enc) h rfl
def spec_l3Gen.r (K : Nat) : Nat → spec_l1Cur → Int → Int → (List ByteArray) → (List Int) → Option (List impl_Node × spec_l1Cur)
  | 0, _, _, _, _, _ => none
  | d + 1, a0, a1, a2, a3, a4 => spec_l3Gen.b (spec_l3Gen.r K d) K a0 a1 a2 a3 a4
theorem spec_l3Gen.r_ev {K : Nat} : ∀ (d : Nat) {a0 : spec_l1Cur} {a1 : Int} {a2 : Int} {a3 : List ByteArray} {a4 : List Int} {r : List impl_Node × spec_l1Cur}, spec_l3Gen.r K d a0 a1 a2 a3 a4 = some r → E 118 [(.ptr [(.d (.l true 1 (a0.b.map eY))), (.d (.p (.int .i64 a0.i))), (.d (.p (.int .i64 a0.h_)))]), (.d (.p (.int .i64 a1))), (.d (.p (.int .i64 a2))), (.d (.l true 1 (a3.map eS))), (.d (.l true 1 (a4.map eI)))] = some ([(.own true 7 (r.1.map impl_Node.e))], [(.ptr [(.d (.l true 1 (r.2.b.map eY))), (.d (.p (.int .i64 r.2.i))), (.d (.p (.int .i64 r.2.h_)))])]) := by
  intro d
  induction d with
  | zero => intro a0 a1 a2 a3 a4 r h; cases h
  | succ d ih => intro a0 a1 a2 a3 a4 r h; exact spec_l3Gen.b_ev ih h
def spec_l3Gen.f (K : Nat) (a0 : spec_l1Cur) (a1 : Int) (a2 : Int) (a3 : List ByteArray) (a4 : List Int) : Option (List impl_Node × spec_l1Cur) := spec_l3Gen.r K K a0 a1 a2 a3 a4
theorem spec_l3Gen.ev {K : Nat} {a0 : spec_l1Cur} {a1 : Int} {a2 : Int} {a3 : List ByteArray} {a4 : List Int} {r : List impl_Node × spec_l1Cur} (h : spec_l3Gen.f K a0 a1 a2 a3 a4 = some r) : E 118 [(.ptr [(.d (.l true 1 (a0.b.map eY))), (.d (.p (.int .i64 a0.i))), (.d (.p (.int .i64 a0.h_)))]), (.d (.p (.int .i64 a1))), (.d (.p (.int .i64 a2))), (.d (.l true 1 (a3.map eS))), (.d (.l true 1 (a4.map eI)))] = some ([(.own true 7 (r.1.map impl_Node.e))], [(.ptr [(.d (.l true 1 (r.2.b.map eY))), (.d (.p (.int .i64 r.2.i))), (.d (.p (.int .i64 r.2.h_)))])]) := spec_l3Gen.r_ev K h
def spec_l3Prog.enc (r : List impl_Node × spec_l1Cur) : Res := ([(.own true 7 (r.1.map impl_Node.e))], [(.ptr [(.d (.l true 1 (r.2.b.map eY))), (.d (.p (.int .i64 r.2.i))), (.d (.p (.int .i64 r.2.h_)))])])
def spec_l3Prog.en (a0 : spec_l1Cur) (r : List impl_Node × spec_l1Cur) (S : St) : Prop := endV tb md 96 Tryd.f96 [(.ptr [(.d (.l true 1 (a0.b.map eY))), (.d (.p (.int .i64 a0.i))), (.d (.p (.int .i64 a0.h_)))])] .ret S = some (spec_l3Prog.enc r)
def spec_l3Prog.l0 (K : Nat) : Nat → Int → spec_l1Cur → Option ((List impl_Node × spec_l1Cur) ⊕ spec_l1Cur)
  | 0, _, _ => none
  | k + 1, v2, v3 => if v2 < 4 then ((spec_l1Below.f K v3 5).bind fun (y6, y7) => ((spec_l1Below.f K y7 3).bind fun (y9, y10) => ((spec_l3Gen.f K y10 y6 (w64 (2 + y9)) ([] : List ByteArray) ([] : List Int)).bind fun (y12, y13) => (if (y12.length : Int) ≤ 60 then (some (.inl (y12, y13))) else (spec_l3Prog.l0 K k (w64 (v2 + 1)) y13))))) else (some (.inr v3))
def spec_l3Prog.f  (K : Nat) (a0 : spec_l1Cur) : Option (List impl_Node × spec_l1Cur) := jn (fun (v1 : spec_l1Cur) => (spec_l3Int.f K 4).bind fun y16 => (some (y16, v1))) (fun j => lb (spec_l3Prog.l0 K K 0 a0) (fun r => some r) (fun (v4 : spec_l1Cur) => j v4))
theorem spec_l3Prog.ev   {K : Nat} {a0 : spec_l1Cur} {r : List impl_Node × spec_l1Cur} (h : spec_l3Prog.f  K a0 = some r) : E 96 [(.ptr [(.d (.l true 1 (a0.b.map eY))), (.d (.p (.int .i64 a0.i))), (.d (.p (.int .i64 a0.h_)))])] = some ([(.own true 7 (r.1.map impl_Node.e))], [(.ptr [(.d (.l true 1 (r.2.b.map eY))), (.d (.p (.int .i64 r.2.i))), (.d (.p (.int .i64 r.2.h_)))])]) := by
  refine Ev_intro (fn := Tryd.f96) rfl (by kernel_rfl) (c := _) rfl ⟨rfl, by simp⟩ rfl (evP_spec _ ?_)
  unfold spec_l3Prog.f at h
  refine seqJ h 23 (fun x => []) (fun x => [(23, 0, 1, (some (.box [(.d (.l true 1 (x.b.map eY))), (.d (.p (.int .i64 x.i))), (.d (.p (.int .i64 x.h_)))])))]) (fun J h => ?_) ?_
  · refine loopB (α := Int × spec_l1Cur) (a := (0, a0)) 23 (fun x => [(0, (.ptr 23 0 1 0)), (3, (.d (.p (.int .i64 x.1))))]) (fun x => [(23, 0, 1, (some (.box [(.d (.l true 1 (x.2.b.map eY))), (.d (.p (.int .i64 x.2.i))), (.d (.p (.int .i64 x.2.h_)))])))]) (fun k x => spec_l3Prog.l0 K k x.1 x.2) (spec_l3Prog.en a0) 0 (fun x => []) (fun x => [(23, 0, 1, (some (.box [(.d (.l true 1 (x.b.map eY))), (.d (.p (.int .i64 x.i))), (.d (.p (.int .i64 x.h_)))])))]) h (fun _ => rfl) ?_ ⟨rfl, ⟨rfl, rfl, trivial⟩, ⟨rfl, trivial⟩⟩ ?_ ?_
    · rintro k ⟨v2, v3⟩ r h e hp
      replace h : spec_l3Prog.l0 K (k + 1) v2 v3 = some r := h
      unfold spec_l3Prog.l0 at h
      refine goS ?_
      try ((with_reducible apply cdX); exact rfl)
      refine iteF h (fun c5 h => ?_) (fun c5 h => ?_)
      · refine goS ?_
        refine bindG h ?_
        rintro ⟨y6, y7⟩ hy8 h
        refine exM ([(.d (.p (.int .i64 y6)))], [(.ptr [(.d (.l true 1 (y7.b.map eY))), (.d (.p (.int .i64 y7.i))), (.d (.p (.int .i64 y7.h_)))])]) ?_ ?_
        · exact spec_l1Below.ev hy8
        refine bindG h ?_
        rintro ⟨y9, y10⟩ hy11 h
        refine exM ([(.d (.p (.int .i64 y9)))], [(.ptr [(.d (.l true 1 (y10.b.map eY))), (.d (.p (.int .i64 y10.i))), (.d (.p (.int .i64 y10.h_)))])]) ?_ ?_
        · exact spec_l1Below.ev hy11
        refine eqM (([] : List ByteArray).map eS) rfl ?_
        refine eqM (([] : List Int).map eI) rfl ?_
        refine bindG h ?_
        rintro ⟨y12, y13⟩ hy14 h
        refine exM ([(.own true 7 (y12.map impl_Node.e))], [(.ptr [(.d (.l true 1 (y13.b.map eY))), (.d (.p (.int .i64 y13.i))), (.d (.p (.int .i64 y13.h_)))])]) ?_ ?_
        · exact spec_l3Gen.ev hy14
        refine eqM ((y12.length : Int) : Int) (mLen rfl) ?_
        refine iteF h (fun c15 h => ?_) (fun c15 h => ?_)
        · exact lqL h rfl
        · exact ⟨((w64 (v2 + 1)), y13), h, ⟨rfl, ⟨rfl, rfl, trivial⟩, ⟨rfl, trivial⟩⟩⟩
      · refine lqR h ?_
        exact ⟨rfl, trivial, ⟨rfl, trivial⟩⟩
    · intro r' S' h q
      exact retE (enc := spec_l3Prog.enc) h q
    · rintro v4 S' h ⟨qn, ⟨_⟩, ⟨qb0, _⟩⟩
      exact ⟨v4, h, ⟨qn, trivial, ⟨qb0, trivial⟩⟩⟩
  · rintro v1 h e hp
    refine bindG h fun y16 hy17 h => ?_
    refine exM ([(.own true 7 (y16.map impl_Node.e))], []) ?_ ?_
    · exact spec_l3Int.ev hy17
    exact retE (enc := spec_l3Prog.enc) h rfl
def spec_l3Some.enc (r : List impl_Node × spec_l1Cur) : Res := ([(.own true 7 (r.1.map impl_Node.e))], [(.ptr [(.d (.l true 1 (r.2.b.map eY))), (.d (.p (.int .i64 r.2.i))), (.d (.p (.int .i64 r.2.h_)))])])
def spec_l3Some.f  (K : Nat) (a0 : spec_l1Cur) : Option (List impl_Node × spec_l1Cur) := (spec_l1Once.f K a0 3).bind fun (y1, y2) => (if y1 = true then ((spec_l3Loose.f K y2 3).bind fun (y5, y6) => (some (y5, y6))) else ((spec_l3Prog.f K y2).bind fun (y8, y9) => (some (y8, y9))))
theorem spec_l3Some.ev   {K : Nat} {a0 : spec_l1Cur} {r : List impl_Node × spec_l1Cur} (h : spec_l3Some.f  K a0 = some r) : E 62 [(.ptr [(.d (.l true 1 (a0.b.map eY))), (.d (.p (.int .i64 a0.i))), (.d (.p (.int .i64 a0.h_)))])] = some ([(.own true 7 (r.1.map impl_Node.e))], [(.ptr [(.d (.l true 1 (r.2.b.map eY))), (.d (.p (.int .i64 r.2.i))), (.d (.p (.int .i64 r.2.h_)))])]) := by
  refine Ev_intro (fn := Tryd.f62) rfl (by kernel_rfl) (c := _) rfl ⟨rfl, by simp⟩ rfl (evP_spec _ ?_)
  unfold spec_l3Some.f at h
  refine goS ?_
  refine bindG h ?_
  rintro ⟨y1, y2⟩ hy3 h
  refine exM ([(.d (.p (.bool y1)))], [(.ptr [(.d (.l true 1 (y2.b.map eY))), (.d (.p (.int .i64 y2.i))), (.d (.p (.int .i64 y2.h_)))])]) ?_ ?_
  · exact spec_l1Once.ev hy3
  refine ifB h (fun c4 h => ?_) (fun c4 h => ?_)
  · refine bindG h ?_
    rintro ⟨y5, y6⟩ hy7 h
    refine exM ([(.own true 7 (y5.map impl_Node.e))], [(.ptr [(.d (.l true 1 (y6.b.map eY))), (.d (.p (.int .i64 y6.i))), (.d (.p (.int .i64 y6.h_)))])]) ?_ ?_
    · exact spec_l3Loose.ev hy7
    exact retE (enc := spec_l3Some.enc) h rfl
  · refine bindG h ?_
    rintro ⟨y8, y9⟩ hy10 h
    refine exM ([(.own true 7 (y8.map impl_Node.e))], [(.ptr [(.d (.l true 1 (y9.b.map eY))), (.d (.p (.int .i64 y9.i))), (.d (.p (.int .i64 y9.h_)))])]) ?_ ?_
    · exact spec_l3Prog.ev hy10
    exact retE (enc := spec_l3Some.enc) h rfl
def spec_l3Bent.enc (r : List impl_Node × spec_l1Cur) : Res := ([(.own true 7 (r.1.map impl_Node.e))], [(.ptr [(.d (.l true 1 (r.2.b.map eY))), (.d (.p (.int .i64 r.2.i))), (.d (.p (.int .i64 r.2.h_)))])])
def spec_l3Bent.l0 (K : Nat) : Nat → spec_l1Cur → (List impl_Node) → Option (List impl_Node × spec_l1Cur)
  | 0, _, _ => none
  | k + 1, v36, v37 => (spec_l1Below.f K v36 2).bind fun (y40, y41) => (if (v37.length : Int) < (w64 (150 + y40)) then (gd ((v37.length + 1) * 72 ≤ 140737488355328) (spec_l3Bent.l0 K k y41 (v37 ++ ([(⟨10, (w64 ((v37.length : Int) - 1)), 0, 0, 0, (⟨#[]⟩ : ByteArray), (⟨#[]⟩ : ByteArray)⟩ : impl_Node)] : List impl_Node)))) else (some (v37, y41)))
def spec_l3Bent.f  (K : Nat) (a0 : spec_l1Cur) : Option (List impl_Node × spec_l1Cur) := (spec_l3Some.f K a0).bind fun (y1, y2) => (gd ((0 + y1.length) * 72 ≤ 140737488355328) ((spec_l1Below.f K y2 ((([] : List impl_Node) ++ y1).length : Int)).bind fun (y4, y5) => (jn (fun (v7, v8) => some (v7, v8)) (fun j => (spec_l1Below.f K y5 14).bind fun (y9, y10) => (if y9 = 0 then (gd (0 ≤ (0 : Int) ∧ (0 : Int) ≤ y4 ∧ y4 ≤ ((([] : List impl_Node) ++ y1).length : Int)) (some (((([] : List impl_Node) ++ y1).take (y4).toNat), y10))) else (if y9 = 1 then ((spec_l1PickInt.f K y10 ([0, 20, (-1), 2, 4] : List Int)).bind fun (y14, y15) => ((at_ (([] : List impl_Node) ++ y1) y4).bind fun x17 => (j (((([] : List impl_Node) ++ y1).set (y4).toNat (⟨y14, x17.A, x17.B, x17.C, x17.N, x17.Name, x17.Other⟩ : impl_Node)), y15)))) else (if y9 = 2 then ((spec_l1PickInt.f K y10 ([(-1), y4, 0, 99] : List Int)).bind fun (y19, y20) => ((at_ (([] : List impl_Node) ++ y1) y4).bind fun x22 => (j (((([] : List impl_Node) ++ y1).set (y4).toNat (⟨x22.Kind, y19, x22.B, x22.C, x22.N, x22.Name, x22.Other⟩ : impl_Node)), y20)))) else (if y9 = 3 then ((spec_l1Pick.f K y10 ([(⟨#[]⟩ : ByteArray), (⟨#[102, 117, 110]⟩ : ByteArray), (⟨#[88]⟩ : ByteArray), (⟨#[97, 98, 99, 100, 101, 102, 103, 104, 105]⟩ : ByteArray), (⟨#[113]⟩ : ByteArray)] : List ByteArray)).bind fun (y24, y25) => ((at_ (([] : List impl_Node) ++ y1) y4).bind fun x27 => (j (((([] : List impl_Node) ++ y1).set (y4).toNat (⟨x27.Kind, x27.A, x27.B, x27.C, x27.N, y24, x27.Other⟩ : impl_Node)), y25)))) else (if y9 = 4 then ((spec_l1PickInt.f K y10 ([(-1), 65536, 4, 1] : List Int)).bind fun (y29, y30) => ((at_ (([] : List impl_Node) ++ y1) y4).bind fun x32 => (j (((([] : List impl_Node) ++ y1).set (y4).toNat (⟨x32.Kind, x32.A, x32.B, x32.C, y29, x32.Name, x32.Other⟩ : impl_Node)), y30)))) else (if y9 = 5 then ((at_ (([] : List impl_Node) ++ y1) y4).bind fun x34 => (j (((([] : List impl_Node) ++ y1).set (y4).toNat (⟨x34.Kind, x34.A, x34.B, x34.C, x34.N, x34.Name, (⟨#[119]⟩ : ByteArray)⟩ : impl_Node)), y10))) else (if y9 = 6 then ((spec_l3Bent.l0 K K y10 (([] : List impl_Node) ++ y1)).bind fun (v38, v39) => j (v38, v39)) else (j ((([] : List impl_Node) ++ y1), y10)))))))))))))
theorem spec_l3Bent.ev   {K : Nat} {a0 : spec_l1Cur} {r : List impl_Node × spec_l1Cur} (h : spec_l3Bent.f  K a0 = some r) : E 35 [(.ptr [(.d (.l true 1 (a0.b.map eY))), (.d (.p (.int .i64 a0.i))), (.d (.p (.int .i64 a0.h_)))])] = some ([(.own true 7 (r.1.map impl_Node.e))], [(.ptr [(.d (.l true 1 (r.2.b.map eY))), (.d (.p (.int .i64 r.2.i))), (.d (.p (.int .i64 r.2.h_)))])]) := by
  refine Ev_intro (fn := Tryd.f35) rfl (by kernel_rfl) (c := _) rfl ⟨rfl, by simp⟩ rfl (evP_spec _ ?_)
  unfold spec_l3Bent.f at h
  refine eqM (([] : List impl_Node).map impl_Node.e) rfl ?_
  refine bindG h ?_
  rintro ⟨y1, y2⟩ hy3 h
  refine exM ([(.own true 7 (y1.map impl_Node.e))], [(.ptr [(.d (.l true 1 (y2.b.map eY))), (.d (.p (.int .i64 y2.i))), (.d (.p (.int .i64 y2.h_)))])]) ?_ ?_
  · exact spec_l3Some.ev hy3
  refine gdG h fun hc h => ?_
  refine anM (apB hc) ?_
  refine eqM ((([] : List impl_Node) ++ y1).map impl_Node.e) (mApp rfl rfl) ?_
  refine eqM (((([] : List impl_Node) ++ y1).length : Int) : Int) (mLen rfl) ?_
  refine bindG h ?_
  rintro ⟨y4, y5⟩ hy6 h
  refine exM ([(.d (.p (.int .i64 y4)))], [(.ptr [(.d (.l true 1 (y5.b.map eY))), (.d (.p (.int .i64 y5.i))), (.d (.p (.int .i64 y5.h_)))])]) ?_ ?_
  · exact spec_l1Below.ev hy6
  refine seqJ h 79 (fun x => [(3, (.own 3 1 2))]) (fun x => [(3, 1, 2, (some (.row true true 7 (x.1.map impl_Node.e)))), (79, 0, 1, (some (.box [(.d (.l true 1 (x.2.b.map eY))), (.d (.p (.int .i64 x.2.i))), (.d (.p (.int .i64 x.2.h_)))])))]) (fun J h => ?_) ?_
  · refine bindG h ?_
    rintro ⟨y9, y10⟩ hy11 h
    refine exM ([(.d (.p (.int .i64 y9)))], [(.ptr [(.d (.l true 1 (y10.b.map eY))), (.d (.p (.int .i64 y10.i))), (.d (.p (.int .i64 y10.h_)))])]) ?_ ?_
    · exact spec_l1Below.ev hy11
    refine iteF h (fun c12 h => ?_) (fun c12 h => ?_)
    · refine gdG h fun hc h => ?_
      refine anM (slB hc) ?_
      refine eqM (((([] : List impl_Node) ++ y1).take (y4).toNat).map impl_Node.e) (mTake rfl) ?_
      exact retE (enc := spec_l3Bent.enc) h rfl
    · try ((with_reducible apply cdX); exact rfl)
      refine iteF h (fun c13 h => ?_) (fun c13 h => ?_)
      · refine eqM (([0, 20, (-1), 2, 4] : List Int).map eI) rfl ?_
        refine bindG h ?_
        rintro ⟨y14, y15⟩ hy16 h
        refine exM ([(.d (.p (.int .i64 y14)))], [(.ptr [(.d (.l true 1 (y15.b.map eY))), (.d (.p (.int .i64 y15.i))), (.d (.p (.int .i64 y15.h_)))])]) ?_ ?_
        · exact spec_l1PickInt.ev hy16
        refine bindG h fun x17 hx17 h => ?_
        refine anM (at_ix rfl hx17) ?_
        refine anM (at_lt rfl hx17) ?_
        refine exM (impl_Node.e x17) (at_get rfl hx17) ?_
        refine eqM (((([] : List impl_Node) ++ y1).set (y4).toNat (⟨y14, x17.A, x17.B, x17.C, x17.N, x17.Name, x17.Other⟩ : impl_Node)).map impl_Node.e) (mSet rfl rfl) ?_
        exact ⟨(((([] : List impl_Node) ++ y1).set (y4).toNat (⟨y14, x17.A, x17.B, x17.C, x17.N, x17.Name, x17.Other⟩ : impl_Node)), y15), h, ⟨rfl, ⟨rfl, trivial⟩, ⟨rfl, rfl, trivial⟩⟩⟩
      · try ((with_reducible apply cdX); exact rfl)
        refine iteF h (fun c18 h => ?_) (fun c18 h => ?_)
        · refine eqM (([(-1), y4, 0, 99] : List Int).map eI) rfl ?_
          refine bindG h ?_
          rintro ⟨y19, y20⟩ hy21 h
          refine exM ([(.d (.p (.int .i64 y19)))], [(.ptr [(.d (.l true 1 (y20.b.map eY))), (.d (.p (.int .i64 y20.i))), (.d (.p (.int .i64 y20.h_)))])]) ?_ ?_
          · exact spec_l1PickInt.ev hy21
          refine bindG h fun x22 hx22 h => ?_
          refine anM (at_ix rfl hx22) ?_
          refine anM (at_lt rfl hx22) ?_
          refine exM (impl_Node.e x22) (at_get rfl hx22) ?_
          refine eqM (((([] : List impl_Node) ++ y1).set (y4).toNat (⟨x22.Kind, y19, x22.B, x22.C, x22.N, x22.Name, x22.Other⟩ : impl_Node)).map impl_Node.e) (mSet rfl rfl) ?_
          exact ⟨(((([] : List impl_Node) ++ y1).set (y4).toNat (⟨x22.Kind, y19, x22.B, x22.C, x22.N, x22.Name, x22.Other⟩ : impl_Node)), y20), h, ⟨rfl, ⟨rfl, trivial⟩, ⟨rfl, rfl, trivial⟩⟩⟩
        · try ((with_reducible apply cdX); exact rfl)
          refine iteF h (fun c23 h => ?_) (fun c23 h => ?_)
          · refine eqM (([(⟨#[]⟩ : ByteArray), (⟨#[102, 117, 110]⟩ : ByteArray), (⟨#[88]⟩ : ByteArray), (⟨#[97, 98, 99, 100, 101, 102, 103, 104, 105]⟩ : ByteArray), (⟨#[113]⟩ : ByteArray)] : List ByteArray).map eS) rfl ?_
            refine bindG h ?_
            rintro ⟨y24, y25⟩ hy26 h
            refine exM ([(.d (.p (.string y24)))], [(.ptr [(.d (.l true 1 (y25.b.map eY))), (.d (.p (.int .i64 y25.i))), (.d (.p (.int .i64 y25.h_)))])]) ?_ ?_
            · exact spec_l1Pick.ev hy26
            refine bindG h fun x27 hx27 h => ?_
            refine anM (at_ix rfl hx27) ?_
            refine anM (at_lt rfl hx27) ?_
            refine exM (impl_Node.e x27) (at_get rfl hx27) ?_
            refine eqM (((([] : List impl_Node) ++ y1).set (y4).toNat (⟨x27.Kind, x27.A, x27.B, x27.C, x27.N, y24, x27.Other⟩ : impl_Node)).map impl_Node.e) (mSet rfl rfl) ?_
            exact ⟨(((([] : List impl_Node) ++ y1).set (y4).toNat (⟨x27.Kind, x27.A, x27.B, x27.C, x27.N, y24, x27.Other⟩ : impl_Node)), y25), h, ⟨rfl, ⟨rfl, trivial⟩, ⟨rfl, rfl, trivial⟩⟩⟩
          · try ((with_reducible apply cdX); exact rfl)
            refine iteF h (fun c28 h => ?_) (fun c28 h => ?_)
            · refine eqM (([(-1), 65536, 4, 1] : List Int).map eI) rfl ?_
              refine bindG h ?_
              rintro ⟨y29, y30⟩ hy31 h
              refine exM ([(.d (.p (.int .i64 y29)))], [(.ptr [(.d (.l true 1 (y30.b.map eY))), (.d (.p (.int .i64 y30.i))), (.d (.p (.int .i64 y30.h_)))])]) ?_ ?_
              · exact spec_l1PickInt.ev hy31
              refine bindG h fun x32 hx32 h => ?_
              refine anM (at_ix rfl hx32) ?_
              refine anM (at_lt rfl hx32) ?_
              refine exM (impl_Node.e x32) (at_get rfl hx32) ?_
              refine eqM (((([] : List impl_Node) ++ y1).set (y4).toNat (⟨x32.Kind, x32.A, x32.B, x32.C, y29, x32.Name, x32.Other⟩ : impl_Node)).map impl_Node.e) (mSet rfl rfl) ?_
              exact ⟨(((([] : List impl_Node) ++ y1).set (y4).toNat (⟨x32.Kind, x32.A, x32.B, x32.C, y29, x32.Name, x32.Other⟩ : impl_Node)), y30), h, ⟨rfl, ⟨rfl, trivial⟩, ⟨rfl, rfl, trivial⟩⟩⟩
            · try ((with_reducible apply cdX); exact rfl)
              refine iteF h (fun c33 h => ?_) (fun c33 h => ?_)
              · refine bindG h fun x34 hx34 h => ?_
                refine anM (at_ix rfl hx34) ?_
                refine anM (at_lt rfl hx34) ?_
                refine exM (impl_Node.e x34) (at_get rfl hx34) ?_
                refine eqM (((([] : List impl_Node) ++ y1).set (y4).toNat (⟨x34.Kind, x34.A, x34.B, x34.C, x34.N, x34.Name, (⟨#[119]⟩ : ByteArray)⟩ : impl_Node)).map impl_Node.e) (mSet rfl rfl) ?_
                exact ⟨(((([] : List impl_Node) ++ y1).set (y4).toNat (⟨x34.Kind, x34.A, x34.B, x34.C, x34.N, x34.Name, (⟨#[119]⟩ : ByteArray)⟩ : impl_Node)), y10), h, ⟨rfl, ⟨rfl, trivial⟩, ⟨rfl, rfl, trivial⟩⟩⟩
              · try ((with_reducible apply cdX); exact rfl)
                refine iteF h (fun c35 h => ?_) (fun c35 h => ?_)
                · refine loopX (α := spec_l1Cur × List impl_Node) (a := (y10, (([] : List impl_Node) ++ y1))) 79 (fun x => [(0, (.ptr 79 0 1 0)), (3, (.own 3 1 2))]) (fun x => [(3, 1, 2, (some (.row true true 7 (x.2.map impl_Node.e)))), (79, 0, 1, (some (.box [(.d (.l true 1 (x.1.b.map eY))), (.d (.p (.int .i64 x.1.i))), (.d (.p (.int .i64 x.1.h_)))])))]) (fun k x => spec_l3Bent.l0 K k x.1 x.2) 1 (fun x => [(3, (.own 3 1 2))]) (fun x => [(3, 1, 2, (some (.row true true 7 (x.1.map impl_Node.e)))), (79, 0, 1, (some (.box [(.d (.l true 1 (x.2.b.map eY))), (.d (.p (.int .i64 x.2.i))), (.d (.p (.int .i64 x.2.h_)))])))]) h (fun _ => rfl) ?_ ⟨rfl, ⟨rfl, rfl, trivial⟩, ⟨rfl, rfl, trivial⟩⟩ ?_
                  · rintro k ⟨v36, v37⟩ r h e hp
                    replace h : spec_l3Bent.l0 K (k + 1) v36 v37 = some r := h
                    unfold spec_l3Bent.l0 at h
                    refine goS ?_
                    refine eqM ((v37.length : Int) : Int) (mLen rfl) ?_
                    refine bindG h ?_
                    rintro ⟨y40, y41⟩ hy42 h
                    refine exM ([(.d (.p (.int .i64 y40)))], [(.ptr [(.d (.l true 1 (y41.b.map eY))), (.d (.p (.int .i64 y41.i))), (.d (.p (.int .i64 y41.h_)))])]) ?_ ?_
                    · exact spec_l1Below.ev hy42
                    refine iteF h (fun c43 h => ?_) (fun c43 h => ?_)
                    · refine eqM ((v37.length : Int) : Int) (mLen rfl) ?_
                      refine eqM (([(⟨10, (w64 ((v37.length : Int) - 1)), 0, 0, 0, (⟨#[]⟩ : ByteArray), (⟨#[]⟩ : ByteArray)⟩ : impl_Node)] : List impl_Node).map impl_Node.e) rfl ?_
                      refine gdG h fun hc h => ?_
                      refine anM (apB hc) ?_
                      refine eqM ((v37 ++ ([(⟨10, (w64 ((v37.length : Int) - 1)), 0, 0, 0, (⟨#[]⟩ : ByteArray), (⟨#[]⟩ : ByteArray)⟩ : impl_Node)] : List impl_Node)).map impl_Node.e) (mApp rfl rfl) ?_
                      exact ⟨(y41, (v37 ++ ([(⟨10, (w64 ((v37.length : Int) - 1)), 0, 0, 0, (⟨#[]⟩ : ByteArray), (⟨#[]⟩ : ByteArray)⟩ : impl_Node)] : List impl_Node))), h, ⟨rfl, ⟨rfl, rfl, trivial⟩, ⟨rfl, rfl, trivial⟩⟩⟩
                    · refine exQ h ?_
                      exact ⟨rfl, ⟨rfl, trivial⟩, ⟨rfl, rfl, trivial⟩⟩
                  · rintro ⟨v38, v39⟩ S' h ⟨qn, ⟨qa0, _⟩, ⟨qb0, qb1, _⟩⟩
                    exact ⟨(v38, v39), h, ⟨qn, ⟨qa0, trivial⟩, ⟨qb0, qb1, trivial⟩⟩⟩
                · exact ⟨((([] : List impl_Node) ++ y1), y10), h, ⟨rfl, ⟨rfl, trivial⟩, ⟨rfl, rfl, trivial⟩⟩⟩
  · rintro ⟨v7, v8⟩ h e hp
    exact retE (enc := spec_l3Bent.enc) h rfl
def spec_DrawNodesOk.enc (r : List impl_Node) : Res := ([(.own true 7 (r.map impl_Node.e))], [])
def spec_DrawNodesOk.f  (K : Nat) (a0 : List Int) : Option (List impl_Node) := (spec_l1New.f K a0).bind fun y1 => ((spec_l3Bent.f K y1).bind fun (y3, y4) => (some y3))
theorem spec_DrawNodesOk.ev   {K : Nat} {a0 : List Int} {r : List impl_Node} (h : spec_DrawNodesOk.f  K a0 = some r) : E 8 [(.d (.l true 1 (a0.map eY)))] = some ([(.own true 7 (r.map impl_Node.e))], []) := by
  refine Ev_intro (fn := Tryd.f8) rfl (by kernel_rfl) (c := _) rfl ⟨rfl, by simp⟩ rfl (evP_spec _ ?_)
  unfold spec_DrawNodesOk.f at h
  refine bindG h fun y1 hy2 h => ?_
  refine exM ([(.ptr [(.d (.l true 1 (y1.b.map eY))), (.d (.p (.int .i64 y1.i))), (.d (.p (.int .i64 y1.h_)))])], []) ?_ ?_
  · exact spec_l1New.ev hy2
  refine bindG h ?_
  rintro ⟨y3, y4⟩ hy5 h
  refine exM ([(.own true 7 (y3.map impl_Node.e))], [(.ptr [(.d (.l true 1 (y4.b.map eY))), (.d (.p (.int .i64 y4.i))), (.d (.p (.int .i64 y4.h_)))])]) ?_ ?_
  · exact spec_l3Bent.ev hy5
  exact retE (enc := spec_DrawNodesOk.enc) h rfl
def impl_in.enc (r : Bool) : Res := ([(.d (.p (.bool r)))], [])
def impl_in.f  (K : Nat) (a0 : Int) (a1 : Int) (a2 : Int) : Option (Bool) := if a0 ≥ a1 then (some (decide (a0 ≤ a2))) else (some false)
theorem impl_in.ev   {K : Nat} {a0 : Int} {a1 : Int} {a2 : Int} {r : Bool} (h : impl_in.f  K a0 a1 a2 = some r) : E 36 [(.d (.p (.int .i64 a0))), (.d (.p (.int .i64 a1))), (.d (.p (.int .i64 a2)))] = some ([(.d (.p (.bool r)))], []) := by
  refine Ev_intro (fn := Tryd.f36) rfl (by kernel_rfl) (c := _) rfl ⟨rfl, by simp⟩ rfl (evP_spec _ ?_)
  unfold impl_in.f at h
  refine goS ?_
  try ((with_reducible apply cdX); exact rfl)
  refine iteF h (fun c1 h => ?_) (fun c1 h => ?_)
  · refine Ask.T rfl ?_
    refine Ask.T rfl ?_
    refine Ask.T rfl ?_
    exact retE (enc := impl_in.enc) h rfl
  · refine Ask.F rfl ?_
    refine Ask.F rfl ?_
    refine Ask.F rfl ?_
    exact retE (enc := impl_in.enc) h rfl
def impl_namesOf.enc (r : Int) : Res := ([(.d (.p (.int .i64 r)))], [])
def impl_namesOf.f  (K : Nat) (a0 : Int) : Option (Int) := jn (fun (v1 : Bool) => if v1 = true then (some 1) else (jn (fun (v6 : Bool) => if v6 = true then (some 2) else (some 0)) (fun j => if a0 = 6 then (j true) else (j (decide (a0 = 14)))))) (fun j => if a0 = 1 then (j true) else (if a0 = 3 then (j true) else (if a0 = 5 then (j true) else (j (decide (a0 = 19))))))
theorem impl_namesOf.ev   {K : Nat} {a0 : Int} {r : Int} (h : impl_namesOf.f  K a0 = some r) : E 67 [(.d (.p (.int .i64 a0)))] = some ([(.d (.p (.int .i64 r)))], []) := by
  refine Ev_intro (fn := Tryd.f67) rfl (by kernel_rfl) (c := _) rfl ⟨rfl, by simp⟩ rfl (evP_spec _ ?_)
  unfold impl_namesOf.f at h
  refine goS ?_
  refine seqJ h 12 (fun x => [(3, (.d (.p (.int .i64 a0)))), (4, (.d (.p (.bool x))))]) (fun x => []) (fun J h => ?_) ?_
  · try ((with_reducible apply cdX); exact rfl)
    refine iteF h (fun c2 h => ?_) (fun c2 h => ?_)
    · exact ⟨true, h, ⟨rfl, ⟨rfl, rfl, trivial⟩, trivial⟩⟩
    · try ((with_reducible apply cdX); exact rfl)
      refine iteF h (fun c3 h => ?_) (fun c3 h => ?_)
      · exact ⟨true, h, ⟨rfl, ⟨rfl, rfl, trivial⟩, trivial⟩⟩
      · try ((with_reducible apply cdX); exact rfl)
        refine iteF h (fun c4 h => ?_) (fun c4 h => ?_)
        · exact ⟨true, h, ⟨rfl, ⟨rfl, rfl, trivial⟩, trivial⟩⟩
        · exact ⟨(decide (a0 = 19)), h, ⟨rfl, ⟨rfl, rfl, trivial⟩, trivial⟩⟩
  · rintro v1 h e hp
    try ((with_reducible apply cdX); exact rfl)
    refine ifB h (fun c5 h => ?_) (fun c5 h => ?_)
    · exact retE (enc := impl_namesOf.enc) h rfl
    · refine seqJ h 12 (fun x => [(9, (.d (.p (.bool x))))]) (fun x => []) (fun J h => ?_) ?_
      · try ((with_reducible apply cdX); exact rfl)
        refine iteF h (fun c7 h => ?_) (fun c7 h => ?_)
        · exact ⟨true, h, ⟨rfl, ⟨rfl, trivial⟩, trivial⟩⟩
        · exact ⟨(decide (a0 = 14)), h, ⟨rfl, ⟨rfl, trivial⟩, trivial⟩⟩
      · rintro v6 h e hp
        try ((with_reducible apply cdX); exact rfl)
        refine ifB h (fun c8 h => ?_) (fun c8 h => ?_)
        · exact retE (enc := impl_namesOf.enc) h rfl
        · exact retE (enc := impl_namesOf.enc) h rfl
def impl_IsWord.enc (r : Bool) : Res := ([(.d (.p (.bool r)))], [])
def impl_IsWord.en (a0 : ByteArray) (r : Bool) (S : St) : Prop := endV tb md 114 Tryd.f114 [(.d (.p (.string a0)))] .ret S = some (impl_IsWord.enc r)
def impl_IsWord.l0 (a0 : ByteArray) (K : Nat) : Nat → Int → Option (Bool ⊕ Unit)
  | 0, _ => none
  | k + 1, v1 => if v1 < (a0.size : Int) then (jn (fun (v3 : Bool) => if v3 = true then (some (.inl false)) else (impl_IsWord.l0 a0 K k (w64 (v1 + 1)))) (fun j => (atS a0 v1).bind fun x4 => (if (x4.toNat : Int) < 97 then (j true) else ((atS a0 v1).bind fun x6 => (j (decide ((x6.toNat : Int) > 122))))))) else (some (.inr ()))
def impl_IsWord.f  (K : Nat) (a0 : ByteArray) : Option (Bool) := jn (fun (_ : Unit) => (impl_in.f K (a0.size : Int) 1 8).bind fun y8 => (some y8)) (fun j => lb (impl_IsWord.l0 a0 K K 0) (fun r => some r) (fun (_ : Unit) => j ()))
theorem impl_IsWord.ev   {K : Nat} {a0 : ByteArray} {r : Bool} (h : impl_IsWord.f  K a0 = some r) : E 114 [(.d (.p (.string a0)))] = some ([(.d (.p (.bool r)))], []) := by
  refine Ev_intro (fn := Tryd.f114) rfl (by kernel_rfl) (c := _) rfl ⟨rfl, by simp⟩ rfl (evP_spec _ ?_)
  unfold impl_IsWord.f at h
  refine seqJ h 23 (fun x => [(0, (.d (.p (.string a0))))]) (fun x => []) (fun J h => ?_) ?_
  · refine loopB (α := Int) (a := 0) 23 (fun x => [(0, (.d (.p (.string a0)))), (3, (.d (.p (.int .i64 x))))]) (fun x => []) (fun k x => impl_IsWord.l0 a0 K k x) (impl_IsWord.en a0) 0 (fun x => [(0, (.d (.p (.string a0))))]) (fun x => []) h (fun _ => rfl) ?_ ⟨rfl, ⟨rfl, rfl, trivial⟩, trivial⟩ ?_ ?_
    · rintro k v1 r h e hp
      replace h : impl_IsWord.l0 a0 K (k + 1) v1 = some r := h
      unfold impl_IsWord.l0 at h
      refine goS ?_
      try ((with_reducible apply cdX); exact rfl)
      refine iteF h (fun c2 h => ?_) (fun c2 h => ?_)
      · refine goS ?_
        refine seqJ h 23 (fun x => [(0, (.d (.p (.string a0)))), (3, (.d (.p (.int .i64 v1)))), (19, (.d (.p (.bool x))))]) (fun x => []) (fun J h => ?_) ?_
        · refine bindG h fun x4 hx4 h => ?_
          refine exM x4 hx4 ?_
          refine iteF h (fun c5 h => ?_) (fun c5 h => ?_)
          · refine Ask.T rfl ?_
            refine Ask.T rfl ?_
            refine Ask.T rfl ?_
            refine Ask.T rfl ?_
            exact ⟨true, h, ⟨rfl, ⟨rfl, rfl, rfl, trivial⟩, trivial⟩⟩
          · refine Ask.F rfl ?_
            refine Ask.F rfl ?_
            refine bindG h fun x6 hx6 h => ?_
            refine exM x6 hx6 ?_
            refine Ask.F rfl ?_
            refine Ask.F rfl ?_
            exact ⟨(decide ((x6.toNat : Int) > 122)), h, ⟨rfl, ⟨rfl, rfl, rfl, trivial⟩, trivial⟩⟩
        · rintro v3 h e hp
          try ((with_reducible apply cdX); exact rfl)
          refine ifB h (fun c7 h => ?_) (fun c7 h => ?_)
          · exact lqL h rfl
          · exact ⟨(w64 (v1 + 1)), h, ⟨rfl, ⟨rfl, rfl, trivial⟩, trivial⟩⟩
      · refine lqR h ?_
        exact ⟨rfl, ⟨rfl, trivial⟩, trivial⟩
    · intro r' S' h q
      exact retE (enc := impl_IsWord.enc) h q
    · rintro _ S' h ⟨qn, ⟨qa0, _⟩, ⟨_⟩⟩
      exact ⟨(), h, ⟨qn, ⟨qa0, trivial⟩, trivial⟩⟩
  · rintro _ h e hp
    refine bindG h fun y8 hy9 h => ?_
    refine exM ([(.d (.p (.bool y8)))], []) ?_ ?_
    · exact impl_in.ev hy9
    exact retE (enc := impl_IsWord.enc) h rfl
def impl_IsKey.enc (r : Bool) : Res := ([(.d (.p (.bool r)))], [])
def impl_IsKey.en (a0 : ByteArray) (r : Bool) (S : St) : Prop := endV tb md 91 Tryd.f91 [(.d (.p (.string a0)))] .ret S = some (impl_IsKey.enc r)
def impl_IsKey.l0 (a0 : ByteArray) (y1 : List ByteArray) (K : Nat) : Nat → Int → Option (Bool ⊕ Unit)
  | 0, _ => none
  | k + 1, v3 => if v3 < (y1.length : Int) then ((at_ y1 v3).bind fun x5 => (if (x5.toList == a0.toList) = true then (some (.inl true)) else (impl_IsKey.l0 a0 y1 K k (w64 (v3 + 1))))) else (some (.inr ()))
def impl_IsKey.f  (K : Nat) (a0 : ByteArray) : Option (Bool) := jn (fun (_ : Unit) => some false) (fun j => (strings_Split.f (⟨#[102, 117, 110, 32, 97, 112, 112, 32, 108, 101, 116, 32, 114, 101, 99, 32, 105, 102, 32, 97, 100, 100, 32, 115, 117, 98, 32, 108, 101, 115, 115, 32, 115, 97, 109, 101, 32, 112, 97, 105, 114, 32, 102, 115, 116, 32, 115, 110, 100, 32, 110, 105, 108, 32, 99, 111, 110, 115, 32, 109, 97, 116, 99, 104, 32, 114, 101, 102, 32, 103, 101, 116, 32, 115, 101, 116, 32, 114, 97, 105, 115, 101, 32, 116, 114, 121]⟩ : ByteArray) (⟨#[32]⟩ : ByteArray)).bind fun y1 => (lb (impl_IsKey.l0 a0 y1 K K 0) (fun r => some r) (fun (_ : Unit) => j ())))
theorem impl_IsKey.ev   {K : Nat} {a0 : ByteArray} {r : Bool} (h : impl_IsKey.f  K a0 = some r) : E 91 [(.d (.p (.string a0)))] = some ([(.d (.p (.bool r)))], []) := by
  refine Ev_intro (fn := Tryd.f91) rfl (by kernel_rfl) (c := _) rfl ⟨rfl, by simp⟩ rfl (evP_spec _ ?_)
  unfold impl_IsKey.f at h
  refine seqJ h 15 (fun x => []) (fun x => []) (fun J h => ?_) ?_
  · refine bindG h fun y1 hy2 h => ?_
    refine exM ([(.own true 1 (y1.map eS))], []) ?_ ?_
    · exact strings_Split.ev hy2
    refine eqM ((y1.length : Int) : Int) (mLen rfl) ?_
    refine loopB (α := Int) (a := 0) 15 (fun x => [(0, (.d (.p (.string a0)))), (5, (.own 5 0 2)), (6, (.d (.p (.int .i64 (y1.length : Int))))), (7, (.d (.p (.int .i64 x))))]) (fun x => [(5, 0, 2, (some (.row true true 1 (y1.map eS))))]) (fun k x => impl_IsKey.l0 a0 y1 K k x) (impl_IsKey.en a0) 0 (fun x => []) (fun x => []) h (fun _ => rfl) ?_ ⟨rfl, ⟨rfl, rfl, rfl, rfl, trivial⟩, ⟨rfl, trivial⟩⟩ ?_ ?_
    · rintro k v3 r h e hp
      replace h : impl_IsKey.l0 a0 y1 K (k + 1) v3 = some r := h
      unfold impl_IsKey.l0 at h
      refine goS ?_
      try ((with_reducible apply cdX); exact rfl)
      refine iteF h (fun c4 h => ?_) (fun c4 h => ?_)
      · refine goS ?_
        refine bindG h fun x5 hx5 h => ?_
        refine anM (at_ix rfl hx5) ?_
        refine exM (eS x5) (at_get rfl hx5) ?_
        refine ifB h (fun c6 h => ?_) (fun c6 h => ?_)
        · exact lqL h rfl
        · exact ⟨(w64 (v3 + 1)), h, ⟨rfl, ⟨rfl, rfl, rfl, rfl, trivial⟩, ⟨rfl, trivial⟩⟩⟩
      · refine lqR h ?_
        exact ⟨rfl, trivial, trivial⟩
    · intro r' S' h q
      exact retE (enc := impl_IsKey.enc) h q
    · rintro _ S' h ⟨qn, ⟨_⟩, ⟨_⟩⟩
      exact ⟨(), h, ⟨qn, trivial, trivial⟩⟩
  · rintro _ h e hp
    exact retE (enc := impl_IsKey.enc) h rfl
def impl_isName.enc (r : Bool) : Res := ([(.d (.p (.bool r)))], [])
def impl_isName.f  (K : Nat) (a0 : ByteArray) : Option (Bool) := (impl_IsWord.f K a0).bind fun y1 => (if y1 = true then ((impl_IsKey.f K a0).bind fun y4 => (some (!y4))) else (some false))
theorem impl_isName.ev   {K : Nat} {a0 : ByteArray} {r : Bool} (h : impl_isName.f  K a0 = some r) : E 98 [(.d (.p (.string a0)))] = some ([(.d (.p (.bool r)))], []) := by
  refine Ev_intro (fn := Tryd.f98) rfl (by kernel_rfl) (c := _) rfl ⟨rfl, by simp⟩ rfl (evP_spec _ ?_)
  unfold impl_isName.f at h
  refine goS ?_
  refine bindG h fun y1 hy2 h => ?_
  refine exM ([(.d (.p (.bool y1)))], []) ?_ ?_
  · exact impl_IsWord.ev hy2
  refine ifB h (fun c3 h => ?_) (fun c3 h => ?_)
  · refine Ask.T rfl ?_
    refine bindG h fun y4 hy5 h => ?_
    refine exM ([(.d (.p (.bool y4)))], []) ?_ ?_
    · exact impl_IsKey.ev hy5
    refine Ask.T rfl ?_
    refine Ask.T rfl ?_
    exact retE (enc := impl_isName.enc) h rfl
  · refine Ask.F rfl ?_
    refine Ask.F rfl ?_
    refine Ask.F rfl ?_
    exact retE (enc := impl_isName.enc) h rfl
def impl_nameFits.enc (r : Bool) : Res := ([(.d (.p (.bool r)))], [])
def impl_nameFits.f  (K : Nat) (a0 : ByteArray) (a1 : Bool) : Option (Bool) := if a1 = true then ((impl_isName.f K a0).bind fun y2 => (some y2)) else (some (a0.toList == (⟨#[]⟩ : ByteArray).toList))
theorem impl_nameFits.ev   {K : Nat} {a0 : ByteArray} {a1 : Bool} {r : Bool} (h : impl_nameFits.f  K a0 a1 = some r) : E 66 [(.d (.p (.string a0))), (.d (.p (.bool a1)))] = some ([(.d (.p (.bool r)))], []) := by
  refine Ev_intro (fn := Tryd.f66) rfl (by kernel_rfl) (c := _) rfl ⟨rfl, by simp⟩ rfl (evP_spec _ ?_)
  unfold impl_nameFits.f at h
  refine goS ?_
  try ((with_reducible apply cdX); exact rfl)
  refine ifB h (fun c1 h => ?_) (fun c1 h => ?_)
  · refine bindG h fun y2 hy3 h => ?_
    refine exM ([(.d (.p (.bool y2)))], []) ?_ ?_
    · exact impl_isName.ev hy3
    exact retE (enc := impl_nameFits.enc) h rfl
  · exact retE (enc := impl_nameFits.enc) h rfl
def impl_Arity.enc (r : Int) : Res := ([(.d (.p (.int .i64 r)))], [])
def impl_Arity.f  (K : Nat) (a0 : Int) : Option (Int) := jn (fun (v1 : Bool) => if v1 = true then (some 1) else (jn (fun (v8 : Bool) => if v8 = true then (some 2) else (jn (fun (v17 : Bool) => if v17 = true then (some 3) else (some 0)) (fun j => if a0 = 7 then (j true) else (j (decide (a0 = 14)))))) (fun j => if a0 = 4 then (j true) else (if a0 = 5 then (j true) else (if a0 = 6 then (j true) else (if a0 = 8 then (j true) else (if a0 = 9 then (j true) else (if a0 = 13 then (j true) else (if a0 = 17 then (j true) else (j (decide (a0 = 19)))))))))))) (fun j => if a0 = 3 then (j true) else (if a0 = 10 then (j true) else (if a0 = 11 then (j true) else (if a0 = 15 then (j true) else (if a0 = 16 then (j true) else (j (decide (a0 = 18))))))))
theorem impl_Arity.ev   {K : Nat} {a0 : Int} {r : Int} (h : impl_Arity.f  K a0 = some r) : E 44 [(.d (.p (.int .i64 a0)))] = some ([(.d (.p (.int .i64 r)))], []) := by
  refine Ev_intro (fn := Tryd.f44) rfl (by kernel_rfl) (c := _) rfl ⟨rfl, by simp⟩ rfl (evP_spec _ ?_)
  unfold impl_Arity.f at h
  refine goS ?_
  refine seqJ h 23 (fun x => [(3, (.d (.p (.int .i64 a0)))), (4, (.d (.p (.bool x))))]) (fun x => []) (fun J h => ?_) ?_
  · try ((with_reducible apply cdX); exact rfl)
    refine iteF h (fun c2 h => ?_) (fun c2 h => ?_)
    · exact ⟨true, h, ⟨rfl, ⟨rfl, rfl, trivial⟩, trivial⟩⟩
    · try ((with_reducible apply cdX); exact rfl)
      refine iteF h (fun c3 h => ?_) (fun c3 h => ?_)
      · exact ⟨true, h, ⟨rfl, ⟨rfl, rfl, trivial⟩, trivial⟩⟩
      · try ((with_reducible apply cdX); exact rfl)
        refine iteF h (fun c4 h => ?_) (fun c4 h => ?_)
        · exact ⟨true, h, ⟨rfl, ⟨rfl, rfl, trivial⟩, trivial⟩⟩
        · try ((with_reducible apply cdX); exact rfl)
          refine iteF h (fun c5 h => ?_) (fun c5 h => ?_)
          · exact ⟨true, h, ⟨rfl, ⟨rfl, rfl, trivial⟩, trivial⟩⟩
          · try ((with_reducible apply cdX); exact rfl)
            refine iteF h (fun c6 h => ?_) (fun c6 h => ?_)
            · exact ⟨true, h, ⟨rfl, ⟨rfl, rfl, trivial⟩, trivial⟩⟩
            · exact ⟨(decide (a0 = 18)), h, ⟨rfl, ⟨rfl, rfl, trivial⟩, trivial⟩⟩
  · rintro v1 h e hp
    try ((with_reducible apply cdX); exact rfl)
    refine ifB h (fun c7 h => ?_) (fun c7 h => ?_)
    · exact retE (enc := impl_Arity.enc) h rfl
    · refine seqJ h 23 (fun x => [(3, (.d (.p (.int .i64 a0)))), (11, (.d (.p (.bool x))))]) (fun x => []) (fun J h => ?_) ?_
      · try ((with_reducible apply cdX); exact rfl)
        refine iteF h (fun c9 h => ?_) (fun c9 h => ?_)
        · exact ⟨true, h, ⟨rfl, ⟨rfl, rfl, trivial⟩, trivial⟩⟩
        · try ((with_reducible apply cdX); exact rfl)
          refine iteF h (fun c10 h => ?_) (fun c10 h => ?_)
          · exact ⟨true, h, ⟨rfl, ⟨rfl, rfl, trivial⟩, trivial⟩⟩
          · try ((with_reducible apply cdX); exact rfl)
            refine iteF h (fun c11 h => ?_) (fun c11 h => ?_)
            · exact ⟨true, h, ⟨rfl, ⟨rfl, rfl, trivial⟩, trivial⟩⟩
            · try ((with_reducible apply cdX); exact rfl)
              refine iteF h (fun c12 h => ?_) (fun c12 h => ?_)
              · exact ⟨true, h, ⟨rfl, ⟨rfl, rfl, trivial⟩, trivial⟩⟩
              · try ((with_reducible apply cdX); exact rfl)
                refine iteF h (fun c13 h => ?_) (fun c13 h => ?_)
                · exact ⟨true, h, ⟨rfl, ⟨rfl, rfl, trivial⟩, trivial⟩⟩
                · try ((with_reducible apply cdX); exact rfl)
                  refine iteF h (fun c14 h => ?_) (fun c14 h => ?_)
                  · exact ⟨true, h, ⟨rfl, ⟨rfl, rfl, trivial⟩, trivial⟩⟩
                  · try ((with_reducible apply cdX); exact rfl)
                    refine iteF h (fun c15 h => ?_) (fun c15 h => ?_)
                    · exact ⟨true, h, ⟨rfl, ⟨rfl, rfl, trivial⟩, trivial⟩⟩
                    · exact ⟨(decide (a0 = 19)), h, ⟨rfl, ⟨rfl, rfl, trivial⟩, trivial⟩⟩
      · rintro v8 h e hp
        try ((with_reducible apply cdX); exact rfl)
        refine ifB h (fun c16 h => ?_) (fun c16 h => ?_)
        · exact retE (enc := impl_Arity.enc) h rfl
        · refine seqJ h 23 (fun x => [(20, (.d (.p (.bool x))))]) (fun x => []) (fun J h => ?_) ?_
          · try ((with_reducible apply cdX); exact rfl)
            refine iteF h (fun c18 h => ?_) (fun c18 h => ?_)
            · exact ⟨true, h, ⟨rfl, ⟨rfl, trivial⟩, trivial⟩⟩
            · exact ⟨(decide (a0 = 14)), h, ⟨rfl, ⟨rfl, trivial⟩, trivial⟩⟩
          · rintro v17 h e hp
            try ((with_reducible apply cdX); exact rfl)
            refine ifB h (fun c19 h => ?_) (fun c19 h => ?_)
            · exact retE (enc := impl_Arity.enc) h rfl
            · exact retE (enc := impl_Arity.enc) h rfl
def impl_fieldsOk.enc (r : Bool) : Res := ([(.d (.p (.bool r)))], [])
def impl_fieldsOk.en (a0 : impl_Node) (r : Bool) (S : St) : Prop := endV tb md 37 Tryd.f37 [(.agg (a0.e.map .d))] .ret S = some (impl_fieldsOk.enc r)
def impl_fieldsOk.l0 (a0 : impl_Node) (K : Nat) : Nat → Int → Option (Bool ⊕ Unit)
  | 0, _ => none
  | k + 1, v15 => if v15 < 3 then ((at_ ([a0.A, a0.B, a0.C] : List Int) v15).bind fun x17 => (jn (fun (v18 : Bool) => if v18 = true then (some (.inl false)) else (impl_fieldsOk.l0 a0 K k (w64 (v15 + 1)))) (fun j => (impl_Arity.f K a0.Kind).bind fun y19 => (if v15 ≥ y19 then (j (!(decide (x17 = 0)))) else (j false))))) else (some (.inr ()))
def impl_fieldsOk.f  (K : Nat) (a0 : impl_Node) : Option (Bool) := jn (fun (v1 : Bool) => if v1 = true then (some false) else (jn (fun (_ : Unit) => if a0.Kind = 2 then ((impl_in.f K a0.N 0 65535).bind fun y24 => (some y24)) else (if a0.Kind = 8 then ((impl_in.f K a0.N 0 3).bind fun y27 => (some y27)) else (some (decide (a0.N = 0))))) (fun j => lb (impl_fieldsOk.l0 a0 K K 0) (fun r => some r) (fun (_ : Unit) => j ())))) (fun j => (impl_in.f K a0.Kind 1 19).bind fun y2 => (if (!y2) = true then (j true) else ((impl_namesOf.f K a0.Kind).bind fun y5 => ((impl_nameFits.f K a0.Name (decide (y5 > 0))).bind fun y7 => (if (!y7) = true then (j true) else ((impl_namesOf.f K a0.Kind).bind fun y10 => ((impl_nameFits.f K a0.Other (decide (y10 > 1))).bind fun y12 => (j (!y12)))))))))
theorem impl_fieldsOk.ev   {K : Nat} {a0 : impl_Node} {r : Bool} (h : impl_fieldsOk.f  K a0 = some r) : E 37 [(.agg (a0.e.map .d))] = some ([(.d (.p (.bool r)))], []) := by
  refine Ev_intro (fn := Tryd.f37) rfl (by kernel_rfl) (c := _) rfl ⟨rfl, by simp⟩ rfl (evP_spec _ ?_)
  unfold impl_fieldsOk.f at h
  refine goS ?_
  refine seqJ h 67 (fun x => [(1, (.ptr 1 0 2 0)), (28, (.d (.p (.bool x))))]) (fun x => [(1, 0, 2, (some (.box [(.d (.p (.int .i64 a0.Kind))), (.d (.p (.int .i64 a0.A))), (.d (.p (.int .i64 a0.B))), (.d (.p (.int .i64 a0.C))), (.d (.p (.int .i64 a0.N))), (.d (.p (.string a0.Name))), (.d (.p (.string a0.Other)))])))]) (fun J h => ?_) ?_
  · refine ⟨[[], [], [], [], [], [12, 13, 14], [12, 13, 14], [10, 11], [10, 11], [10, 11], [], [], [], [], [], [22, 23, 24], [22, 23, 24], [20, 21], [20, 21], [20, 21], [], [], [], []], [], by kernel_rfl, ?_⟩
    refine bindG h fun y2 hy3 h => ?_
    refine exM ([(.d (.p (.bool y2)))], []) ?_ ?_
    · exact impl_in.ev hy3
    refine ifB h (fun c4 h => ?_) (fun c4 h => ?_)
    · refine Ask.T rfl ?_
      refine Ask.T rfl ?_
      refine Ask.T rfl ?_
      refine Ask.T rfl ?_
      refine Ask.T rfl ?_
      refine Ask.T rfl ?_
      refine Ask.T rfl ?_
      refine Ask.T rfl ?_
      refine Ask.T rfl ?_
      refine Ask.T rfl ?_
      refine Ask.T rfl ?_
      refine Ask.T rfl ?_
      refine Ask.T rfl ?_
      refine Ask.T rfl ?_
      refine Ask.T rfl ?_
      refine Ask.T rfl ?_
      refine Ask.T rfl ?_
      exact ⟨true, h, ⟨rfl, ⟨rfl, rfl, trivial⟩, ⟨rfl, trivial⟩⟩⟩
    · refine Ask.F rfl ?_
      refine Ask.F rfl ?_
      refine Ask.F rfl ?_
      refine Ask.F rfl ?_
      refine bindG h fun y5 hy6 h => ?_
      refine exM ([(.d (.p (.int .i64 y5)))], []) ?_ ?_
      · exact impl_namesOf.ev hy6
      refine Ask.F rfl ?_
      refine Ask.F rfl ?_
      refine bindG h fun y7 hy8 h => ?_
      refine exM ([(.d (.p (.bool y7)))], []) ?_ ?_
      · exact impl_nameFits.ev hy8
      refine Ask.F rfl ?_
      refine Ask.F rfl ?_
      refine ifB h (fun c9 h => ?_) (fun c9 h => ?_)
      · refine Ask.T rfl ?_
        refine Ask.T rfl ?_
        refine Ask.T rfl ?_
        refine Ask.T rfl ?_
        refine Ask.T rfl ?_
        refine Ask.T rfl ?_
        refine Ask.T rfl ?_
        refine Ask.T rfl ?_
        exact ⟨true, h, ⟨rfl, ⟨rfl, rfl, trivial⟩, ⟨rfl, trivial⟩⟩⟩
      · refine Ask.F rfl ?_
        refine Ask.F rfl ?_
        refine Ask.F rfl ?_
        refine Ask.F rfl ?_
        refine bindG h fun y10 hy11 h => ?_
        refine exM ([(.d (.p (.int .i64 y10)))], []) ?_ ?_
        · exact impl_namesOf.ev hy11
        refine Ask.F rfl ?_
        refine Ask.F rfl ?_
        refine bindG h fun y12 hy13 h => ?_
        refine exM ([(.d (.p (.bool y12)))], []) ?_ ?_
        · exact impl_nameFits.ev hy13
        refine Ask.F rfl ?_
        refine Ask.F rfl ?_
        exact ⟨(!y12), h, ⟨rfl, ⟨rfl, rfl, trivial⟩, ⟨rfl, trivial⟩⟩⟩
  · rintro v1 h e hp
    try ((with_reducible apply cdX); exact rfl)
    refine ifB h (fun c14 h => ?_) (fun c14 h => ?_)
    · exact retE (enc := impl_fieldsOk.enc) h rfl
    · refine seqJ h 67 (fun x => [(1, (.ptr 1 0 2 0))]) (fun x => [(1, 0, 2, (some (.box [(.d (.p (.int .i64 a0.Kind))), (.d (.p (.int .i64 a0.A))), (.d (.p (.int .i64 a0.B))), (.d (.p (.int .i64 a0.C))), (.d (.p (.int .i64 a0.N))), (.d (.p (.string a0.Name))), (.d (.p (.string a0.Other)))])))]) (fun J h => ?_) ?_
      · refine eqM (([a0.A, a0.B, a0.C] : List Int).map eI) rfl ?_
        refine eqM (3 : Int) rfl ?_
        refine loopB (α := Int) (a := 0) 67 (fun x => [(1, (.ptr 1 0 2 0)), (35, (.own 35 0 2)), (36, (.d (.p (.int .i64 3)))), (37, (.d (.p (.int .i64 x))))]) (fun x => [(1, 0, 2, (some (.box [(.d (.p (.int .i64 a0.Kind))), (.d (.p (.int .i64 a0.A))), (.d (.p (.int .i64 a0.B))), (.d (.p (.int .i64 a0.C))), (.d (.p (.int .i64 a0.N))), (.d (.p (.string a0.Name))), (.d (.p (.string a0.Other)))]))), (35, 0, 2, (some (.row true true 1 (([a0.A, a0.B, a0.C] : List Int).map eI))))]) (fun k x => impl_fieldsOk.l0 a0 K k x) (impl_fieldsOk.en a0) 0 (fun x => [(1, (.ptr 1 0 2 0))]) (fun x => [(1, 0, 2, (some (.box [(.d (.p (.int .i64 a0.Kind))), (.d (.p (.int .i64 a0.A))), (.d (.p (.int .i64 a0.B))), (.d (.p (.int .i64 a0.C))), (.d (.p (.int .i64 a0.N))), (.d (.p (.string a0.Name))), (.d (.p (.string a0.Other)))])))]) h (fun _ => rfl) ?_ ⟨rfl, ⟨rfl, rfl, rfl, rfl, trivial⟩, ⟨rfl, rfl, trivial⟩⟩ ?_ ?_
        · rintro k v15 r h e hp
          replace h : impl_fieldsOk.l0 a0 K (k + 1) v15 = some r := h
          unfold impl_fieldsOk.l0 at h
          refine goS ?_
          try ((with_reducible apply cdX); exact rfl)
          refine iteF h (fun c16 h => ?_) (fun c16 h => ?_)
          · refine goS ?_
            refine bindG h fun x17 hx17 h => ?_
            refine anM (at_ix rfl hx17) ?_
            refine exM (eI x17) (at_get rfl hx17) ?_
            refine seqJ h 67 (fun x => [(1, (.ptr 1 0 2 0)), (35, (.own 35 0 2)), (36, (.d (.p (.int .i64 3)))), (37, (.d (.p (.int .i64 v15)))), (50, (.d (.p (.bool x))))]) (fun x => [(1, 0, 2, (some (.box [(.d (.p (.int .i64 a0.Kind))), (.d (.p (.int .i64 a0.A))), (.d (.p (.int .i64 a0.B))), (.d (.p (.int .i64 a0.C))), (.d (.p (.int .i64 a0.N))), (.d (.p (.string a0.Name))), (.d (.p (.string a0.Other)))]))), (35, 0, 2, (some (.row true true 1 (([a0.A, a0.B, a0.C] : List Int).map eI))))]) (fun J h => ?_) ?_
            · refine bindG h fun y19 hy20 h => ?_
              refine exM ([(.d (.p (.int .i64 y19)))], []) ?_ ?_
              · exact impl_Arity.ev hy20
              refine iteF h (fun c21 h => ?_) (fun c21 h => ?_)
              · refine Ask.T rfl ?_
                refine Ask.T rfl ?_
                exact ⟨(!(decide (x17 = 0))), h, ⟨rfl, ⟨rfl, rfl, rfl, rfl, rfl, trivial⟩, ⟨rfl, rfl, trivial⟩⟩⟩
              · refine Ask.F rfl ?_
                refine Ask.F rfl ?_
                exact ⟨false, h, ⟨rfl, ⟨rfl, rfl, rfl, rfl, rfl, trivial⟩, ⟨rfl, rfl, trivial⟩⟩⟩
            · rintro v18 h e hp
              try ((with_reducible apply cdX); exact rfl)
              refine ifB h (fun c22 h => ?_) (fun c22 h => ?_)
              · exact lqL h rfl
              · exact ⟨(w64 (v15 + 1)), h, ⟨rfl, ⟨rfl, rfl, rfl, rfl, trivial⟩, ⟨rfl, rfl, trivial⟩⟩⟩
          · refine lqR h ?_
            exact ⟨rfl, ⟨rfl, trivial⟩, ⟨rfl, trivial⟩⟩
        · intro r' S' h q
          exact retE (enc := impl_fieldsOk.enc) h q
        · rintro _ S' h ⟨qn, ⟨qa0, _⟩, ⟨qb0, _⟩⟩
          exact ⟨(), h, ⟨qn, ⟨qa0, trivial⟩, ⟨qb0, trivial⟩⟩⟩
      · rintro _ h e hp
        refine goS ?_
        try ((with_reducible apply cdX); exact rfl)
        refine iteF h (fun c23 h => ?_) (fun c23 h => ?_)
        · refine bindG h fun y24 hy25 h => ?_
          refine exM ([(.d (.p (.bool y24)))], []) ?_ ?_
          · exact impl_in.ev hy25
          exact retE (enc := impl_fieldsOk.enc) h rfl
        · try ((with_reducible apply cdX); exact rfl)
          refine iteF h (fun c26 h => ?_) (fun c26 h => ?_)
          · refine bindG h fun y27 hy28 h => ?_
            refine exM ([(.d (.p (.bool y27)))], []) ?_ ?_
            · exact impl_in.ev hy28
            exact retE (enc := impl_fieldsOk.enc) h rfl
          · exact retE (enc := impl_fieldsOk.enc) h rfl
def impl_Kids.enc (r : List Int) : Res := ([(.d (.l true 1 (r.map eI)))], [])
def impl_Kids.f  (K : Nat) (a0 : impl_Node) : Option (List Int) := (impl_Arity.f K a0.Kind).bind fun y1 => ((impl_Arity.f K a0.Kind).bind fun y3 => (gd (0 ≤ y1 ∧ y1 ≤ y3 ∧ y3 ≤ (([a0.A, a0.B, a0.C] : List Int).length : Int)) (some (([a0.A, a0.B, a0.C] : List Int).take (y1).toNat))))
theorem impl_Kids.ev   {K : Nat} {a0 : impl_Node} {r : List Int} (h : impl_Kids.f  K a0 = some r) : E 17 [(.agg (a0.e.map .d))] = some ([(.d (.l true 1 (r.map eI)))], []) := by
  refine Ev_intro (fn := Tryd.f17) rfl (by kernel_rfl) (c := _) rfl ⟨rfl, by simp⟩ rfl (evP_spec _ ?_)
  unfold impl_Kids.f at h
  refine ⟨[[5, 6, 7, 8, 10, 11, 12, 13, 14, 15], [5, 6, 7, 8, 10, 11, 12, 13, 14, 15], [3, 4, 7, 8, 10, 11, 12, 13, 14, 15], [3, 4, 7, 8, 10, 11, 12, 13, 14, 15], [3, 4, 5, 6, 10, 11, 12, 13, 14, 15], [3, 4, 5, 6, 10, 11, 12, 13, 14, 15], [10, 11, 12, 13, 14, 15], [3, 4, 5, 6, 7, 8, 9, 13, 14], [3, 4, 5, 6, 7, 8, 9, 13, 14], [3, 4, 5, 6, 7, 8, 9, 13, 14], [3, 4, 5, 6, 7, 8, 9, 10, 11, 12], [3, 4, 5, 6, 7, 8, 9, 10, 11, 12], [3, 4, 5, 6, 7, 8, 9], [], []], [], by kernel_rfl, ?_⟩
  refine eqM (([a0.A, a0.B, a0.C] : List Int).map eI) rfl ?_
  refine bindG h fun y1 hy2 h => ?_
  refine exM ([(.d (.p (.int .i64 y1)))], []) ?_ ?_
  · exact impl_Arity.ev hy2
  refine bindG h fun y3 hy4 h => ?_
  refine exM ([(.d (.p (.int .i64 y3)))], []) ?_ ?_
  · exact impl_Arity.ev hy4
  refine gdG h fun hc h => ?_
  refine anM (slB hc) ?_
  refine eqM ((([a0.A, a0.B, a0.C] : List Int).take (y1).toNat).map eI) (mTake rfl) ?_
  exact retE (enc := impl_Kids.enc) h rfl
def impl_NodesOk.enc (r : Bool) : Res := ([(.d (.p (.bool r)))], [])
def impl_NodesOk.en (a0 : List impl_Node) (r : Bool) (S : St) : Prop := endV tb md 9 Tryd.f9 [(.d (.l true 7 (a0.map impl_Node.e)))] .ret S = some (impl_NodesOk.enc r)
def impl_NodesOk.l1 (v6 : List Int) (y13 : List Int) (K : Nat) : Nat → Int → Int → Option (Bool ⊕ Int)
  | 0, _, _ => none
  | k + 1, v16, v17 => if v17 ≥ 0 then (jn (fun (v20 : Bool) => if v20 = true then (some (.inl false)) else ((at_ v6 (w64 (v16 - 1))).bind fun x24 => (impl_NodesOk.l1 v6 y13 K k x24 (w64 (v17 - 1))))) (fun j => if v16 = 0 then (j true) else ((at_ y13 v17).bind fun x22 => (j (!(decide (x22 = (w64 (v16 - 1))))))))) else (some (.inr v16))
def impl_NodesOk.l0 (a0 : List impl_Node) (K : Nat) : Nat → Int → (List Int) → Option (Bool ⊕ (List Int))
  | 0, _, _ => none
  | k + 1, v5, v6 => if v5 < (a0.length : Int) then ((at_ a0 v5).bind fun x9 => ((impl_fieldsOk.f K x9).bind fun y10 => (if (!y10) = true then (some (.inl false)) else ((impl_Kids.f K x9).bind fun y13 => (jn (fun (v15 : Int) => (at_ v6 v5).bind fun x25 => (impl_NodesOk.l0 a0 K k (w64 (v5 + 1)) (v6.set (v5).toNat v15))) (fun j => lb (impl_NodesOk.l1 v6 y13 K K v5 (w64 ((y13.length : Int) - 1))) (fun r => some (.inl r)) (fun (v18 : Int) => j v18))))))) else (some (.inr v6))
def impl_NodesOk.f  (K : Nat) (a0 : List impl_Node) : Option (Bool) := (impl_in.f K (a0.length : Int) 1 150).bind fun y1 => (if (!y1) = true then (some false) else (gd (0 ≤ (a0.length : Int) ∧ 8 * (a0.length : Int) ≤ 140737488355328 ∧ (a0.length : Int) ≤ 140737488355328) (jn (fun (v4 : List Int) => (at_ v4 (w64 ((a0.length : Int) - 1))).bind fun x26 => (some (decide (x26 = 0)))) (fun j => lb (impl_NodesOk.l0 a0 K K 0 (List.replicate ((a0.length : Int)).toNat (0 : Int))) (fun r => some r) (fun (v7 : List Int) => j v7)))))
theorem impl_NodesOk.ev   {K : Nat} {a0 : List impl_Node} {r : Bool} (h : impl_NodesOk.f  K a0 = some r) : E 9 [(.d (.l true 7 (a0.map impl_Node.e)))] = some ([(.d (.p (.bool r)))], []) := by
  refine Ev_intro (fn := Tryd.f9) rfl (by kernel_rfl) (c := _) rfl ⟨rfl, by simp⟩ rfl (evP_spec _ ?_)
  unfold impl_NodesOk.f at h
  refine goS ?_
  refine eqM ((a0.length : Int) : Int) (mLen rfl) ?_
  refine bindG h fun y1 hy2 h => ?_
  refine exM ([(.d (.p (.bool y1)))], []) ?_ ?_
  · exact impl_in.ev hy2
  refine ifB h (fun c3 h => ?_) (fun c3 h => ?_)
  · exact retE (enc := impl_NodesOk.enc) h rfl
  · refine eqM ((a0.length : Int) : Int) (mLen rfl) ?_
    refine gdG h fun hc h => ?_
    refine anM ⟨rfl, hc⟩ ?_
    refine eqM ((List.replicate ((a0.length : Int)).toNat (0 : Int)).map eI) (mRep rfl) ?_
    refine seqJ h 64 (fun x => [(0, (.d (.l true 7 (a0.map impl_Node.e)))), (3, (.own 3 1 2))]) (fun x => [(3, 1, 2, (some (.row true true 1 (x.map eI))))]) (fun J h => ?_) ?_
    · refine eqM ((a0.length : Int) : Int) (mLen rfl) ?_
      refine loopB (α := Int × List Int) (a := (0, (List.replicate ((a0.length : Int)).toNat (0 : Int)))) 64 (fun x => [(0, (.d (.l true 7 (a0.map impl_Node.e)))), (3, (.own 3 1 2)), (16, (.d (.l true 7 (a0.map impl_Node.e)))), (17, (.d (.p (.int .i64 (a0.length : Int))))), (18, (.d (.p (.int .i64 x.1))))]) (fun x => [(3, 1, 2, (some (.row true true 1 (x.2.map eI))))]) (fun k x => impl_NodesOk.l0 a0 K k x.1 x.2) (impl_NodesOk.en a0) 0 (fun x => [(0, (.d (.l true 7 (a0.map impl_Node.e)))), (3, (.own 3 1 2))]) (fun x => [(3, 1, 2, (some (.row true true 1 (x.map eI))))]) h (fun _ => rfl) ?_ ⟨rfl, ⟨rfl, rfl, rfl, rfl, rfl, trivial⟩, ⟨rfl, trivial⟩⟩ ?_ ?_
      · rintro k ⟨v5, v6⟩ r h e hp
        replace h : impl_NodesOk.l0 a0 K (k + 1) v5 v6 = some r := h
        unfold impl_NodesOk.l0 at h
        refine goS ?_
        try ((with_reducible apply cdX); exact rfl)
        refine iteF h (fun c8 h => ?_) (fun c8 h => ?_)
        · refine goS ?_
          refine goS ?_
          refine bindG h fun x9 hx9 h => ?_
          refine anM (at_ix rfl hx9) ?_
          refine exM (impl_Node.e x9) (at_get rfl hx9) ?_
          refine goS ?_
          refine bindG h fun y10 hy11 h => ?_
          refine exM ([(.d (.p (.bool y10)))], []) ?_ ?_
          · exact impl_fieldsOk.ev hy11
          refine ifB h (fun c12 h => ?_) (fun c12 h => ?_)
          · exact lqL h rfl
          · refine bindG h fun y13 hy14 h => ?_
            refine exM ([(.d (.l true 1 (y13.map eI)))], []) ?_ ?_
            · exact impl_Kids.ev hy14
            refine seqJ h 64 (fun x => [(0, (.d (.l true 7 (a0.map impl_Node.e)))), (3, (.own 3 1 2)), (4, (.d (.p (.int .i64 v5)))), (7, (.d (.p (.int .i64 x)))), (16, (.d (.l true 7 (a0.map impl_Node.e)))), (17, (.d (.p (.int .i64 (a0.length : Int))))), (18, (.d (.p (.int .i64 v5))))]) (fun x => [(3, 1, 2, (some (.row true true 1 (v6.map eI))))]) (fun J h => ?_) ?_
            · refine eqM ((y13.length : Int) : Int) (mLen rfl) ?_
              refine loopB (α := Int × Int) (a := (v5, (w64 ((y13.length : Int) - 1)))) 64 (fun x => [(0, (.d (.l true 7 (a0.map impl_Node.e)))), (3, (.own 3 1 2)), (4, (.d (.p (.int .i64 v5)))), (6, (.d (.l true 1 (y13.map eI)))), (7, (.d (.p (.int .i64 x.1)))), (8, (.d (.p (.int .i64 x.2)))), (16, (.d (.l true 7 (a0.map impl_Node.e)))), (17, (.d (.p (.int .i64 (a0.length : Int))))), (18, (.d (.p (.int .i64 v5))))]) (fun x => [(3, 1, 2, (some (.row true true 1 (v6.map eI))))]) (fun k x => impl_NodesOk.l1 v6 y13 K k x.1 x.2) (impl_NodesOk.en a0) 2 (fun x => [(0, (.d (.l true 7 (a0.map impl_Node.e)))), (3, (.own 3 1 2)), (4, (.d (.p (.int .i64 v5)))), (7, (.d (.p (.int .i64 x)))), (16, (.d (.l true 7 (a0.map impl_Node.e)))), (17, (.d (.p (.int .i64 (a0.length : Int))))), (18, (.d (.p (.int .i64 v5))))]) (fun x => [(3, 1, 2, (some (.row true true 1 (v6.map eI))))]) h (fun _ => rfl) ?_ ⟨rfl, ⟨rfl, rfl, rfl, rfl, rfl, rfl, rfl, rfl, rfl, trivial⟩, ⟨rfl, trivial⟩⟩ ?_ ?_
              · rintro k ⟨v16, v17⟩ r h e hp
                replace h : impl_NodesOk.l1 v6 y13 K (k + 1) v16 v17 = some r := h
                unfold impl_NodesOk.l1 at h
                refine goS ?_
                try ((with_reducible apply cdX); exact rfl)
                refine iteF h (fun c19 h => ?_) (fun c19 h => ?_)
                · refine goS ?_
                  refine goS ?_
                  refine seqJ h 64 (fun x => [(0, (.d (.l true 7 (a0.map impl_Node.e)))), (3, (.own 3 1 2)), (4, (.d (.p (.int .i64 v5)))), (6, (.d (.l true 1 (y13.map eI)))), (7, (.d (.p (.int .i64 v16)))), (8, (.d (.p (.int .i64 v17)))), (16, (.d (.l true 7 (a0.map impl_Node.e)))), (17, (.d (.p (.int .i64 (a0.length : Int))))), (18, (.d (.p (.int .i64 v5)))), (46, (.d (.p (.bool x))))]) (fun x => [(3, 1, 2, (some (.row true true 1 (v6.map eI))))]) (fun J h => ?_) ?_
                  · try ((with_reducible apply cdX); exact rfl)
                    refine iteF h (fun c21 h => ?_) (fun c21 h => ?_)
                    · refine Ask.T rfl ?_
                      refine Ask.T rfl ?_
                      refine Ask.T rfl ?_
                      refine Ask.T rfl ?_
                      refine Ask.T rfl ?_
                      refine Ask.T rfl ?_
                      refine Ask.T rfl ?_
                      exact ⟨true, h, ⟨rfl, ⟨rfl, rfl, rfl, rfl, rfl, rfl, rfl, rfl, rfl, rfl, trivial⟩, ⟨rfl, trivial⟩⟩⟩
                    · refine Ask.F rfl ?_
                      refine Ask.F rfl ?_
                      refine bindG h fun x22 hx22 h => ?_
                      refine anM (at_ix rfl hx22) ?_
                      refine Ask.F rfl ?_
                      refine exM (eI x22) (at_get rfl hx22) ?_
                      refine Ask.F rfl ?_
                      refine Ask.F rfl ?_
                      refine Ask.F rfl ?_
                      refine Ask.F rfl ?_
                      exact ⟨(!(decide (x22 = (w64 (v16 - 1))))), h, ⟨rfl, ⟨rfl, rfl, rfl, rfl, rfl, rfl, rfl, rfl, rfl, rfl, trivial⟩, ⟨rfl, trivial⟩⟩⟩
                  · rintro v20 h e hp
                    try ((with_reducible apply cdX); exact rfl)
                    refine ifB h (fun c23 h => ?_) (fun c23 h => ?_)
                    · exact lqL h rfl
                    · refine bindG h fun x24 hx24 h => ?_
                      refine anM (at_ix rfl hx24) ?_
                      refine exM (eI x24) (at_get rfl hx24) ?_
                      exact ⟨(x24, (w64 (v17 - 1))), h, ⟨rfl, ⟨rfl, rfl, rfl, rfl, rfl, rfl, rfl, rfl, rfl, trivial⟩, ⟨rfl, trivial⟩⟩⟩
                · refine lqR h ?_
                  exact ⟨rfl, ⟨rfl, rfl, rfl, rfl, rfl, rfl, rfl, trivial⟩, ⟨rfl, trivial⟩⟩
              · intro r' S' h q
                exact lqL h q
              · rintro v18 S' h ⟨qn, ⟨qa0, qa1, qa2, qa3, qa4, qa5, qa6, _⟩, ⟨qb0, _⟩⟩
                exact ⟨v18, h, ⟨qn, ⟨qa0, qa1, qa2, qa3, qa4, qa5, qa6, trivial⟩, ⟨qb0, trivial⟩⟩⟩
            · rintro v15 h e hp
              refine bindG h fun x25 hx25 h => ?_
              refine anM (at_ix rfl hx25) ?_
              refine exM (eI x25) (at_get rfl hx25) ?_
              refine eqM ((v6.set (v5).toNat v15).map eI) (mSet rfl rfl) ?_
              exact ⟨((w64 (v5 + 1)), (v6.set (v5).toNat v15)), h, ⟨rfl, ⟨rfl, rfl, rfl, rfl, rfl, trivial⟩, ⟨rfl, trivial⟩⟩⟩
        · refine lqR h ?_
          exact ⟨rfl, ⟨rfl, rfl, trivial⟩, ⟨rfl, trivial⟩⟩
      · intro r' S' h q
        exact retE (enc := impl_NodesOk.enc) h q
      · rintro v7 S' h ⟨qn, ⟨qa0, qa1, _⟩, ⟨qb0, _⟩⟩
        exact ⟨v7, h, ⟨qn, ⟨qa0, qa1, trivial⟩, ⟨qb0, trivial⟩⟩⟩
    · rintro v4 h e hp
      refine eqM ((a0.length : Int) : Int) (mLen rfl) ?_
      refine bindG h fun x26 hx26 h => ?_
      refine anM (at_ix rfl hx26) ?_
      refine exM (eI x26) (at_get rfl hx26) ?_
      exact retE (enc := impl_NodesOk.enc) h rfl
def spec_l1In.enc (r : Bool) : Res := ([(.d (.p (.bool r)))], [])
def spec_l1In.f  (K : Nat) (a0 : Int) (a1 : Int) (a2 : Int) : Option (Bool) := if a0 ≥ a1 then (some (decide (a0 ≤ a2))) else (some false)
theorem spec_l1In.ev   {K : Nat} {a0 : Int} {a1 : Int} {a2 : Int} {r : Bool} (h : spec_l1In.f  K a0 a1 a2 = some r) : E 38 [(.d (.p (.int .i64 a0))), (.d (.p (.int .i64 a1))), (.d (.p (.int .i64 a2)))] = some ([(.d (.p (.bool r)))], []) := by
  refine Ev_intro (fn := Tryd.f38) rfl (by kernel_rfl) (c := _) rfl ⟨rfl, by simp⟩ rfl (evP_spec _ ?_)
  unfold spec_l1In.f at h
  refine goS ?_
  try ((with_reducible apply cdX); exact rfl)
  refine iteF h (fun c1 h => ?_) (fun c1 h => ?_)
  · refine Ask.T rfl ?_
    refine Ask.T rfl ?_
    refine Ask.T rfl ?_
    exact retE (enc := spec_l1In.enc) h rfl
  · refine Ask.F rfl ?_
    refine Ask.F rfl ?_
    refine Ask.F rfl ?_
    exact retE (enc := spec_l1In.enc) h rfl
def spec_l2Letter.enc (r : Bool) : Res := ([(.d (.p (.bool r)))], [])
def spec_l2Letter.f  (K : Nat) (a0 : Int) : Option (Bool) := if a0 ≥ 97 then (some (decide (a0 ≤ 122))) else (some false)
theorem spec_l2Letter.ev   {K : Nat} {a0 : Int} {r : Bool} (h : spec_l2Letter.f  K a0 = some r) : E 80 [(.d (.p (.int .u8 a0)))] = some ([(.d (.p (.bool r)))], []) := by
  refine Ev_intro (fn := Tryd.f80) rfl (by kernel_rfl) (c := _) rfl ⟨rfl, by simp⟩ rfl (evP_spec _ ?_)
  unfold spec_l2Letter.f at h
  refine goS ?_
  try ((with_reducible apply cdX); exact rfl)
  refine iteF h (fun c1 h => ?_) (fun c1 h => ?_)
  · refine Ask.T rfl ?_
    refine Ask.T rfl ?_
    exact retE (enc := spec_l2Letter.enc) h rfl
  · refine Ask.F rfl ?_
    refine Ask.F rfl ?_
    exact retE (enc := spec_l2Letter.enc) h rfl
def spec_IsWord.enc (r : Bool) : Res := ([(.d (.p (.bool r)))], [])
def spec_IsWord.en (a0 : ByteArray) (r : Bool) (S : St) : Prop := endV tb md 82 Tryd.f82 [(.d (.p (.string a0)))] .ret S = some (spec_IsWord.enc r)
def spec_IsWord.l0 (a0 : ByteArray) (K : Nat) : Nat → Int → Option (Bool ⊕ Unit)
  | 0, _ => none
  | k + 1, v1 => if v1 < (a0.size : Int) then ((atS a0 v1).bind fun x3 => ((spec_l2Letter.f K (x3.toNat : Int)).bind fun y4 => (if (!y4) = true then (some (.inl false)) else (spec_IsWord.l0 a0 K k (w64 (v1 + 1)))))) else (some (.inr ()))
def spec_IsWord.f  (K : Nat) (a0 : ByteArray) : Option (Bool) := jn (fun (_ : Unit) => (spec_l1In.f K (a0.size : Int) 1 8).bind fun y7 => (some y7)) (fun j => lb (spec_IsWord.l0 a0 K K 0) (fun r => some r) (fun (_ : Unit) => j ()))
theorem spec_IsWord.ev   {K : Nat} {a0 : ByteArray} {r : Bool} (h : spec_IsWord.f  K a0 = some r) : E 82 [(.d (.p (.string a0)))] = some ([(.d (.p (.bool r)))], []) := by
  refine Ev_intro (fn := Tryd.f82) rfl (by kernel_rfl) (c := _) rfl ⟨rfl, by simp⟩ rfl (evP_spec _ ?_)
  unfold spec_IsWord.f at h
  refine seqJ h 18 (fun x => [(0, (.d (.p (.string a0))))]) (fun x => []) (fun J h => ?_) ?_
  · refine loopB (α := Int) (a := 0) 18 (fun x => [(0, (.d (.p (.string a0)))), (3, (.d (.p (.int .i64 x))))]) (fun x => []) (fun k x => spec_IsWord.l0 a0 K k x) (spec_IsWord.en a0) 0 (fun x => [(0, (.d (.p (.string a0))))]) (fun x => []) h (fun _ => rfl) ?_ ⟨rfl, ⟨rfl, rfl, trivial⟩, trivial⟩ ?_ ?_
    · rintro k v1 r h e hp
      replace h : spec_IsWord.l0 a0 K (k + 1) v1 = some r := h
      unfold spec_IsWord.l0 at h
      refine goS ?_
      try ((with_reducible apply cdX); exact rfl)
      refine iteF h (fun c2 h => ?_) (fun c2 h => ?_)
      · refine goS ?_
        refine bindG h fun x3 hx3 h => ?_
        refine exM x3 hx3 ?_
        refine bindG h fun y4 hy5 h => ?_
        refine exM ([(.d (.p (.bool y4)))], []) ?_ ?_
        · exact spec_l2Letter.ev hy5
        refine ifB h (fun c6 h => ?_) (fun c6 h => ?_)
        · exact lqL h rfl
        · exact ⟨(w64 (v1 + 1)), h, ⟨rfl, ⟨rfl, rfl, trivial⟩, trivial⟩⟩
      · refine lqR h ?_
        exact ⟨rfl, ⟨rfl, trivial⟩, trivial⟩
    · intro r' S' h q
      exact retE (enc := spec_IsWord.enc) h q
    · rintro _ S' h ⟨qn, ⟨qa0, _⟩, ⟨_⟩⟩
      exact ⟨(), h, ⟨qn, ⟨qa0, trivial⟩, trivial⟩⟩
  · rintro _ h e hp
    refine bindG h fun y7 hy8 h => ?_
    refine exM ([(.d (.p (.bool y7)))], []) ?_ ?_
    · exact spec_l1In.ev hy8
    exact retE (enc := spec_IsWord.enc) h rfl
def spec_l3Keys.enc (r : List ByteArray) : Res := ([(.own true 1 (r.map eS))], [])
def spec_l3Keys.f  (K : Nat)  : Option (List ByteArray) := some ([(⟨#[102, 117, 110]⟩ : ByteArray), (⟨#[97, 112, 112]⟩ : ByteArray), (⟨#[108, 101, 116]⟩ : ByteArray), (⟨#[114, 101, 99]⟩ : ByteArray), (⟨#[105, 102]⟩ : ByteArray), (⟨#[97, 100, 100]⟩ : ByteArray), (⟨#[115, 117, 98]⟩ : ByteArray), (⟨#[108, 101, 115, 115]⟩ : ByteArray), (⟨#[115, 97, 109, 101]⟩ : ByteArray), (⟨#[112, 97, 105, 114]⟩ : ByteArray), (⟨#[102, 115, 116]⟩ : ByteArray), (⟨#[115, 110, 100]⟩ : ByteArray), (⟨#[110, 105, 108]⟩ : ByteArray), (⟨#[99, 111, 110, 115]⟩ : ByteArray), (⟨#[109, 97, 116, 99, 104]⟩ : ByteArray), (⟨#[114, 101, 102]⟩ : ByteArray), (⟨#[103, 101, 116]⟩ : ByteArray), (⟨#[115, 101, 116]⟩ : ByteArray), (⟨#[114, 97, 105, 115, 101]⟩ : ByteArray), (⟨#[116, 114, 121]⟩ : ByteArray)] : List ByteArray)
theorem spec_l3Keys.ev   {K : Nat}  {r : List ByteArray} (h : spec_l3Keys.f  K  = some r) : E 124 [] = some ([(.own true 1 (r.map eS))], []) := by
  refine Ev_intro (fn := Tryd.f124) rfl (by kernel_rfl) (c := _) rfl ⟨rfl, by simp⟩ rfl (evP_spec _ ?_)
  unfold spec_l3Keys.f at h
  refine eqM (([(⟨#[102, 117, 110]⟩ : ByteArray), (⟨#[97, 112, 112]⟩ : ByteArray), (⟨#[108, 101, 116]⟩ : ByteArray), (⟨#[114, 101, 99]⟩ : ByteArray), (⟨#[105, 102]⟩ : ByteArray), (⟨#[97, 100, 100]⟩ : ByteArray), (⟨#[115, 117, 98]⟩ : ByteArray), (⟨#[108, 101, 115, 115]⟩ : ByteArray), (⟨#[115, 97, 109, 101]⟩ : ByteArray), (⟨#[112, 97, 105, 114]⟩ : ByteArray), (⟨#[102, 115, 116]⟩ : ByteArray), (⟨#[115, 110, 100]⟩ : ByteArray), (⟨#[110, 105, 108]⟩ : ByteArray), (⟨#[99, 111, 110, 115]⟩ : ByteArray), (⟨#[109, 97, 116, 99, 104]⟩ : ByteArray), (⟨#[114, 101, 102]⟩ : ByteArray), (⟨#[103, 101, 116]⟩ : ByteArray), (⟨#[115, 101, 116]⟩ : ByteArray), (⟨#[114, 97, 105, 115, 101]⟩ : ByteArray), (⟨#[116, 114, 121]⟩ : ByteArray)] : List ByteArray).map eS) rfl ?_
  exact retE (enc := spec_l3Keys.enc) h rfl
def spec_IsKey.enc (r : Bool) : Res := ([(.d (.p (.bool r)))], [])
def spec_IsKey.en (a0 : ByteArray) (r : Bool) (S : St) : Prop := endV tb md 112 Tryd.f112 [(.d (.p (.string a0)))] .ret S = some (spec_IsKey.enc r)
def spec_IsKey.l0 (a0 : ByteArray) (y1 : List ByteArray) (K : Nat) : Nat → Int → Option (Bool ⊕ Unit)
  | 0, _ => none
  | k + 1, v3 => if v3 < (y1.length : Int) then ((at_ y1 v3).bind fun x5 => (if (x5.toList == a0.toList) = true then (some (.inl true)) else (spec_IsKey.l0 a0 y1 K k (w64 (v3 + 1))))) else (some (.inr ()))
def spec_IsKey.f  (K : Nat) (a0 : ByteArray) : Option (Bool) := (spec_l3Keys.f K).bind fun y1 => (jn (fun (_ : Unit) => some false) (fun j => lb (spec_IsKey.l0 a0 y1 K K 0) (fun r => some r) (fun (_ : Unit) => j ())))
theorem spec_IsKey.ev   {K : Nat} {a0 : ByteArray} {r : Bool} (h : spec_IsKey.f  K a0 = some r) : E 112 [(.d (.p (.string a0)))] = some ([(.d (.p (.bool r)))], []) := by
  refine Ev_intro (fn := Tryd.f112) rfl (by kernel_rfl) (c := _) rfl ⟨rfl, by simp⟩ rfl (evP_spec _ ?_)
  unfold spec_IsKey.f at h
  refine bindG h fun y1 hy2 h => ?_
  refine exM ([(.own true 1 (y1.map eS))], []) ?_ ?_
  · exact spec_l3Keys.ev hy2
  refine seqJ h 18 (fun x => []) (fun x => []) (fun J h => ?_) ?_
  · refine loopB (α := Int) (a := 0) 18 (fun x => [(0, (.d (.p (.string a0)))), (3, (.own 3 1 2)), (4, (.d (.p (.int .i64 x))))]) (fun x => [(3, 1, 2, (some (.row true true 1 (y1.map eS))))]) (fun k x => spec_IsKey.l0 a0 y1 K k x) (spec_IsKey.en a0) 0 (fun x => []) (fun x => []) h (fun _ => rfl) ?_ ⟨rfl, ⟨rfl, rfl, rfl, trivial⟩, ⟨rfl, trivial⟩⟩ ?_ ?_
    · rintro k v3 r h e hp
      replace h : spec_IsKey.l0 a0 y1 K (k + 1) v3 = some r := h
      unfold spec_IsKey.l0 at h
      refine goS ?_
      refine eqM ((y1.length : Int) : Int) (mLen rfl) ?_
      refine iteF h (fun c4 h => ?_) (fun c4 h => ?_)
      · refine goS ?_
        refine bindG h fun x5 hx5 h => ?_
        refine anM (at_ix rfl hx5) ?_
        refine exM (eS x5) (at_get rfl hx5) ?_
        refine ifB h (fun c6 h => ?_) (fun c6 h => ?_)
        · exact lqL h rfl
        · exact ⟨(w64 (v3 + 1)), h, ⟨rfl, ⟨rfl, rfl, rfl, trivial⟩, ⟨rfl, trivial⟩⟩⟩
      · refine lqR h ?_
        exact ⟨rfl, trivial, trivial⟩
    · intro r' S' h q
      exact retE (enc := spec_IsKey.enc) h q
    · rintro _ S' h ⟨qn, ⟨_⟩, ⟨_⟩⟩
      exact ⟨(), h, ⟨qn, trivial, trivial⟩⟩
  · rintro _ h e hp
    exact retE (enc := spec_IsKey.enc) h rfl
def spec_l3Name.enc (r : Bool) : Res := ([(.d (.p (.bool r)))], [])
def spec_l3Name.f  (K : Nat) (a0 : ByteArray) : Option (Bool) := (spec_IsWord.f K a0).bind fun y1 => (if y1 = true then ((spec_IsKey.f K a0).bind fun y4 => (some (!y4))) else (some false))
theorem spec_l3Name.ev   {K : Nat} {a0 : ByteArray} {r : Bool} (h : spec_l3Name.f  K a0 = some r) : E 101 [(.d (.p (.string a0)))] = some ([(.d (.p (.bool r)))], []) := by
  refine Ev_intro (fn := Tryd.f101) rfl (by kernel_rfl) (c := _) rfl ⟨rfl, by simp⟩ rfl (evP_spec _ ?_)
  unfold spec_l3Name.f at h
  refine goS ?_
  refine bindG h fun y1 hy2 h => ?_
  refine exM ([(.d (.p (.bool y1)))], []) ?_ ?_
  · exact spec_IsWord.ev hy2
  refine ifB h (fun c3 h => ?_) (fun c3 h => ?_)
  · refine Ask.T rfl ?_
    refine bindG h fun y4 hy5 h => ?_
    refine exM ([(.d (.p (.bool y4)))], []) ?_ ?_
    · exact spec_IsKey.ev hy5
    refine Ask.T rfl ?_
    refine Ask.T rfl ?_
    exact retE (enc := spec_l3Name.enc) h rfl
  · refine Ask.F rfl ?_
    refine Ask.F rfl ?_
    refine Ask.F rfl ?_
    exact retE (enc := spec_l3Name.enc) h rfl
def spec_l3Fields.enc (r : Bool) : Res := ([(.d (.p (.bool r)))], [])
def spec_l3Fields.f  (K : Nat) (a0 : impl_Node) : Option (Bool) := (spec_l1In.f K a0.Kind 1 19).bind fun y1 => (if (!y1) = true then (some false) else ((spec_Arity.f K a0.Kind).bind fun y4 => (jn (fun (v6 : Bool) => if v6 = true then (some false) else ((spec_l3Names.f K a0.Kind).bind fun y18 => (jn (fun (v20 : Bool) => if v20 = true then (some false) else (if a0.Kind = 2 then ((spec_l1In.f K a0.N 0 65535).bind fun y36 => (some y36)) else (if a0.Kind = 8 then ((spec_l1In.f K a0.N 0 3).bind fun y39 => (some y39)) else (some (decide (a0.N = 0)))))) (fun j => (spec_l3Name.f K a0.Name).bind fun y21 => (if ((decide (y18 > 0)) != y21) = true then (j true) else (if y18 = 0 then (if (!(a0.Name.toList == (⟨#[]⟩ : ByteArray).toList)) = true then (j true) else ((spec_l3Name.f K a0.Other).bind fun y26 => (if ((decide (y18 > 1)) != y26) = true then (j true) else (if y18 < 2 then (j (!(a0.Other.toList == (⟨#[]⟩ : ByteArray).toList))) else (j false))))) else ((spec_l3Name.f K a0.Other).bind fun y30 => (if ((decide (y18 > 1)) != y30) = true then (j true) else (if y18 < 2 then (j (!(a0.Other.toList == (⟨#[]⟩ : ByteArray).toList))) else (j false)))))))))) (fun j => if y4 < 1 then (if (!(decide (a0.A = 0))) = true then (j true) else (if y4 < 2 then (if (!(decide (a0.B = 0))) = true then (j true) else (if y4 < 3 then (j (!(decide (a0.C = 0)))) else (j false))) else (if y4 < 3 then (j (!(decide (a0.C = 0)))) else (j false)))) else (if y4 < 2 then (if (!(decide (a0.B = 0))) = true then (j true) else (if y4 < 3 then (j (!(decide (a0.C = 0)))) else (j false))) else (if y4 < 3 then (j (!(decide (a0.C = 0)))) else (j false)))))))
theorem spec_l3Fields.ev   {K : Nat} {a0 : impl_Node} {r : Bool} (h : spec_l3Fields.f  K a0 = some r) : E 68 [(.agg (a0.e.map .d))] = some ([(.d (.p (.bool r)))], []) := by
  refine Ev_intro (fn := Tryd.f68) rfl (by kernel_rfl) (c := _) rfl ⟨rfl, by simp⟩ rfl (evP_spec _ ?_)
  unfold spec_l3Fields.f at h
  refine goS ?_
  refine bindG h fun y1 hy2 h => ?_
  refine exM ([(.d (.p (.bool y1)))], []) ?_ ?_
  · exact spec_l1In.ev hy2
  refine ifB h (fun c3 h => ?_) (fun c3 h => ?_)
  · exact retE (enc := spec_l3Fields.enc) h rfl
  · refine bindG h fun y4 hy5 h => ?_
    refine exM ([(.d (.p (.int .i64 y4)))], []) ?_ ?_
    · exact spec_Arity.ev hy5
    refine goS ?_
    refine seqJ h 87 (fun x => [(1, (.ptr 1 0 2 0)), (36, (.d (.p (.bool x))))]) (fun x => [(1, 0, 2, (some (.box [(.d (.p (.int .i64 a0.Kind))), (.d (.p (.int .i64 a0.A))), (.d (.p (.int .i64 a0.B))), (.d (.p (.int .i64 a0.C))), (.d (.p (.int .i64 a0.N))), (.d (.p (.string a0.Name))), (.d (.p (.string a0.Other)))])))]) (fun J h => ?_) ?_
    · try ((with_reducible apply cdX); exact rfl)
      refine iteF h (fun c7 h => ?_) (fun c7 h => ?_)
      · refine Ask.T rfl ?_
        refine Ask.T rfl ?_
        refine Ask.T rfl ?_
        refine ifB h (fun c8 h => ?_) (fun c8 h => ?_)
        · refine Ask.T rfl ?_
          refine Ask.T rfl ?_
          refine Ask.T rfl ?_
          refine Ask.T rfl ?_
          refine Ask.T rfl ?_
          refine Ask.T rfl ?_
          refine Ask.T rfl ?_
          refine Ask.T rfl ?_
          refine Ask.T rfl ?_
          exact ⟨true, h, ⟨rfl, ⟨rfl, rfl, trivial⟩, ⟨rfl, trivial⟩⟩⟩
        · refine Ask.F rfl ?_
          refine Ask.F rfl ?_
          refine iteF h (fun c9 h => ?_) (fun c9 h => ?_)
          · refine Ask.T rfl ?_
            refine Ask.T rfl ?_
            refine Ask.F rfl ?_
            refine Ask.T rfl ?_
            refine Ask.F rfl ?_
            refine ifB h (fun c10 h => ?_) (fun c10 h => ?_)
            · refine Ask.T rfl ?_
              refine Ask.T rfl ?_
              refine Ask.T rfl ?_
              refine Ask.T rfl ?_
              exact ⟨true, h, ⟨rfl, ⟨rfl, rfl, trivial⟩, ⟨rfl, trivial⟩⟩⟩
            · refine Ask.F rfl ?_
              refine Ask.F rfl ?_
              refine iteF h (fun c11 h => ?_) (fun c11 h => ?_)
              · refine Ask.T rfl ?_
                refine Ask.T rfl ?_
                refine Ask.F rfl ?_
                refine Ask.T rfl ?_
                refine Ask.F rfl ?_
                exact ⟨(!(decide (a0.C = 0))), h, ⟨rfl, ⟨rfl, rfl, trivial⟩, ⟨rfl, trivial⟩⟩⟩
              · refine Ask.F rfl ?_
                refine Ask.F rfl ?_
                refine Ask.F rfl ?_
                refine Ask.F rfl ?_
                refine Ask.F rfl ?_
                exact ⟨false, h, ⟨rfl, ⟨rfl, rfl, trivial⟩, ⟨rfl, trivial⟩⟩⟩
          · refine Ask.F rfl ?_
            refine Ask.F rfl ?_
            refine Ask.F rfl ?_
            refine Ask.F rfl ?_
            refine Ask.F rfl ?_
            refine Ask.F rfl ?_
            refine Ask.F rfl ?_
            refine Ask.F rfl ?_
            refine iteF h (fun c12 h => ?_) (fun c12 h => ?_)
            · refine Ask.T rfl ?_
              refine Ask.T rfl ?_
              refine Ask.F rfl ?_
              refine Ask.T rfl ?_
              refine Ask.F rfl ?_
              exact ⟨(!(decide (a0.C = 0))), h, ⟨rfl, ⟨rfl, rfl, trivial⟩, ⟨rfl, trivial⟩⟩⟩
            · refine Ask.F rfl ?_
              refine Ask.F rfl ?_
              refine Ask.F rfl ?_
              refine Ask.F rfl ?_
              refine Ask.F rfl ?_
              exact ⟨false, h, ⟨rfl, ⟨rfl, rfl, trivial⟩, ⟨rfl, trivial⟩⟩⟩
      · refine Ask.F rfl ?_
        refine Ask.F rfl ?_
        refine Ask.F rfl ?_
        refine Ask.F rfl ?_
        refine Ask.F rfl ?_
        refine Ask.F rfl ?_
        refine iteF h (fun c13 h => ?_) (fun c13 h => ?_)
        · refine Ask.T rfl ?_
          refine Ask.T rfl ?_
          refine Ask.F rfl ?_
          refine Ask.T rfl ?_
          refine Ask.F rfl ?_
          refine ifB h (fun c14 h => ?_) (fun c14 h => ?_)
          · refine Ask.T rfl ?_
            refine Ask.T rfl ?_
            refine Ask.T rfl ?_
            refine Ask.T rfl ?_
            exact ⟨true, h, ⟨rfl, ⟨rfl, rfl, trivial⟩, ⟨rfl, trivial⟩⟩⟩
          · refine Ask.F rfl ?_
            refine Ask.F rfl ?_
            refine iteF h (fun c15 h => ?_) (fun c15 h => ?_)
            · refine Ask.T rfl ?_
              refine Ask.T rfl ?_
              refine Ask.F rfl ?_
              refine Ask.T rfl ?_
              refine Ask.F rfl ?_
              exact ⟨(!(decide (a0.C = 0))), h, ⟨rfl, ⟨rfl, rfl, trivial⟩, ⟨rfl, trivial⟩⟩⟩
            · refine Ask.F rfl ?_
              refine Ask.F rfl ?_
              refine Ask.F rfl ?_
              refine Ask.F rfl ?_
              refine Ask.F rfl ?_
              exact ⟨false, h, ⟨rfl, ⟨rfl, rfl, trivial⟩, ⟨rfl, trivial⟩⟩⟩
        · refine Ask.F rfl ?_
          refine Ask.F rfl ?_
          refine Ask.F rfl ?_
          refine Ask.F rfl ?_
          refine Ask.F rfl ?_
          refine Ask.F rfl ?_
          refine Ask.F rfl ?_
          refine Ask.F rfl ?_
          refine iteF h (fun c16 h => ?_) (fun c16 h => ?_)
          · refine Ask.T rfl ?_
            refine Ask.T rfl ?_
            refine Ask.F rfl ?_
            refine Ask.T rfl ?_
            refine Ask.F rfl ?_
            exact ⟨(!(decide (a0.C = 0))), h, ⟨rfl, ⟨rfl, rfl, trivial⟩, ⟨rfl, trivial⟩⟩⟩
          · refine Ask.F rfl ?_
            refine Ask.F rfl ?_
            refine Ask.F rfl ?_
            refine Ask.F rfl ?_
            refine Ask.F rfl ?_
            exact ⟨false, h, ⟨rfl, ⟨rfl, rfl, trivial⟩, ⟨rfl, trivial⟩⟩⟩
    · rintro v6 h e hp
      try ((with_reducible apply cdX); exact rfl)
      refine ifB h (fun c17 h => ?_) (fun c17 h => ?_)
      · exact retE (enc := spec_l3Fields.enc) h rfl
      · refine bindG h fun y18 hy19 h => ?_
        refine exM ([(.d (.p (.int .i64 y18)))], []) ?_ ?_
        · exact spec_l3Names.ev hy19
        refine goS ?_
        refine seqJ h 87 (fun x => [(1, (.ptr 1 0 2 0)), (71, (.d (.p (.bool x))))]) (fun x => [(1, 0, 2, (some (.box [(.d (.p (.int .i64 a0.Kind))), (.d (.p (.int .i64 a0.A))), (.d (.p (.int .i64 a0.B))), (.d (.p (.int .i64 a0.C))), (.d (.p (.int .i64 a0.N))), (.d (.p (.string a0.Name))), (.d (.p (.string a0.Other)))])))]) (fun J h => ?_) ?_
        · refine bindG h fun y21 hy22 h => ?_
          refine exM ([(.d (.p (.bool y21)))], []) ?_ ?_
          · exact spec_l3Name.ev hy22
          refine ifB h (fun c23 h => ?_) (fun c23 h => ?_)
          · refine Ask.T rfl ?_
            refine Ask.T rfl ?_
            refine Ask.T rfl ?_
            refine Ask.T rfl ?_
            refine Ask.T rfl ?_
            refine Ask.T rfl ?_
            refine Ask.T rfl ?_
            refine Ask.T rfl ?_
            refine Ask.T rfl ?_
            refine Ask.T rfl ?_
            refine Ask.T rfl ?_
            refine Ask.T rfl ?_
            refine Ask.T rfl ?_
            refine Ask.T rfl ?_
            refine Ask.T rfl ?_
            refine Ask.T rfl ?_
            exact ⟨true, h, ⟨rfl, ⟨rfl, rfl, trivial⟩, ⟨rfl, trivial⟩⟩⟩
          · refine Ask.F rfl ?_
            refine Ask.F rfl ?_
            refine iteF h (fun c24 h => ?_) (fun c24 h => ?_)
            · refine Ask.T rfl ?_
              refine Ask.T rfl ?_
              refine Ask.F rfl ?_
              refine Ask.T rfl ?_
              refine Ask.F rfl ?_
              refine ifB h (fun c25 h => ?_) (fun c25 h => ?_)
              · refine Ask.T rfl ?_
                refine Ask.T rfl ?_
                refine Ask.T rfl ?_
                refine Ask.T rfl ?_
                refine Ask.T rfl ?_
                refine Ask.T rfl ?_
                refine Ask.T rfl ?_
                refine Ask.T rfl ?_
                refine Ask.T rfl ?_
                refine Ask.T rfl ?_
                refine Ask.T rfl ?_
                exact ⟨true, h, ⟨rfl, ⟨rfl, rfl, trivial⟩, ⟨rfl, trivial⟩⟩⟩
              · refine Ask.F rfl ?_
                refine Ask.F rfl ?_
                refine Ask.F rfl ?_
                refine Ask.F rfl ?_
                refine bindG h fun y26 hy27 h => ?_
                refine exM ([(.d (.p (.bool y26)))], []) ?_ ?_
                · exact spec_l3Name.ev hy27
                refine Ask.F rfl ?_
                refine Ask.F rfl ?_
                refine ifB h (fun c28 h => ?_) (fun c28 h => ?_)
                · refine Ask.T rfl ?_
                  refine Ask.T rfl ?_
                  refine Ask.T rfl ?_
                  refine Ask.T rfl ?_
                  exact ⟨true, h, ⟨rfl, ⟨rfl, rfl, trivial⟩, ⟨rfl, trivial⟩⟩⟩
                · refine Ask.F rfl ?_
                  refine Ask.F rfl ?_
                  refine iteF h (fun c29 h => ?_) (fun c29 h => ?_)
                  · refine Ask.T rfl ?_
                    refine Ask.T rfl ?_
                    refine Ask.F rfl ?_
                    refine Ask.T rfl ?_
                    refine Ask.F rfl ?_
                    exact ⟨(!(a0.Other.toList == (⟨#[]⟩ : ByteArray).toList)), h, ⟨rfl, ⟨rfl, rfl, trivial⟩, ⟨rfl, trivial⟩⟩⟩
                  · refine Ask.F rfl ?_
                    refine Ask.F rfl ?_
                    refine Ask.F rfl ?_
                    refine Ask.F rfl ?_
                    refine Ask.F rfl ?_
                    exact ⟨false, h, ⟨rfl, ⟨rfl, rfl, trivial⟩, ⟨rfl, trivial⟩⟩⟩
            · refine Ask.F rfl ?_
              refine Ask.F rfl ?_
              refine Ask.F rfl ?_
              refine Ask.F rfl ?_
              refine Ask.F rfl ?_
              refine Ask.F rfl ?_
              refine Ask.F rfl ?_
              refine Ask.F rfl ?_
              refine Ask.F rfl ?_
              refine Ask.F rfl ?_
              refine bindG h fun y30 hy31 h => ?_
              refine exM ([(.d (.p (.bool y30)))], []) ?_ ?_
              · exact spec_l3Name.ev hy31
              refine Ask.F rfl ?_
              refine Ask.F rfl ?_
              refine ifB h (fun c32 h => ?_) (fun c32 h => ?_)
              · refine Ask.T rfl ?_
                refine Ask.T rfl ?_
                refine Ask.T rfl ?_
                refine Ask.T rfl ?_
                exact ⟨true, h, ⟨rfl, ⟨rfl, rfl, trivial⟩, ⟨rfl, trivial⟩⟩⟩
              · refine Ask.F rfl ?_
                refine Ask.F rfl ?_
                refine iteF h (fun c33 h => ?_) (fun c33 h => ?_)
                · refine Ask.T rfl ?_
                  refine Ask.T rfl ?_
                  refine Ask.F rfl ?_
                  refine Ask.T rfl ?_
                  refine Ask.F rfl ?_
                  exact ⟨(!(a0.Other.toList == (⟨#[]⟩ : ByteArray).toList)), h, ⟨rfl, ⟨rfl, rfl, trivial⟩, ⟨rfl, trivial⟩⟩⟩
                · refine Ask.F rfl ?_
                  refine Ask.F rfl ?_
                  refine Ask.F rfl ?_
                  refine Ask.F rfl ?_
                  refine Ask.F rfl ?_
                  exact ⟨false, h, ⟨rfl, ⟨rfl, rfl, trivial⟩, ⟨rfl, trivial⟩⟩⟩
        · rintro v20 h e hp
          try ((with_reducible apply cdX); exact rfl)
          refine ifB h (fun c34 h => ?_) (fun c34 h => ?_)
          · exact retE (enc := spec_l3Fields.enc) h rfl
          · refine goS ?_
            try ((with_reducible apply cdX); exact rfl)
            refine iteF h (fun c35 h => ?_) (fun c35 h => ?_)
            · refine bindG h fun y36 hy37 h => ?_
              refine exM ([(.d (.p (.bool y36)))], []) ?_ ?_
              · exact spec_l1In.ev hy37
              exact retE (enc := spec_l3Fields.enc) h rfl
            · try ((with_reducible apply cdX); exact rfl)
              refine iteF h (fun c38 h => ?_) (fun c38 h => ?_)
              · refine bindG h fun y39 hy40 h => ?_
                refine exM ([(.d (.p (.bool y39)))], []) ?_ ?_
                · exact spec_l1In.ev hy40
                exact retE (enc := spec_l3Fields.enc) h rfl
              · exact retE (enc := spec_l3Fields.enc) h rfl
end Go.Proofs.YtfkanjgfjejgiaaDoorE
