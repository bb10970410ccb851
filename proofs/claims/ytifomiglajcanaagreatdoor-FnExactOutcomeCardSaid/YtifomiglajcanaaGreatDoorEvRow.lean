/- The evaluator: EvRow. -/
import Derived.Test.YtifomiglajcanaaGreatDoorEvOpen
set_option linter.unusedSimpArgs false
set_option linter.unusedVariables false
namespace Go.Ev
open Go.RowKit Go.Deep Go.WideShapes
set_option linter.unusedVariables false
variable {P : Program}
theorem RO.noB {B : Nat → Nat → Prop} (hB : ∀ g o, ¬ B g o) {w : World} {x : D} {v : Value} (r : RO NoB w x v) : RO B w x v := r.keep (fun _ _ _ _ => rfl) fun g o _ h => (hB g o h).elim
theorem Rd.tcs {B : Nat → Nat → Prop} (hB : ∀ g o, ¬ B g o) {w : World} : ∀ {xs : List D} {cs : List Value}, Rd w xs cs → TCs B w (xs.map .d) cs []
  | [], [], _ => .nil
  | x :: xs, c :: cs, h => by
    have := TCs.cons (A := []) (L := []) (.d ((h.2 0 x c rfl rfl).noB hB)) (Rd.tcs hB (xs := xs) (cs := cs) ⟨by simpa using h.1, fun j y v a b => h.2 (j + 1) y v (by simpa using a) (by simpa using b)⟩)
    exact this
  | [], c :: cs, h => by cases h.1
  | x :: xs, [], h => by cases h.1
def NoM : Nat → Nat → Prop := Or2 (fun _ _ => False) (cellsL [])
theorem noM (g o : Nat) : ¬ NoM g o := fun h => h.elim _root_.id fun ⟨p, hp, _⟩ => by cases hp
theorem trs_one {w : World} {x : D} {v : Value} (h : Rd w [x] [v]) {ts : List T} {us : List Value} (hs : TRs NoM w ts us []) : TRs NoM w (.d x :: ts) (v :: us) [] :=
  TRs.cons (A := []) (L := []) (.c (.d ((h.2 0 x v rfl rfl).noB noM))) hs
theorem trs_agg {w : World} {xs : List D} {cs : List Value} (h : Rd w xs cs) {ts : List T} {us : List Value} (hs : TRs NoM w ts us []) : TRs NoM w (.agg (xs.map .d) :: ts) (.agg cs.toArray :: us) [] :=
  TRs.cons (A := []) (L := []) (.agg (h.tcs noM)) hs
/-- A law's function that answers true does so from every world, and leaves what was there. -/
theorem law_ok {call : CallF} (w1 : World) (hC : haveI : Base := ⟨w1⟩; CallOk P call) {f : Nat} {ts : List T} {us : List Value} {w : World} (hw : w = w1) (e : call f ts = some ([.d (.p (.bool true))], [])) (hT : TRs NoM w ts us []) (hf : f < 1000000 := by decide) :
    Calls P f us.toArray w fun e w' => e = .returned (.bool true) ∧ Below w.heap.size w w' := by
  subst hw
  letI : Base := ⟨w⟩
  obtain ⟨_, h⟩ := (hC f ts _ _ e).1 (Nat.not_le.2 hf)
  refine (h (fun _ _ => False) w us [] hT .nil (fun g o _ h => h) (fun g o h => h.elim) ⟨Nat.le_refl _, fun _ _ => rfl, fun g o h => (noM g o h).elim⟩).mono ?_
  rintro en w' ⟨rvs, A1, A2, rfl, q1, q2, _, _, F, _⟩
  refine ⟨?_, ⟨F.os, F.tape, F.output, F.size, fun k hk => F.blk k hk fun o ⟨p, hp, _⟩ => by cases hp⟩⟩
  cases q1 with
  | cons a b =>
    cases b
    cases a with
    | c a => cases a with
      | d a => cases a; rfl
end Go.Ev
