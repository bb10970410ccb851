/- What the law FnExactIsAtom says, without memory: for all values of its parameters its function answers true. And: whatever reads as data of the parameters' types is a value of their kinds. -/
import Derived.Test.YtdjomoogldkpfaaPAllx2
import Derived.Test.YtdjomoogldkpfaaOpen
import Derived.KernelRfl
namespace Go.Proofs.Ytdjomoogldkpfaa.StmtFnExactIsAtom
open Go.RowKit Go.Proofs.Ytdjomoogldkpfaa.PAll Go.Proofs.YtdjomoogldkpfaaW.PrintWords Go.Proofs.YtdjomoogldkpfaaW.PrintLast Go.Proofs.Ytdjomoogldkpfaa.Open

structure S25 where
  f0 : Int
  f1 : Int
  f2 : Int
  f3 : Int
  f4 : Int
  f5 : ByteArray
  f6 : ByteArray
def k25 : Kd S25 := Kd.iso (Kd.pair (Kd.int .i64) (Kd.pair (Kd.int .i64) (Kd.pair (Kd.int .i64) (Kd.pair (Kd.int .i64) (Kd.pair (Kd.int .i64) (Kd.pair Kd.string Kd.string)))))) (fun x : S25 => (x.f0, x.f1, x.f2, x.f3, x.f4, x.f5, x.f6))
theorem k25_open {w : World} {x : S25} {cs : List Value} (h : k25.K w x cs) : cs = [.int .i64 x.f0, .int .i64 x.f1, .int .i64 x.f2, .int .i64 x.f3, .int .i64 x.f4, .string x.f5, .string x.f6] := by
  obtain ⟨_, _, rfl, rfl, ⟨_, _, rfl, rfl, ⟨_, _, rfl, rfl, ⟨_, _, rfl, rfl, ⟨_, _, rfl, rfl, ⟨_, _, rfl, rfl, rfl⟩⟩⟩⟩⟩⟩ := h
  exact rfl
def ok25 (x : S25) : Prop := (Lit.int .i64 x.f0).wf = true ∧ (Lit.int .i64 x.f1).wf = true ∧ (Lit.int .i64 x.f2).wf = true ∧ (Lit.int .i64 x.f3).wf = true ∧ (Lit.int .i64 x.f4).wf = true ∧ x.f5.size ≤ maxLen ∧ x.f6.size ≤ maxLen
theorem opens25 : Opens Try.prog 25 k25 ok25 := opens_struct (d := (Kd.pair (Kd.int .i64) (Kd.pair (Kd.int .i64) (Kd.pair (Kd.int .i64) (Kd.pair (Kd.int .i64) (Kd.pair (Kd.int .i64) (Kd.pair Kd.string Kd.string))))))) (f := (fun x : S25 => (x.f0, x.f1, x.f2, x.f3, x.f4, x.f5, x.f6))) (fun a => ⟨a.1, a.2.1, a.2.2.1, a.2.2.2.1, a.2.2.2.2.1, a.2.2.2.2.2.1, a.2.2.2.2.2.2⟩) Try.underlying25 (by kernel_rfl) (fun _ => rfl) (opensAt_cons rfl (opens_int Try.underlying3 (by kernel_rfl)) (opensAt_cons rfl (opens_int Try.underlying3 (by kernel_rfl)) (opensAt_cons rfl (opens_int Try.underlying3 (by kernel_rfl)) (opensAt_cons rfl (opens_int Try.underlying3 (by kernel_rfl)) (opensAt_cons rfl (opens_int Try.underlying3 (by kernel_rfl)) (opensAt_cons rfl (opens_string Try.underlying9 (by kernel_rfl)) (opensAt_one rfl (opens_string Try.underlying9 (by kernel_rfl)))))))))

/-- The one pure statement of the law. -/
def Pure : Prop := ∀ (x0 : S25), ok25 x0 → laws_FnExactIsAtom.f (x0.f0) (x0.f1) (x0.f2) (x0.f3) (x0.f4) (x0.f5) (x0.f6) = some true
end Go.Proofs.Ytdjomoogldkpfaa.StmtFnExactIsAtom
