/- What the law FnExactOutcome says, told by the evaluator: for all values of its parameters its function answers true. -/
import Derived.Test.YtifomiglajcanaaGreatDoorZV
import Derived.Test.YtifomiglajcanaaGreatDoorEvRow
set_option linter.unusedSimpArgs false
set_option linter.unusedVariables false
namespace Go.Proofs.YtifomiglajcanaaGreatDoorE.StmtFnExactOutcome
open Go.RowKit Go.Ev Go.Proofs.YtifomiglajcanaaGreatDoorE
theorem pI {k : IntKind} : ∀ xs, isI k xs → xs.all D.isP = true := fun xs ⟨n, h, _⟩ => by rw [h]; rfl
theorem pB : ∀ xs, isB xs → xs.all D.isP = true := fun xs ⟨n, h⟩ => by rw [h]; rfl
theorem pS : ∀ xs, isS xs → xs.all D.isP = true := fun xs ⟨n, h, _⟩ => by rw [h]; rfl
theorem pP {a b : List D → Prop} (ha : ∀ xs, a xs → xs.all D.isP = true) (hb : ∀ xs, b xs → xs.all D.isP = true) : ∀ xs, isP2 a b xs → xs.all D.isP = true := fun xs ⟨ys, zs, h, p, q⟩ => by rw [h, List.all_append, ha ys p, hb zs q]; rfl
def ok45 : List D → Prop := (isP2 (isI .i64) (isP2 (isI .i64) (isP2 (isI .i64) (isP2 (isI .i64) (isP2 (isI .i64) (isP2 isS isS))))))
theorem p45 : ∀ xs, ok45 xs → xs.all D.isP = true := (pP pI (pP pI (pP pI (pP pI (pP pI (pP pS pS))))))
set_option maxRecDepth 10000 in
theorem opd45 : OpD Tryz.prog 45 7 ok45 := opd_struct (ok := (isP2 (isI .i64) (isP2 (isI .i64) (isP2 (isI .i64) (isP2 (isI .i64) (isP2 (isI .i64) (isP2 isS isS))))))) Tryz.underlying45 (by kernel_rfl) (opAt_cons rfl (opd_int Tryz.underlying3 (by kernel_rfl)) (opAt_cons rfl (opd_int Tryz.underlying3 (by kernel_rfl)) (opAt_cons rfl (opd_int Tryz.underlying3 (by kernel_rfl)) (opAt_cons rfl (opd_int Tryz.underlying3 (by kernel_rfl)) (opAt_cons rfl (opd_int Tryz.underlying3 (by kernel_rfl)) (opAt_cons rfl (opd_string Tryz.underlying9 (by kernel_rfl)) (opAt_one rfl (opd_string Tryz.underlying9 (by kernel_rfl)))))))))
/-- The one pure statement of the law. -/
def Pure : Prop := ∀ (l0 : List (List D)) (a1 : Int), l0.length ≤ maxLen → (∀ r ∈ l0, ok45 r) → (Lit.int .i64 a1).wf = true → Go.Ev.Ev Tryz.prog tb md prim 3 [.d (.l true 7 l0), .d (.p (.int .i64 a1))] = some ([.d (.p (.bool true))], [])
end Go.Proofs.YtifomiglajcanaaGreatDoorE.StmtFnExactOutcome
