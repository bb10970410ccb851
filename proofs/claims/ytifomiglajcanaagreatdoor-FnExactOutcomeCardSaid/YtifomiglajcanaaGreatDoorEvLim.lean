/- The evaluator: EvLim. -/
import Derived.Test.YtifomiglajcanaaGreatDoorEvDraw3
set_option linter.unusedSimpArgs false
set_option linter.unusedVariables false
namespace Go.Ev
set_option linter.unusedVariables false
variable {P : Program} {tb : Tb} {md : Md}

/-! ### What hangs on finitely many calls -/
abbrev Res := List T × List T
def Tells (l : List (Nat × List T × Res)) (call : CallF) : Prop := ∀ x ∈ l, call x.1 x.2.1 = some x.2.2
def Fin {α : Type} (F : CallF → Option α) : Prop := ∀ call r, F call = some r → ∃ l, Tells l call ∧ ∀ call', Tells l call' → F call' = some r
theorem Fin.const {α : Type} (x : Option α) : Fin fun _ => x := fun call r e => ⟨[], by simp [Tells], fun _ _ => e⟩
theorem Fin.call (g : Nat) (ts : List T) : Fin fun call => call g ts := fun call r e => ⟨[(g, ts, r)], by simpa [Tells] using e, fun call' h => by simpa [Tells] using h⟩
theorem Fin.bind {α β : Type} {F : CallF → Option α} {G : α → CallF → Option β} (hF : Fin F) (hG : ∀ x, Fin (G x)) : Fin fun call => (F call).bind fun x => G x call := by
  intro call r e
  simp only [Option.bind_eq_some_iff] at e
  obtain ⟨x, e1, e2⟩ := e
  obtain ⟨l, a1, a2⟩ := hF call x e1
  obtain ⟨m, b1, b2⟩ := hG x call r e2
  refine ⟨l ++ m, fun y hy => (List.mem_append.1 hy).elim (a1 y) (b1 y), fun call' h => ?_⟩
  simp only [a2 call' fun y hy => h y (by simp [hy]), b2 call' fun y hy => h y (by simp [hy]), Option.bind_some]
theorem Fin.map {α β : Type} {F : CallF → Option α} (hF : Fin F) (g : α → β) : Fin fun call => (F call).map g := by
  have := hF.bind fun x => Fin.const (some (g x))
  intro call r e
  obtain ⟨l, a, b⟩ := this call r (by cases q : F call <;> simp_all)
  refine ⟨l, a, fun call' h => ?_⟩
  have := b call' h
  cases q : F call' <;> simp_all
theorem Fin.congr {α : Type} {F G : CallF → Option α} (h : Fin F) (e : ∀ c, G c = F c) : Fin G := by rw [funext e]; exact h
theorem Fin.ite {α : Type} {F G : CallF → Option α} (c : Prop) [Decidable c] (hF : Fin F) (hG : Fin G) : Fin fun call => if c then F call else G call := by
  by_cases h : c
  · simp only [h, if_true]; exact hF
  · simp only [h, if_false]; exact hG

theorem callV_fin (g : Nat) (tys : List Nat) (vs : List V) (d : Option Nat) (h : Hp) : Fin fun call => callV tb md call g tys vs d h := by
  unfold callV
  refine (Fin.const _).bind fun x => ?_
  obtain ⟨ts, h, shown, lent⟩ := x
  refine Fin.ite _ ?_ (Fin.const _)
  refine (Fin.call g ts).bind fun x => ?_
  obtain ⟨rs, ps⟩ := x
  exact Fin.const _
theorem keepV_fin (g : Nat) (ks : List Nat) (vs : List V) (d : Option Nat) (h : Hp) : Fin fun call => keepV call g ks vs d h := by
  unfold keepV
  split
  · split
    · refine (Fin.const _).bind fun rs => ?_
      refine (Fin.const _).bind fun x => ?_
      obtain ⟨ts, h1⟩ := x
      refine (Fin.call _ _).bind fun x => ?_
      obtain ⟨os, ps⟩ := x
      exact Fin.const _
    · exact Fin.const _
  · exact Fin.const _
theorem exec_fin (o : Oper) (ρ : Operand → V) (h : Hp) : Fin fun call => exec P tb md call o ρ h := by
  obtain ⟨dst, op, type, pos, after, guard⟩ := o
  unfold exec
  cases op
  case call c =>
    obtain ⟨callee, args, argTypes⟩ := c
    cases callee with
    | builtin b => cases b <;> exact Fin.const _
    | value f =>
      simp only
      split
      · refine Fin.ite _ ?_ (Fin.const _)
        rename_i g _ _ _
        cases (keepL md g).isEmpty
        · exact keepV_fin _ _ _ _ _
        · simp only [cond_true]
          cases (homeL md g).isEmpty || homedAll h (args.toList.map ρ) && outOk tb (outL md g) (fixTys md g argTypes.toList) (args.toList.map ρ)
          · exact Fin.const _
          · exact callV_fin _ _ _ _ _
      · exact Fin.const _
    | invoke r m => exact Fin.const _
  all_goals exact Fin.const _
theorem evOp_fin (ops : Array Oper) (o : Oper) (S : St) : Fin fun call => evOp P tb md call ops o S := by
  unfold evOp
  refine (Fin.const _).bind fun b => ?_
  exact Fin.ite _ ((exec_fin o S.ev S.h).map _) (Fin.const _)
theorem evOps_fin (ops : Array Oper) : ∀ (os : List Oper) (S : St), Fin fun call => evOps P tb md call ops os S
  | [], S => Fin.const _
  | o :: os, S => (evOp_fin ops o S).bind fun S => evOps_fin ops os S
theorem evOpsD_fin (ops : Array Oper) (bf) : ∀ (os : List Oper) (j : Nat) (S : St), Fin fun call => evOpsD P tb md call ops bf j os S
  | [], j, S => Fin.const _
  | o :: os, j, S => Fin.ite _ ((evOp_fin ops o S).bind fun S => evOpsD_fin ops bf os (j + 1) S) (Fin.const _)
theorem evRegion_fin (ops : Array Oper) (draw : Bool) (S : St) : Fin fun call => evRegion P tb md call ops draw S :=
  Fin.ite _ (Fin.ite _ (evOpsD_fin _ _ _ _ _) (Fin.const _)) (evOps_fin _ _ _)
theorem evLoop_fin {f : CallF → St → Option (Out × St)} (hf : ∀ S, Fin fun call => f call S) : ∀ (n : Nat) (S : St), Fin fun call => evLoop (f call) n S
  | 0, S => Fin.const _
  | n + 1, S => (hf S.norm).bind fun x => by
    obtain ⟨o, S⟩ := x
    cases o with
    | nrm => exact evLoop_fin hf n S
    | ret => exact Fin.const _
    | ex i => exact Fin.const _
theorem evC_fin (n : Nat) : ∀ (c : Code) (S : St), Fin fun call => evC P tb md call n c S := by
  intro c
  induction c with
  | skip => intro S; exact Fin.const _
  | region id ops draw => intro S; exact (evRegion_fin ops draw S).map _
  | seq a b iha ihb =>
    intro S
    refine (iha S).bind fun x => ?_
    obtain ⟨o, S⟩ := x
    cases o with
    | nrm => exact ihb _
    | ret => exact Fin.const _
    | ex i => exact Fin.const _
  | cond c a b iha ihb =>
    intro S
    unfold evC
    split
    · rename_i t _
      cases t
      · exact ihb S
      · exact iha S
    · exact Fin.const _
  | block id c ih => intro S; exact (ih S).map _
  | loop c ih => intro S; exact evLoop_fin (fun S => ih S) n S
  | exit id => intro S; exact Fin.const _
  | ret => intro S; exact Fin.const _
  | _ => intro S; exact Fin.const _

/-! ### More rounds -/
theorem evLoop_more {f f' : St → Option (Out × St)} (hf : ∀ S r, f S = some r → f' S = some r) : ∀ {n m : Nat} {S : St} {r}, n ≤ m → evLoop f n S = some r → evLoop f' m S = some r
  | 0, m, S, r, _, e => by simp [evLoop] at e
  | n + 1, m, S, r, h, e => by
    obtain ⟨m, rfl⟩ : ∃ k, m = k + 1 := ⟨m - 1, by omega⟩
    simp only [evLoop, Option.bind_eq_some_iff] at e ⊢
    obtain ⟨⟨o, S1⟩, e1, e2⟩ := e
    refine ⟨(o, S1), hf _ _ e1, ?_⟩
    cases o with
    | nrm => exact evLoop_more hf (by omega) e2
    | ret => exact e2
    | ex i => exact e2
theorem evC_more {call : CallF} {n m : Nat} (h : n ≤ m) : ∀ (c : Code) (S : St) (r), evC P tb md call n c S = some r → evC P tb md call m c S = some r := by
  intro c
  induction c with
  | skip => intro S r e; exact e
  | region id ops draw => intro S r e; exact e
  | seq a b iha ihb =>
    intro S r e
    simp only [evC, Option.bind_eq_some_iff] at e ⊢
    obtain ⟨⟨o, S1⟩, e1, e2⟩ := e
    refine ⟨(o, S1), iha _ _ e1, ?_⟩
    cases o with
    | nrm => exact ihb _ _ e2
    | ret => exact e2
    | ex i => exact e2
  | cond c a b iha ihb =>
    intro S r e
    simp only [evC] at e ⊢
    split at e
    · rename_i t _
      cases t
      · exact ihb _ _ e
      · exact iha _ _ e
    · cases e
  | block id c ih =>
    intro S r e
    simp only [evC, Option.map_eq_some_iff] at e ⊢
    obtain ⟨x, e1, e2⟩ := e
    exact ⟨x, ih _ _ e1, e2⟩
  | loop c ih => intro S r e; exact evLoop_more (fun S r => ih S r) h e
  | exit id => intro S r e; exact e
  | ret => intro S r e; exact e
  | _ => intro S r e; exact e
theorem evC_call {call call' : CallF} (hc : ∀ g ts r, call g ts = some r → call' g ts = some r) {n : Nat} {c : Code} {S : St} {r} (e : evC P tb md call n c S = some r) : evC P tb md call' n c S = some r := by
  obtain ⟨l, a, b⟩ := evC_fin (P := P) (tb := tb) (md := md) n c S call r e
  exact b call' fun x hx => hc _ _ _ (a x hx)

theorem evF_more {prim : Prim} : ∀ {n m : Nat}, n ≤ m → ∀ (g : Nat) (ts : List T) (r : Res), evF P tb md prim n g ts = some r → evF P tb md prim m g ts = some r
  | 0, m, _, g, ts, r, e => by simp [evF] at e
  | n + 1, m, h, g, ts, r, e => by
    obtain ⟨m, rfl⟩ : ∃ k, m = k + 1 := ⟨m - 1, by omega⟩
    simp only [evF] at e ⊢
    cases hp : prim g with
    | some F => simp only [hp] at e ⊢; exact e
    | none =>
      simp only [hp] at e ⊢
      split at e
      · rename_i fn hf
        split at e
        · rename_i c hc
          split at e
          · rename_i hl
            rw [if_pos hl]
            simp only [Option.bind_eq_some_iff] at e ⊢
            obtain ⟨⟨vs, h0⟩, e1, ⟨o, S⟩, e2, e3⟩ := e
            exact ⟨(vs, h0), e1, (o, S), evC_call (evF_more (by omega)) (evC_more (by omega) _ _ _ e2), e3⟩
          · cases e
        · cases e
      · cases e

/-! ### As many rounds as are needed -/
open Classical in
/-- What a function answers. -/
noncomputable def Ev (P : Program) (tb : Tb) (md : Md) (prim : Prim) : CallF := fun g ts =>
  if h : ∃ n r, evF P tb md prim n g ts = some r then some h.choose_spec.choose else none
theorem Ev_of {prim : Prim} {n g ts r} (e : evF P tb md prim n g ts = some r) : Ev P tb md prim g ts = some r := by
  have h : ∃ n r, evF P tb md prim n g ts = some r := ⟨n, r, e⟩
  unfold Ev
  rw [dif_pos h]
  have e' := h.choose_spec.choose_spec
  have a := evF_more (Nat.le_max_left n h.choose) g ts _ e
  have b := evF_more (Nat.le_max_right n h.choose) g ts _ e'
  rw [a] at b; injection b with b; rw [← b]
theorem Ev_get {prim : Prim} {g ts r} (e : Ev P tb md prim g ts = some r) : ∃ n, evF P tb md prim n g ts = some r := by
  unfold Ev at e
  split at e
  · rename_i h; injection e with e; subst e; exact ⟨_, h.choose_spec.choose_spec⟩
  · cases e
theorem Ev_ok [Base] (T : TbOk P tb) (hN : NamesOk P) (hm : P.follows .mixedOrders = true) {prim : Prim} (hP : PrimOk P prim) : CallOk P (Ev P tb md prim) := fun g ts rs ps e => by
  obtain ⟨n, e⟩ := Ev_get e
  exact evF_sound T hN hm hP n g ts rs ps e
theorem Ev_prim {prim : Prim} {g ts r} {F} (hp : prim g = some F) (e : F ts = some r) : Ev P tb md prim g ts = some r := Ev_of (n := 1) (by simp only [evF, hp]; exact e)

/-- What is told of the end of a function. -/
def endV (tb : Tb) (md : Md) (f : Nat) (fn : Func) (ts : List T) : Out → St → Option Res
  | .ex _, _ => none
  | _, S => (resV tb fn S).bind fun rs => (retTs tb (md f).2 0 fn.resultTypes.toList rs S.h).bind fun (us, h) => (outPs fn.ntmps ts h).map fun ps => (us, ps)

/-- A piece of code comes to an end with Q. -/
def W (P : Program) (tb : Tb) (md : Md) (prim : Prim) (c : Code) (S : St) (Q : Out → St → Prop) : Prop := ∃ n o S', evC P tb md (Ev P tb md prim) n c S = some (o, S') ∧ Q o S'

theorem Ev_intro {prim : Prim} {f : Nat} {fn : Func} {c : Code} {ts : List T} {r : Res} (hp : prim f = none) (hf : P.funcs[f]? = some fn) (hb : fn.body = some c) (hl : ts.length = fn.params.size ∧ ts.length ≤ fn.ntmps) {vs : List V} {h0 : Hp} (h1 : ldPs fn.ntmps fn.ntmps ts Hp.nil = some (vs, h0))
    (hw : W P tb md prim c ⟨fn.ntmps, fun i => vs.getD i (.tup []), h0⟩ fun o S => endV tb md f fn ts o S = some r) : Ev P tb md prim f ts = some r := by
  obtain ⟨n, o, S, e, e2⟩ := hw
  obtain ⟨l, a, b⟩ := evC_fin (P := P) (tb := tb) (md := md) n c _ _ _ e
  have : ∃ m, Tells l (evF P tb md prim m) := by
    clear b
    induction l with
    | nil => exact ⟨0, by simp [Tells]⟩
    | cons x l ih =>
      obtain ⟨m, hm⟩ := ih fun y hy => a y (by simp [hy])
      obtain ⟨k, hk⟩ := Ev_get (a x (by simp))
      refine ⟨max m k, fun y hy => ?_⟩
      rcases List.mem_cons.1 hy with rfl | hy
      · exact evF_more (Nat.le_max_right _ _) _ _ _ hk
      · exact evF_more (Nat.le_max_left _ _) _ _ _ (hm y hy)
  obtain ⟨m, hm⟩ := this
  refine Ev_of (n := max m n + 1) ?_
  simp only [evF, hp, hf, hb]
  rw [if_pos hl]
  simp only [h1, Option.bind_some]
  have e3 := b _ fun y hy => evF_more (Nat.le_max_left m n) _ _ _ (hm y hy)
  rw [evC_more (Nat.le_max_right m n) _ _ _ e3, Option.bind_some]
  cases o with
  | ex i => cases e2
  | nrm => exact e2
  | ret => exact e2
end Go.Ev
