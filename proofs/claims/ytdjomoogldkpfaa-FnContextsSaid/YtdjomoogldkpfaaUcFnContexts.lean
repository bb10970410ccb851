/- The law FnContexts without memory: what its functions come to, and that it answers true for all values of its parameters. -/
import Derived.Test.YtdjomoogldkpfaaVac0
import Derived.Test.YtdjomoogldkpfaaQc0
section
namespace Go.Proofs.Ytdjomoogldkpfaa.UBase
open Go.RowKit Go.Proofs.YtdjomoogldkpfaaW.PrintWords
theorem w64 {x : Int} (h0 : -9223372036854775808 ≤ x) (h1 : x ≤ 9223372036854775807) : wrap64 x = x := by
  unfold wrap64
  omega
theorem w64_id (x : Int) : wrap64 x = x ∨ x < -9223372036854775808 ∨ 9223372036854775807 < x := by
  by_cases h0 : -9223372036854775808 ≤ x
  · by_cases h1 : x ≤ 9223372036854775807
    · exact .inl (w64 h0 h1)
    · exact .inr (.inr (by omega))
  · exact .inr (.inl (by omega))
theorem wf_bounds {x : Int} (h : (Lit.int .i64 x).wf = true) : -9223372036854775808 ≤ x ∧ x ≤ 9223372036854775807 := by
  simp [Lit.wf] at h
  exact ⟨h.1, h.2⟩
theorem succ_of {k n : Nat} (h : n < k) : ∃ m, k = m + 1 := ⟨k - 1, by omega⟩
def At {α : Type} (g : Nat → Option α) (K : Nat) (r : α) : Prop := ∀ k, K ≤ k → g k = some r
theorem set_getD_eq {α : Type} (l : List α) (i : Nat) (a d : α) (h : i < l.length) : (l.set i a).getD i d = a := by
  simp [List.getD, h]
theorem set_getD_ne {α : Type} (l : List α) (i j : Nat) (a d : α) (h : i ≠ j) : (l.set i a).getD j d = l.getD j d := by
  simp [List.getD, h]
theorem ext_getD {α : Type} {l m : List α} (d : α) (hl : l.length = m.length) (h : ∀ i, i < l.length → l.getD i d = m.getD i d) : l = m := by
  apply List.ext_getElem hl
  intro i h1 h2
  have := h i h1
  simpa [List.getD, List.getElem?_eq_getElem h1, List.getElem?_eq_getElem h2] using this
end Go.Proofs.Ytdjomoogldkpfaa.UBase
end
section
namespace Go.Proofs.Ytdjomoogldkpfaa.UDraw
open Go.RowKit Go.Proofs.Ytdjomoogldkpfaa.PAll Go.Proofs.YtdjomoogldkpfaaW.PrintWords Go.Proofs.YtdjomoogldkpfaaW.PrintLast Go.Proofs.Ytdjomoogldkpfaa.UBase
def Cur (b : List Int) (i : Int) : Prop := 0 ≤ i ∧ i ≤ b.length ∧ b.length ≤ 1048576
theorem and255 (y : Int) : 0 ≤ Go.bits .and .i64 y 255 ∧ Go.bits .and .i64 y 255 ≤ 255 := by
  unfold Go.bits
  simp only
  have h : (BitVec.ofInt IntKind.i64.bits y &&& BitVec.ofInt IntKind.i64.bits 255).toNat ≤ 255 := by
    rw [BitVec.toNat_and]
    exact Nat.and_le_right
  generalize (BitVec.ofInt IntKind.i64.bits y &&& BitVec.ofInt IntKind.i64.bits 255).toNat = n at h
  have e : IntKind.i64.wrap (n : Int) = (n : Int) := by
    have hm : (n : Int) % 2 ^ 64 = n := Int.emod_eq_of_lt (by omega) (by omega)
    have hd : ¬ ((n : Int) ≥ 2 ^ (64 - 1)) := by omega
    simp only [IntKind.wrap, IntKind.bits, IntKind.signed, Bool.true_and, hm, decide_eq_false hd]
    rfl
  rw [e]
  omega
theorem byte (b : List Int) (i h : Int) (hc : Cur b i) : ∃ x i' h', spec_l1Byte.f b i h = some (x, i', h') ∧ 0 ≤ x ∧ x ≤ 255 ∧ Cur b i' := by
  obtain ⟨h0, h1, h2⟩ := hc
  unfold spec_l1Byte.f
  by_cases hi : i < (b.length : Int)
  · rw [if_pos hi, if_pos h0]
    refine ⟨_, _, _, rfl, (and255 _).1, (and255 _).2, ?_⟩
    rw [w64 (by omega) (by omega)]
    exact ⟨by omega, by omega, h2⟩
  · rw [if_neg hi]
    exact ⟨_, _, _, rfl, (and255 _).1, (and255 _).2, h0, h1, h2⟩
theorem tmod_bounds {x a : Int} (hx : 0 ≤ x) (ha : 0 < a) : 0 ≤ Int.tmod x a ∧ Int.tmod x a < a := by
  rw [Int.tmod_eq_emod_of_nonneg hx]
  exact ⟨Int.emod_nonneg _ (by omega), Int.emod_lt_of_pos _ ha⟩
theorem below (b : List Int) (i h a : Int) (hc : Cur b i) : ∃ x i' h', spec_l1Below.f b i h a = some (x, i', h') ∧ 0 ≤ x ∧ (0 < a → x < a) ∧ (a ≤ 0 → x = 0) ∧ Cur b i' := by
  unfold spec_l1Below.f
  by_cases h0 : a ≤ 0
  · rw [if_pos h0]
    exact ⟨0, i, h, rfl, Int.le_refl _, fun e => by omega, fun _ => rfl, hc⟩
  · rw [if_neg h0]
    by_cases h1 : a ≤ 256
    · rw [if_pos h1]
      obtain ⟨x, i', h', e, x0, x1, hc'⟩ := byte b i h hc
      rw [e]
      simp only [Option.bind_some]
      rw [if_neg (by omega)]
      have := tmod_bounds x0 (show 0 < a by omega)
      exact ⟨_, _, _, rfl, this.1, fun _ => this.2, fun e => absurd e h0, hc'⟩
    · rw [if_neg h1]
      obtain ⟨x, i1, g1, e1, x0, x1, c1⟩ := byte b i h hc
      obtain ⟨y, i2, g2, e2, y0, y1, c2⟩ := byte b i1 g1 c1
      obtain ⟨z, i3, g3, e3, z0, z1, c3⟩ := byte b i2 g2 c2
      obtain ⟨u, i4, g4, e4, u0, u1, c4⟩ := byte b i3 g3 c3
      simp only [e1, e2, e3, e4, Option.bind_some]
      rw [if_neg (by omega), w64 (x := x * 16777216) (by omega) (by omega), w64 (x := y * 65536) (by omega) (by omega), w64 (x := z * 256) (by omega) (by omega), w64 (x := x * 16777216 + y * 65536) (by omega) (by omega), w64 (x := x * 16777216 + y * 65536 + z * 256) (by omega) (by omega), w64 (x := x * 16777216 + y * 65536 + z * 256 + u) (by omega) (by omega)]
      have := tmod_bounds (show 0 ≤ x * 16777216 + y * 65536 + z * 256 + u by omega) (show 0 < a by omega)
      exact ⟨_, _, _, rfl, this.1, fun _ => this.2, fun e => absurd e h0, c4⟩
theorem new_l0 (l : List Int) (d : Nat) : ∀ (k i : Nat) (h : Int), i + d = l.length → d < k → ∃ h', spec_l1New.l0 k l h i = some (l, 0, h') := by
  induction d with
  | zero =>
    intro k i h hi hk
    obtain ⟨k, rfl⟩ := succ_of hk
    refine ⟨h, ?_⟩
    simp only [spec_l1New.l0]
    rw [if_neg (by omega)]
  | succ d ih =>
    intro k i h hi hk
    obtain ⟨k, rfl⟩ := succ_of hk
    simp only [spec_l1New.l0]
    rw [if_pos (by omega)]
    by_cases h4 : (i : Int) < 4000
    · rw [if_pos h4, if_pos (by omega), w64 (x := (i : Int) + 1) (by omega) (by omega)]
      exact ih k (i + 1) _ (by omega) (by omega)
    · rw [if_neg h4]
      exact ⟨h, rfl⟩
theorem new (l : List Int) (hn : l.length ≤ 1048576) (k : Nat) (hk : l.length < k) : ∃ h', spec_l1New.f k l = some (l, 0, h') ∧ Cur l 0 := by
  unfold spec_l1New.f
  obtain ⟨h', e⟩ := new_l0 l l.length k 0 (wrap64 (10101 + (l.length : Int))) (by omega) hk
  exact ⟨h', e, by omega, by omega, hn⟩
theorem big (l : List Int) : laws_big.f l = some (decide ((l.length : Int) > 1048576)) := rfl
end Go.Proofs.Ytdjomoogldkpfaa.UDraw
end
section
namespace Go.Proofs.Ytdjomoogldkpfaa.UDraw
open Go.RowKit Go.Proofs.Ytdjomoogldkpfaa.PAll Go.Proofs.YtdjomoogldkpfaaW.PrintWords Go.Proofs.YtdjomoogldkpfaaW.PrintLast Go.Proofs.Ytdjomoogldkpfaa.UBase
theorem pickInt (b : List Int) (i h : Int) (l : List Int) (hc : Cur b i) (hl : 0 < l.length) : ∃ x i' h', spec_l1PickInt.f b i h l = some (x, i', h') ∧ x ∈ l ∧ Cur b i' := by
  unfold spec_l1PickInt.f
  obtain ⟨x, i', h', e, x0, x1, _, c⟩ := below b i h (l.length : Int) hc
  have x2 := x1 (by omega)
  rw [e]
  simp only [Option.bind_some]
  rw [if_pos x0, if_pos x2]
  refine ⟨_, _, _, rfl, ?_, c⟩
  unfold rd
  have : x.toNat < l.length := by omega
  rw [List.getD_eq_getElem?_getD, List.getElem?_eq_getElem this]
  exact List.getElem_mem this
end Go.Proofs.Ytdjomoogldkpfaa.UDraw
end
section
namespace Go.Proofs.Ytdjomoogldkpfaa.Pure
open Go.RowKit Go.Proofs.Ytdjomoogldkpfaa.PAll Go.Proofs.YtdjomoogldkpfaaW.PrintWords Go.Proofs.YtdjomoogldkpfaaW.PrintLast Go.Proofs.Ytdjomoogldkpfaa.UBase Go.Proofs.Ytdjomoogldkpfaa.UDraw
def siteL (x : Int) : List Int := if 0 < x then [x - 1] else []
theorem ctxSites (a : Int) (h0 : 0 ≤ a) (h1 : a ≤ 22800) (k : Nat) (hk : 3 ≤ k) : impl_CtxSites.f k a = some (siteL (a / 151) ++ siteL (a % 151)) := by
  obtain ⟨k, rfl⟩ : ∃ m, k = m + 3 := ⟨k - 3, by omega⟩
  unfold impl_CtxSites.f impl_in.f siteL
  rw [if_pos h0]
  simp only [Option.bind_some, decide_eq_true_eq]
  rw [if_pos h1]
  have hq : Int.tdiv a 151 = a / 151 := Int.tdiv_eq_ediv_of_nonneg h0
  have hr : Int.tmod a 151 = a % 151 := Int.tmod_eq_emod_of_nonneg h0
  rw [hq, hr, w64 (by omega) (by omega)]
  generalize hp : a / 151 = p
  generalize hs : a % 151 = s
  have p0 : 0 ≤ p ∧ p ≤ 150 := by omega
  have s0 : 0 ≤ s ∧ s < 151 := by omega
  have e0 : rd [p, s] 0 = p := rfl
  have e1 : rd [p, s] 1 = s := rfl
  have f0 : wrap64 (0 + 1) = 1 := w64 (by omega) (by omega)
  have f1 : wrap64 (1 + 1) = 2 := w64 (by omega) (by omega)
  simp only [impl_CtxSites.l0, List.length_cons, List.length_nil, e0, e1, f0, f1]
  rw [if_pos (by omega), if_pos (by omega), if_pos (by omega), w64 (x := p - 1) (by omega) (by omega), w64 (x := s - 1) (by omega) (by omega)]
  by_cases hp0 : p > 0 <;> by_cases hs0 : s > 0 <;> simp [hp0, hs0]
theorem ctxPush (a s d : Int) (h0 : 0 ≤ a) (h1 : a ≤ 22800) (h2 : 0 ≤ s) (h3 : s ≤ 149) (k : Nat) (hk : 1 ≤ k) : impl_CtxPush.f k a s d = some (if d = 2 then 151 * (s + 1) + a / 151 else if d = 1 then 151 * (s + 1) else 0) := by
  obtain ⟨k, rfl⟩ := succ_of (show 0 < k by omega)
  have hq : Int.tdiv a 151 = a / 151 := Int.tdiv_eq_ediv_of_nonneg h0
  unfold impl_CtxPush.f impl_in.f
  simp only [impl_CtxPush.j0, hq]
  rw [w64 (x := a / 151) (by omega) (by omega), w64 (x := s + 1) (by omega) (by omega), w64 (x := 151 * (s + 1)) (by omega) (by omega), w64 (x := 151 * (s + 1) + a / 151) (by omega) (by omega)]
  by_cases d2 : d = 2
  · subst d2; simp [h0, h1, h2, h3]
  · by_cases d1 : d = 1
    · subst d1; simp [h0, h1, h2, h3]
    · by_cases g1 : 1 ≤ d
      · have : ¬ d ≤ 2 := by omega
        simp [g1, this, d1, d2]
      · simp [g1, d1, d2]
theorem ctxPush_out (a s : Int) (h : a < 0 ∨ a ≥ 22801 ∨ s < 0 ∨ s ≥ 150) (k : Nat) (hk : 1 ≤ k) : impl_CtxPush.f k a s 2 = some 0 := by
  obtain ⟨k, rfl⟩ := succ_of (show 0 < k by omega)
  unfold impl_CtxPush.f impl_in.f
  simp only [impl_CtxPush.j0]
  by_cases a0 : 0 ≤ a
  · by_cases a1 : a ≤ 22800
    · by_cases s0 : 0 ≤ s
      · have : ¬ s ≤ 149 := by omega
        simp [a0, a1, s0, this]
      · simp [a0, a1, s0]
    · simp [a0, a1]
  · simp [a0]
theorem sameOne (x y : Int) (k : Nat) (hk : 2 ≤ k) : laws_sameInts.f k [x] [y] = some (decide (x = y)) := by
  obtain ⟨k, rfl⟩ : ∃ m, k = m + 2 := ⟨k - 2, by omega⟩
  have e0 : ∀ z : Int, rd [z] 0 = z := fun _ => rfl
  have f0 : wrap64 (0 + 1) = 1 := w64 (by omega) (by omega)
  unfold laws_sameInts.f
  simp only [laws_sameInts.l0, List.length_cons, List.length_nil, e0, f0]
  by_cases h : x = y <;> simp [h]
theorem contexts_in (a s : Int) (h0 : 0 ≤ a) (h1 : a ≤ 22800) (h2 : 0 ≤ s) (h3 : s ≤ 149) (k : Nat) (hk : 10 ≤ k) : laws_FnContexts.j0 k a s false = some true := by
  obtain ⟨k, rfl⟩ : ∃ m, k = m + 2 := ⟨k - 2, by omega⟩
  have hs : ∀ b : Bool, laws_FnContexts.j1 (k + 1) a (siteL ((151 * (s + 1) + a / 151) / 151) ++ siteL ((151 * (s + 1) + a / 151) % 151)) (siteL (a / 151) ++ siteL (a % 151)) b = some (!b) := by
    intro b
    simp only [laws_FnContexts.j1]
    cases b
    · rw [if_neg (by simp)]
      have hq : Int.tdiv a 151 = a / 151 := Int.tdiv_eq_ediv_of_nonneg h0
      rw [hq, w64 (by omega) (by omega)]
      have e1 : (151 * (s + 1) + a / 151) / 151 = s + 1 := by omega
      have e2 : (151 * (s + 1) + a / 151) % 151 = a / 151 := by omega
      rw [e1, e2]
      unfold siteL
      rw [if_pos (show (0 : Int) < s + 1 by omega)]
      by_cases hp : a / 151 > 0
      · simp [hp, rd]
      · simp [hp]
    · rw [if_pos rfl]; rfl
  rw [show k + 2 = (k + 1) + 1 by omega]
  simp only [laws_FnContexts.j0]
  rw [if_neg (by simp), ctxPush a s 1 h0 h1 h2 h3 _ (by omega), ctxPush a s 2 h0 h1 h2 h3 _ (by omega), ctxPush a s 0 h0 h1 h2 h3 _ (by omega)]
  simp only [Option.bind_some, if_true, show ¬ (1 : Int) = 2 by omega, show ¬ (0 : Int) = 2 by omega, show ¬ (0 : Int) = 1 by omega, if_false]
  rw [ctxSites _ (by omega) (by omega) _ (by omega), ctxSites (151 * (s + 1) + a / 151) (by omega) (by omega) _ (by omega), ctxSites a h0 h1 _ (by omega)]
  simp only [Option.bind_some, hs]
  have e1 : (151 * (s + 1)) / 151 = s + 1 := by omega
  have e2 : (151 * (s + 1)) % 151 = 0 := by omega
  have e3 : (151 * (s + 1) + a / 151) / 151 = s + 1 := by omega
  have d1 : siteL (s + 1) = [s] := by unfold siteL; rw [if_pos (by omega), show s + 1 - 1 = s by omega]
  have d2 : siteL 0 = [] := rfl
  rw [e1, e2, e3, d1, d2, List.append_nil, sameOne s s _ (by omega)]
  simp [rd]
  omega
theorem FnContexts : laws_FnContexts.Pure := by
  intro l _ _ _
  refine ⟨1048600, ?_⟩
  generalize hK : 1048600 = K
  unfold laws_FnContexts.f
  rw [big]
  simp only [Option.bind_some]
  by_cases hb : (l.length : Int) > 1048576
  · rw [decide_eq_true hb, if_pos rfl]
  · rw [decide_eq_false hb, if_neg (by simp)]
    have hn : l.length ≤ 1048576 := by omega
    unfold spec_DrawCtxPush.f
    obtain ⟨h0, e0, c0⟩ := new l hn K (by omega)
    obtain ⟨a, i1, h1, e1, m1, c1⟩ := pickInt l 0 h0 [0, 151, 302, 155, 22800, 22801, (-1), 460] c0 (by simp)
    obtain ⟨r, i2, h2, e2, r0, r1, _, c2⟩ := below l i1 h1 60 c1
    obtain ⟨s, i3, h3, e3, m3, c3⟩ := pickInt l i2 h2 [0, 5, 149, 150, (-1), r] c2 (by simp)
    obtain ⟨d, i4, h4, e4, d0, d1, _, c4⟩ := below l i3 h3 5 c3
    simp only [e0, e1, e2, e3, e4, Option.bind_some]
    have out : a < 0 ∨ a ≥ 22801 ∨ s < 0 ∨ s ≥ 150 → laws_FnContexts.j0 K a s true = some true := by
      intro h
      obtain ⟨K, rfl⟩ := succ_of (show 0 < K by omega)
      simp only [laws_FnContexts.j0]
      rw [if_pos trivial, ctxPush_out a s h K (by omega)]
      rfl
    by_cases a0 : a < 0
    · rw [if_pos a0]; exact out (.inl a0)
    · rw [if_neg a0]
      by_cases a1 : a ≥ 22801
      · rw [if_pos a1]; exact out (.inr (.inl a1))
      · rw [if_neg a1]
        by_cases s0 : s < 0
        · rw [if_pos s0]; exact out (.inr (.inr (.inl s0)))
        · rw [if_neg s0]
          by_cases s1 : s ≥ 150
          · rw [decide_eq_true s1]; exact out (.inr (.inr (.inr s1)))
          · rw [decide_eq_false s1]
            exact contexts_in a s (by omega) (by omega) (by omega) (by omega) K (by omega)
end Go.Proofs.Ytdjomoogldkpfaa.Pure
end
