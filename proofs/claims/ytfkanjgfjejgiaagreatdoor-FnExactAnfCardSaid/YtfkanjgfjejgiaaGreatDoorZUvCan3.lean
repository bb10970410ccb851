/- Canonical names: both sides give the same names. -/
import Derived.Test.YtfkanjgfjejgiaaGreatDoorZUvCan2
import Derived.Test.YtfkanjgfjejgiaaGreatDoorZUvAnf5
set_option linter.unusedSimpArgs false
set_option linter.unusedVariables false
namespace Go.Proofs.YtfkanjgfjejgiaaGreatDoorE
open Go.Ev Go.RowKit
set_option linter.unusedVariables false
set_option linter.unusedSimpArgs false
theorem has7_eq (a : List ByteArray) (s : ByteArray) (K : Nat) : ∀ (k : Nat) (i : Int), spec_l7HasText.l0 a s K k i = impl_hasText.l0 a s K k i := by
  intro k
  induction k with
  | zero => intro i; rfl
  | succ k ih =>
    intro i
    rw [spec_l7HasText.l0, impl_hasText.l0]
    simp only [ih]
theorem spec_has7 (l : List ByteArray) (s : ByteArray) (hl : l.length ≤ 1000000) (K : Nat) (hK : l.length < K) : spec_l7HasText.f K l s = some (anyT l s.toList) := by
  have e : spec_l7HasText.f K l s = impl_hasText.f K l s := by
    unfold spec_l7HasText.f impl_hasText.f
    simp only [has7_eq]
  rw [e]; exact impl_has l s hl K hK
theorem can_l1_s (u W : List ByteArray) (hu : u.length ≤ 1000) (hW : ∀ t, anyT u t = anyT W t) (K : Nat) (hK : 2000 ≤ K) : ∀ (d v k : Nat), (∃ j, v ≤ j ∧ j < v + d ∧ inU W j = false) → v + d ≤ 700 → d < k → spec_Canon.l1 u K k (v : Int) = some ((findU W d v : Nat) : Int) := by
  intro d
  induction d with
  | zero => rintro v k ⟨j, h1, h2, _⟩; omega
  | succ d ih =>
    rintro v k ⟨j, h1, h2, h3⟩ hd hk
    obtain ⟨k, rfl⟩ := succ_of (show 0 < k by omega)
    rw [spec_Canon.l1, (fresh_all (n := v) (by omega) (by omega)).1, Option.bind_some, spec_has7 u _ (by omega) K (by omega), Option.bind_some, hW, findU]
    show (if inU W v = true then _ else _) = some (((if inU W v = true then _ else _ : Nat)) : Int)
    by_cases hv : inU W v = true
    · rw [if_pos hv, if_pos hv, w64_of (by omega) (by omega)]
      have hj : v ≠ j := fun e => by rw [e, h3] at hv; cases hv
      exact ih (v + 1) k ⟨j, by omega, by omega, h3⟩ (by omega) (by omega)
    · rw [if_neg hv, if_neg hv]
theorem can_l1_i (u W : List ByteArray) (hu : u.length ≤ 1000) (hW : ∀ t, anyT u t = anyT W t) (K : Nat) (hK : 2000 ≤ K) : ∀ (d v k : Nat), (∃ j, v ≤ j ∧ j < v + d ∧ inU W j = false) → v + d ≤ 700 → d < k → impl_Canon.l1 u K k (v : Int) = some ((findU W d v : Nat) : Int) := by
  intro d
  induction d with
  | zero => rintro v k ⟨j, h1, h2, _⟩; omega
  | succ d ih =>
    rintro v k ⟨j, h1, h2, h3⟩ hd hk
    obtain ⟨k, rfl⟩ := succ_of (show 0 < k by omega)
    rw [impl_Canon.l1, (fresh_all (n := v) (by omega) (by omega)).2.1, Option.bind_some, impl_has u _ (by omega) K (by omega), Option.bind_some]
    rw [show (u.any fun x => x.toList == (freshT v).toList) = inU W v from hW (freshT v).toList, findU]
    by_cases hv : inU W v = true
    · rw [if_pos hv, if_pos hv, w64_of (by omega) (by omega)]
      have hj : v ≠ j := fun e => by rw [e, h3] at hv; cases hv
      exact ih (v + 1) k ⟨j, by omega, by omega, h3⟩ (by omega) (by omega)
    · rw [if_neg hv, if_neg hv]
def canL (l : List Nd) (W : List ByteArray) : List Bi → Nat → List Nd → List Nd
  | [], _, o => o
  | b :: S, v, o => canL l W S (findU W 151 v + 1) (renL l b (freshT (findU W 151 v)) o)
theorem canL_len (l : List Nd) (W : List ByteArray) : ∀ (S : List Bi) (v : Nat) (o : List Nd), (canL l W S v o).length = o.length
  | [], v, o => rfl
  | b :: S, v, o => by rw [canL, canL_len l W S, renL_len]
theorem step_W (W : List ByteArray) (hW : W.length ≤ 150) (v : Nat) (h : v + phi W v ≤ 500) : (∃ j, v ≤ j ∧ j < v + 151 ∧ inU W j = false) ∧ findU W 151 v + 1 + phi W (findU W 151 v + 1) ≤ v + phi W v + 1 ∧ findU W 151 v < 700 := by
  obtain ⟨j, h1, h2, h3⟩ := fresh_free W v (by omega)
  have hp := phi_len W v
  have hex : ∃ j, v ≤ j ∧ j < v + 151 ∧ inU W j = false := ⟨j, h1, by omega, h3⟩
  obtain ⟨a, b, c, e⟩ := findU_ok W 151 v hex (by omega)
  have := cnt_anti (W.map decN) (findU W 151 v)
  refine ⟨hex, ?_, by omega⟩
  unfold phi at *
  omega
theorem can_s {l : List Nd} (h : nodesOkB l = true) (hsm : ∀ n ∈ l, small n) (u W : List ByteArray) (hu : u.length ≤ 1000) (hWl : W.length ≤ 150) (hW : ∀ t, anyT u t = anyT W t) (K : Nat) (hK : big ≤ K) (S : List Bi) : ∀ (k : Nat) (p : List Bi) (v : Nat) (o : List Nd), S.length < k → p.length + S.length ≤ 400 → o.length = l.length → (∀ b ∈ S, 0 ≤ b.Node ∧ b.Node < l.length) → v + phi W v + S.length ≤ 460 →
    spec_Canon.l0 l u (p ++ S) K k (v : Int) p.length o = some (canL l W S v o) := by
  have hlen := ok_len h
  have hK' := hK
  unfold big at hK'
  induction S with
  | nil =>
    intro k p v o hk _ _ _ _
    obtain ⟨k, rfl⟩ := succ_of hk
    rw [spec_Canon.l0, if_neg (by simp)]; rfl
  | cons b S ih =>
    intro k p v o hk hp ho hb hv
    obtain ⟨k, rfl⟩ := succ_of hk
    simp only [List.length_cons] at hk hp hv
    obtain ⟨hb0, hb1⟩ := hb b (by simp)
    obtain ⟨hex, hst, hlt⟩ := step_W W hWl v (by omega)
    rw [spec_Canon.l0, if_pos (by simp; omega)]
    simp only [jn]
    rw [can_l1_s u W hu hW K (by omega) 151 v K hex (by omega) (by omega), Option.bind_some, at_mid, Option.bind_some, spec_uses l b hb0 h hsm K hK, Option.bind_some, (fresh_all hlt (by omega)).1, Option.bind_some, spec_set hlen.2 ho b hb0 hb1 _ K (by omega), Option.bind_some, w64_of (by omega) (by omega), w64_of (by omega) (by omega)]
    have := ih k (p ++ [b]) (findU W 151 v + 1) (renL l b (freshT (findU W 151 v)) o) (by omega) (by simp; omega) (by rw [renL_len]; exact ho) (fun c hc => hb c (by simp [hc])) (by omega)
    rw [List.append_assoc] at this
    rw [show ((findU W 151 v : Nat) : Int) + 1 = ((findU W 151 v + 1 : Nat) : Int) by omega, show (p.length : Int) + 1 = ((p ++ [b]).length : Int) by simp]
    exact this
theorem can_i {l : List Nd} (h : nodesOkB l = true) (u W : List ByteArray) (hu : u.length ≤ 1000) (hWl : W.length ≤ 150) (hW : ∀ t, anyT u t = anyT W t) (K : Nat) (hK : big ≤ K) (S : List Bi) : ∀ (k : Nat) (p : List Bi) (v : Nat) (o : List Nd), S.length < k → p.length + S.length ≤ 400 → o.length = l.length → (∀ b ∈ S, 0 ≤ b.Node ∧ b.Node < l.length) → v + phi W v + S.length ≤ 460 →
    impl_Canon.l0 (bindersL l) u (p ++ S) K k (v : Int) p.length o = some (canL l W S v o) := by
  have hlen := ok_len h
  have hK' := hK
  unfold big at hK'
  induction S with
  | nil =>
    intro k p v o hk _ _ _ _
    obtain ⟨k, rfl⟩ := succ_of hk
    rw [impl_Canon.l0, if_neg (by simp)]; rfl
  | cons b S ih =>
    intro k p v o hk hp ho hb hv
    obtain ⟨k, rfl⟩ := succ_of hk
    simp only [List.length_cons] at hk hp hv
    obtain ⟨hb0, hb1⟩ := hb b (by simp)
    obtain ⟨hex, hst, hlt⟩ := step_W W hWl v (by omega)
    rw [impl_Canon.l0, if_pos (by simp; omega), at_mid, Option.bind_some]
    simp only [jn]
    rw [can_l1_i u W hu hW K (by omega) 151 v K hex (by omega) (by omega), Option.bind_some, (fresh_all hlt (by omega)).2.1, Option.bind_some, impl_set hlen.2 ho b hb0 hb1 _ K (by omega), Option.bind_some, gd_pos (by rw [renL_len]), w64_of (by omega) (by omega), w64_of (by omega) (by omega)]
    have := ih k (p ++ [b]) (findU W 151 v + 1) (renL l b (freshT (findU W 151 v)) o) (by omega) (by simp; omega) (by rw [renL_len]; exact ho) (fun c hc => hb c (by simp [hc])) (by omega)
    rw [List.append_assoc] at this
    rw [show ((findU W 151 v : Nat) : Int) + 1 = ((findU W 151 v + 1 : Nat) : Int) by omega, show (p.length : Int) + 1 = ((p ++ [b]).length : Int) by simp]
    exact this
theorem sites_in (l : List Nd) : ∀ (d i : Nat) (y : List Bi), (∀ b ∈ y, 0 ≤ b.Node ∧ b.Node < (i : Int)) → (∀ b ∈ sitesFrom l d i y, 0 ≤ b.Node ∧ b.Node < ((i + d : Nat) : Int)) ∧ (sitesFrom l d i y).length ≤ y.length + 2 * d
  | 0, i, y, h => ⟨by simpa [sitesFrom] using h, by simp [sitesFrom]⟩
  | d + 1, i, y, h => by
    have hs := siteN_len (nd l i) (i : Int)
    obtain ⟨a, b⟩ := sites_in l d (i + 1) (y ++ siteN (nd l i) i) fun b hb => by
      rcases List.mem_append.1 hb with hb | hb
      · have := h b hb; omega
      · unfold siteN at hb
        split at hb
        · simp at hb; subst hb; exact ⟨by show (0 : Int) ≤ (i : Int); omega, by show (i : Int) < ((i + 1 : Nat) : Int); omega⟩
        · split at hb
          · simp at hb; rcases hb with rfl | rfl <;> exact ⟨by show (0 : Int) ≤ (i : Int); omega, by show (i : Int) < ((i + 1 : Nat) : Int); omega⟩
          · simp at hb
    rw [sitesFrom]
    refine ⟨fun b hb => ?_, by simp at b; omega⟩
    have := a b hb
    rwa [show i + 1 + d = i + (d + 1) by omega] at this
theorem can_ok : CanOk := by
  intro p hp hps
  have hlen := ok_len hp
  have hWl : (freeFrom p p.length 0 []).length ≤ 150 := by have := free_len p p.length 0 []; simp at this; omega
  obtain ⟨hb, hsl⟩ := sites_in p p.length 0 [] (fun b hb => by simp at hb)
  simp only [Nat.zero_add, List.length_nil] at hb hsl
  have hph := phi_len (freeFrom p p.length 0 []) 0
  refine ⟨canL p (freeFrom p p.length 0 []) (sitesFrom p p.length 0 []) 0 p, by rw [canL_len]; exact hlen.2, fun K hK => ?_⟩
  have hK' := hK
  unfold big at hK'
  constructor
  · obtain ⟨u, eu, u1, u2⟩ := spec_free hp hps K hK
    unfold spec_Canon.f
    rw [gd_pos (by omega), spec_nodesOk p (by omega) hps K hK, Option.bind_some, hp]
    simp only [Bool.not_true, Bool.false_eq_true, if_false, jn]
    have es : spec_Sites.f K p = some (sitesFrom p p.length 0 []) := by
      unfold spec_Sites.f
      simp only [jn]
      have := spec_sites_l0 hp hps K hK p.length K 0 [] (by omega) (by omega) (by simp)
      rw [show ((0 : Nat) : Int) = 0 from rfl] at this
      rw [this]; rfl
    rw [eu, Option.bind_some, es, Option.bind_some]
    have := can_s hp hps u _ (by omega) hWl u2 K hK (sitesFrom p p.length 0 []) K [] 0 p (by omega) (by simp; omega) rfl hb (by omega)
    rw [List.nil_append, show ((0 : Nat) : Int) = 0 from rfl, show (([] : List Bi).length : Int) = 0 from rfl] at this
    rw [List.nil_append, this]; rfl
  · obtain ⟨u, eu, u1, u2⟩ := impl_free hp hps K hK
    unfold impl_Canon.f impl_copyNodes.f
    rw [impl_nodesOk p (by omega) hps K hK, Option.bind_some, hp]
    simp only [Bool.not_true, Bool.false_eq_true, if_false, jn]
    have es : impl_Sites.f K p = some (sitesFrom p p.length 0 []) := by
      unfold impl_Sites.f
      rw [impl_nodesOk p (by omega) hps K hK, Option.bind_some, hp]
      simp only [Bool.not_true, Bool.false_eq_true, if_false, jn]
      have := impl_sites_l0 hp K hK p.length K 0 [] (by omega) (by omega) (by simp)
      rw [show ((0 : Nat) : Int) = 0 from rfl] at this
      rw [this]; rfl
    rw [gd_pos (by omega), Option.bind_some, impl_bindersL hp K (by omega), Option.bind_some, eu, Option.bind_some, es, Option.bind_some]
    have := can_i hp u _ (by omega) hWl u2 K hK (sitesFrom p p.length 0 []) K [] 0 p (by omega) (by simp; omega) rfl hb (by omega)
    rw [List.nil_append, show ((0 : Nat) : Int) = 0 from rfl, show (([] : List Bi).length : Int) = 0 from rfl] at this
    rw [this]; rfl
end Go.Proofs.YtfkanjgfjejgiaaGreatDoorE
