/- Names for what is done ahead: both sides come to one program, but for its canonical names. -/
import Derived.Test.YtfkanjgfjejgiaaGreatDoorZUvAnf4
import Derived.Test.YtfkanjgfjejgiaaGreatDoorEvPure
set_option linter.unusedSimpArgs false
set_option linter.unusedVariables false
namespace Go.Proofs.YtfkanjgfjejgiaaGreatDoorE
open Go.Ev Go.RowKit
set_option linter.unusedVariables false
set_option linter.unusedSimpArgs false
theorem sumM_app : ∀ (a b : List (Nat × Nat)), sumM (a ++ b) = sumM a + sumM b
  | [], b => by simp [sumM]
  | y :: a, b => by simp [sumM, sumM_app a b]; omega
def kidM (t : List Int) (c : Int) : Nat × Nat := (c.toNat, (c + 1 - rd t c).toNat)
theorem sumM_take {t : List Int} {N : Nat} (ht : StN t N) (ks : List Int) (j : Nat) : ∀ (a b : Int), 0 ≤ a → a ≤ N → j ≤ ks.length → down t ks j a = some b → (sumM ((ks.take j).map (kidM t)) : Int) = a - b := by
  induction j with
  | zero => intro a b _ _ _ h; rw [down_z] at h; cases h; simp [sumM]
  | succ j ih =>
    intro a b h0 h1 hj h
    rw [down_s] at h
    split at h
    · rename_i hc
      have hle : rd t (a - 1) ≤ a - 1 ∧ 0 ≤ rd t (a - 1) := by
        have := ht.2 (a - 1).toNat (by omega)
        rw [← rd_nat, show (((a - 1).toNat : Nat) : Int) = a - 1 by omega] at this
        exact ⟨this.2, this.1⟩
      have := ih _ _ hle.2 (by omega) (by omega) h
      have e : ks[j]?.toList = [a - 1] := by
        rw [List.getElem?_eq_getElem (by omega)]
        have : ks[j]'(by omega) = rd ks (j : Int) := by simp [rd, List.getD, show j < ks.length by omega]
        rw [this, hc.1]; rfl
      rw [List.take_add_one, e, List.map_append, sumM_app]
      simp only [List.map_cons, List.map_nil, sumM, kidM]
      omega
    · cases h
theorem goodA {l : List Nd} (hok : nodesOkB l = true) (x : Nat) : x < l.length → GoodA l x (x + 1 - rd (startsL l) (x : Int)).toNat := by
  induction x using Nat.strongRecOn with
  | ind x ih =>
    intro hx
    have hll := ok_len hok
    obtain ⟨_, hst, hd⟩ := startsL_ok hok
    have hxs := st_le hok x hx
    have hks : ∀ c ∈ kids (nd l x), ∃ q : Nat, c = (q : Int) ∧ q < x := fun c hc => by
      obtain ⟨m, hm, rfl⟩ := List.getElem_of_mem hc
      rw [kids_len] at hm
      have em : (kids (nd l x))[m]'(by rw [kids_len]; exact hm) = rd (kids (nd l x)) (m : Int) := by simp [rd, List.getD, kids_len, hm]
      rw [em]
      have := ok_kids hok x hx m hm
      exact ⟨(rd (kids (nd l x)) (m : Int)).toNat, by omega, by omega⟩
    have hsum : (sumM ((kids (nd l x)).map (kidM (startsL l))) : Int) = (x : Int) - rd (startsL l) (x : Int) := by
      have := sumM_take hst (kids (nd l x)) (arityN (nd l x).Kind) _ _ (by omega) (by omega) (by rw [kids_len]; exact Nat.le_refl _) (hd x hx)
      rwa [← kids_len, List.take_length] at this
    have := good_nodeA hok x hx ((kids (nd l x)).map (kidM (startsL l))) (by
      rw [List.map_map]
      have : ∀ c ∈ kids (nd l x), ((fun y : Nat × Nat => (y.1 : Int)) ∘ kidM (startsL l)) c = c := fun c hc => by
        obtain ⟨q, rfl, _⟩ := hks c hc
        simp [kidM]
      rw [List.map_congr_left this]; simp) (fun y hy => by
      obtain ⟨c, hc, rfl⟩ := List.mem_map.1 hy
      obtain ⟨q, rfl, hq⟩ := hks c hc
      have := ih q hq (by omega)
      simpa [kidM] using this) (by omega)
    rwa [show sumM ((kids (nd l x)).map (kidM (startsL l))) + 1 = (x + 1 - rd (startsL l) (x : Int)).toNat by omega] at this
/-! ### the whole -/
theorem name_small {s : ByteArray} {b : Bool} (h : fitsB s b = true) : s.size ≤ 8 := by
  unfold fitsB at h
  split at h
  · unfold nameB wordB inB at h
    simp at h
    omega
  · have := eq_of_beq h
    rw [Lib.toList_data] at this
    have e : s.size = s.data.toList.length := rfl
    rw [e, this]
    simp
theorem gp_small {p : List Nd} (h : GP p) : ∀ n ∈ p, small n := by
  obtain ⟨_, t, ht, _⟩ := h
  obtain ⟨_, _, q⟩ := go_all p [] t starts_nil ht
  intro n hn
  obtain ⟨j, hj, rfl⟩ := List.getElem_of_mem hn
  have hf := (q j hj).1
  unfold fieldsB at hf
  simp only [Bool.and_eq_true] at hf
  have h1 := name_small hf.2.1
  have h2 := name_small hf.2.2.1
  exact ⟨by omega, by omega⟩
theorem used_all (l : List Nd) (K : Nat) (r : List Nd) : ∀ (k : Nat) (p : List Nd) (u : List ByteArray) (kk : Int), p ++ r = l → r.length < k → p.length + r.length ≤ 1000 → u.length ≤ 2 * p.length → impl_Anf.l0 l K k p.length ⟨u, kk⟩ = some ⟨u ++ namesL r, kk⟩ := by
  induction r with
  | nil =>
    intro k p u kk hp hk hl hu
    obtain ⟨k, rfl⟩ := succ_of hk
    rw [impl_Anf.l0, if_neg (by rw [← hp]; simp)]
    simp [namesL]
  | cons n r ih =>
    intro k p u kk hp hk hl hu
    obtain ⟨k, rfl⟩ := succ_of hk
    simp only [List.length_cons] at hk hl
    rw [impl_Anf.l0, if_pos (by rw [← hp]; simp; omega), ← hp, at_mid, Option.bind_some, gd_pos (by simp only; omega), w64_of (by omega) (by omega)]
    have := ih k (p ++ [n]) (u ++ [n.Name, n.Other]) kk (by rw [← hp]; simp) (by omega) (by simp; omega) (by simp; omega)
    rw [List.length_append, List.length_singleton, show ((p.length + 1 : Nat) : Int) = (p.length : Int) + 1 by omega, ← hp] at this
    rw [this]
    simp [namesL]
theorem ok_root0 {l : List Nd} (h : nodesOkB l = true) : rd (startsL l) ((l.length - 1 : Nat) : Int) = 0 := by
  have hg := (startsL_ok h).1
  unfold nodesOkB at h
  simp only [Bool.and_eq_true] at h
  rw [hg] at h
  exact of_decide_eq_true h.2
def CanOk : Prop := ∀ p : List Nd, nodesOkB p = true → (∀ n ∈ p, small n) → ∃ q, q.length ≤ 150 ∧ ∀ K, big ≤ K → spec_Canon.f K p = some q ∧ impl_Canon.f K p = some q
theorem anf_both (hcan : CanOk) (l : List Nd) (hn : l.length ≤ 1048576) (hsm : ∀ n ∈ l, small n) : ∃ (r : List Nd) (b : Bool), r.length ≤ 150 ∧ Lg fun K => spec_Anf.f K l = some (r, b) ∧ impl_Anf.f K l = some (r, b) := by
  cases h : nodesOkB l with
  | false =>
    refine ⟨[], false, by simp, Lg.mk big fun K hK => ⟨?_, ?_⟩⟩
    · unfold spec_Anf.f
      rw [spec_nodesOk l hn hsm K hK, Option.bind_some, h]; rfl
    · unfold impl_Anf.f
      rw [impl_nodesOk l hn hsm K hK, Option.bind_some, h]; rfl
  | true =>
    have hll := ok_len h
    have hr := ok_root0 h
    have hnl := namesL_len l
    have hph := phi_len (namesL l) 0
    obtain ⟨N, g, e1, e2, hg, h1, h2⟩ := goodA h (l.length - 1) (by omega) 0 (by rw [hr]; omega)
    rw [hr] at h1 h2
    have hgp := hg.gp
    have hps := gp_small hgp
    have hpl : g.p.length ≤ 450 := by omega
    have S : ∀ K, N + big ≤ K → spec_l13Part.f K l (w64 ((l.length : Int) - 1)) 0 = some (g.p, (g.b : Int)) := fun K hK => by
      have := hg.part K K (by omega) (by omega)
      rw [e1, e2] at this
      unfold spec_l13Part.f
      rw [w64_of (by omega) (by omega), show (l.length : Int) - 1 = ((l.length - 1 : Nat) : Int) by omega]
      exact this
    have I : ∀ K, N + big ≤ K → ∀ F : List Nd → Option (List Nd × Bool), ((impl_Anf.l0 l K K 0 ⟨[], 0⟩).bind fun v7 => (impl_wholeTree.f K l).bind fun y10 => (impl_namer_anf.f K v7 y10).bind fun (y12, y13) => (impl_flat.f K [] y12).bind F) = F g.p := fun K hK F => by
      have hK' := hK
      unfold big at hK'
      have q := used_all l K l K [] [] 0 (by simp) (by omega) (by simp; omega) (by simp)
      rw [show impl_Anf.l0 l K K 0 ⟨[], 0⟩ = _ from q, Option.bind_some, List.nil_append]
      have t := hg.tree K K (by omega) (by omega)
      rw [e1] at t
      unfold impl_wholeTree.f impl_treeOf.f
      rw [w64_of (by omega) (by omega), show (l.length : Int) - 1 = ((l.length - 1 : Nat) : Int) by omega, t]
      simp only [Option.bind_some]
      have a := hg.anf K K (by omega) (by omega)
      rw [e2] at a
      unfold impl_namer_anf.f
      rw [show impl_namer_anf.r K K ⟨namesL l, 0⟩ g.t = _ from a]
      simp only [Option.bind_some]
      unfold impl_flat.f
      rw [hg.flat K K (by omega) (by omega) [] (by simp; omega), Option.bind_some, List.nil_append]
      rw [show ((([] : List Nd).length : Nat) : Int) = 0 from rfl, hg.fix]
    by_cases hp : g.p.length ≤ 150
    · have hpo : nodesOkB g.p = true := by rw [gp_ok hgp]; exact decide_eq_true hp
      obtain ⟨q, hq, hc⟩ := hcan g.p hpo hps
      refine ⟨q, true, hq, Lg.mk (N + big) fun K hK => ⟨?_, ?_⟩⟩
      · unfold spec_Anf.f
        rw [spec_nodesOk l hn hsm K (by omega), Option.bind_some, h]
        simp only [Bool.not_true, Bool.false_eq_true, if_false]
        rw [S K hK]
        simp only [Option.bind_some]
        rw [spec_nodesOk g.p (by omega) hps K (by omega), Option.bind_some, hpo]
        simp only [Bool.not_true, Bool.false_eq_true, if_false]
        rw [(hc K (by omega)).1, Option.bind_some]
      · unfold impl_Anf.f
        rw [impl_nodesOk l hn hsm K (by omega), Option.bind_some, h]
        simp only [Bool.not_true, Bool.false_eq_true, if_false, jn]
        refine (I K hK _).trans ?_
        rw [if_neg (by omega), (hc K (by omega)).2, Option.bind_some]
    · have hpo : nodesOkB g.p = false := by rw [gp_ok hgp]; exact decide_eq_false hp
      refine ⟨[], false, by simp, Lg.mk (N + big) fun K hK => ⟨?_, ?_⟩⟩
      · unfold spec_Anf.f
        rw [spec_nodesOk l hn hsm K (by omega), Option.bind_some, h]
        simp only [Bool.not_true, Bool.false_eq_true, if_false]
        rw [S K hK]
        simp only [Option.bind_some]
        rw [spec_nodesOk g.p (by omega) hps K (by omega), Option.bind_some, hpo]
        rfl
      · unfold impl_Anf.f
        rw [impl_nodesOk l hn hsm K (by omega), Option.bind_some, h]
        simp only [Bool.not_true, Bool.false_eq_true, if_false, jn]
        refine (I K hK _).trans ?_
        rw [if_pos (by omega)]
end Go.Proofs.YtfkanjgfjejgiaaGreatDoorE
