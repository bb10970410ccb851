/- Numbers read from digits: the program's ReadDec (over the library's Atoi and Itoa) and the reference's answer the same. -/
import Derived.Test.YtfkanjgfjejgiaaDoorZUvWord
set_option linter.unusedSimpArgs false
set_option linter.unusedVariables false
namespace Go.Proofs.YtfkanjgfjejgiaaDoorE
open Go.Ev Go.RowKit
set_option linter.unusedVariables false
theorem ba_ext {a b : ByteArray} (h : a.data.toList = b.data.toList) : a = b := by
  cases a; cases b; simp at h; simp [h]
theorem ba_app (a b : ByteArray) : (a ++ b).data.toList = a.data.toList ++ b.data.toList := by simp
theorem dig_one : ∀ d : Fin 10, strOfNums [IntKind.u8.wrap (w64 (48 + (d.val : Int)))] = ⟨#[UInt8.ofNat (48 + d.val)]⟩ := by decide +kernel
theorem dig_nat (d : Nat) (h : d < 10) : strOfNums [IntKind.u8.wrap (w64 (48 + (d : Int)))] = ⟨#[UInt8.ofNat (48 + d)]⟩ := dig_one ⟨d, h⟩
theorem dec_l0 (d : Nat) : ∀ (n : Nat) (acc : ByteArray), n < 10 ^ d → d ≤ 18 → acc.size + d ≤ 1000 → ∃ r : ByteArray, r.data.toList = (if n = 0 then [] else Lib.decDigits n) ++ acc.data.toList ∧ ∀ K k, d < k → spec_Dec.l0 K k (n : Int) acc = some r := by
  induction d with
  | zero =>
    intro n acc h _ _
    have : n = 0 := by simp at h; exact h
    subst this
    refine ⟨acc, by simp, fun K k hk => ?_⟩
    obtain ⟨k, rfl⟩ := succ_of hk
    rw [spec_Dec.l0, if_neg (by simp)]
  | succ d ih =>
    intro n acc h hd hs
    by_cases hz : n = 0
    · subst hz
      refine ⟨acc, by simp, fun K k hk => ?_⟩
      obtain ⟨k, rfl⟩ := succ_of (show 0 < k by omega)
      rw [spec_Dec.l0, if_neg (by simp)]
    · have hb : (10 : Nat) ^ (d + 1) ≤ 10 ^ 18 := Nat.pow_le_pow_right (by omega) hd
      have h10 : (10 : Nat) ^ (d + 1) = 10 ^ d * 10 := Nat.pow_succ ..
      have hq : n / 10 < 10 ^ d := by rw [h10] at h; omega
      have hm : n % 10 < 10 := Nat.mod_lt _ (by omega)
      have e1 : Int.tmod (n : Int) 10 = ((n % 10 : Nat) : Int) := by rw [Int.tmod_eq_emod_of_nonneg (by omega)]; omega
      have e2 : w64 (Int.tdiv (n : Int) 10) = ((n / 10 : Nat) : Int) := by
        rw [Int.tdiv_eq_ediv_of_nonneg (by omega), w64_of (by omega) (by omega)]; omega
      have one : (⟨#[UInt8.ofNat (48 + n % 10)]⟩ : ByteArray).size = 1 := rfl
      obtain ⟨r, hr, he⟩ := ih (n / 10) (⟨#[UInt8.ofNat (48 + n % 10)]⟩ ++ acc) hq (by omega) (by rw [ByteArray.size_append, one]; omega)
      refine ⟨r, ?_, fun K k hk => ?_⟩
      · rw [hr, ba_app, if_neg hz]
        by_cases h9 : n < 10
        · rw [Lib.decDigits_one h9, if_pos (by omega), Nat.mod_eq_of_lt h9]; simp
        · have e9 : Lib.decDigits n = Lib.decDigits (n / 10) ++ [UInt8.ofNat (48 + n % 10)] := by rw [Lib.decDigits, dif_neg h9]
          rw [e9, if_neg (by omega)]; simp
      · obtain ⟨k, rfl⟩ := succ_of (show 0 < k by omega)
        rw [spec_Dec.l0, if_pos (by simp; omega)]
        simp only [jn]
        rw [if_neg (by omega), e1, e2, dig_nat _ hm, gd_pos (by rw [one]; omega)]
        exact he K k (by omega)
theorem spec_dec (n : Nat) (h : n < 10 ^ 18) (K : Nat) (hk : 20 < K) : spec_Dec.f K (n : Int) = some ⟨(Lib.itoa (n : Int)).toArray⟩ := by
  unfold spec_Dec.f Lib.itoa
  rw [if_neg (show ¬ (n : Int) < 0 by omega), Int.toNat_natCast]
  by_cases hz : n = 0
  · subst hz
    rw [if_pos (by rfl)]
    exact congrArg some (ba_ext (by simp [Lib.decDigits]))
  · rw [if_neg (by omega)]
    simp only [jn]
    obtain ⟨r, hr, he⟩ := dec_l0 18 n ⟨#[]⟩ h (by omega) (by show 0 + 18 ≤ 1000; omega)
    rw [he K K (by omega), Option.bind_some, if_neg (by omega)]
    rw [if_neg hz] at hr
    exact congrArg some (ba_ext (by rw [hr]; simp))

def digB (b : UInt8) : Prop := 48 ≤ b.toNat ∧ b.toNat ≤ 57
def val (l : List UInt8) (a : Nat) : Nat := l.foldl (fun a b => a * 10 + (b.toNat - 48)) a
theorem val_lt : ∀ (l : List UInt8) (a k : Nat), (∀ b ∈ l, digB b) → a < 10 ^ k → val l a < 10 ^ (k + l.length)
  | [], a, k, _, h => by simpa [val] using h
  | b :: l, a, k, hd, h => by
    have hb := hd b (by simp)
    unfold digB at hb
    have := val_lt l (a * 10 + (b.toNat - 48)) (k + 1) (fun x hx => hd x (by simp [hx])) (by rw [Nat.pow_succ]; omega)
    simp only [val, List.foldl_cons, List.length_cons] at this ⊢
    rw [show k + (l.length + 1) = k + 1 + l.length by omega]
    exact this
theorem parse10 : ∀ (l : List UInt8) (a k : Nat), (∀ b ∈ l, digB b) → a < 10 ^ k → l.length + k ≤ 18 → Lib.parseUint10 a l = .ok (val l a)
  | [], a, k, _, h, _ => rfl
  | b :: l, a, k, hd, h, hl => by
    have hb := hd b (by simp)
    unfold digB at hb
    simp only [List.length_cons] at hl
    have h17 : (10 : Nat) ^ k ≤ 10 ^ 17 := Nat.pow_le_pow_right (by omega) (by omega)
    rw [Lib.parseUint10, if_pos hb, if_neg (by omega), if_neg (by omega)]
    exact parse10 l _ (k + 1) (fun x hx => hd x (by simp [hx])) (by rw [Nat.pow_succ]; omega) (by omega)
theorem atoi_dig (l : List UInt8) (hn : l ≠ []) (hd : ∀ b ∈ l, digB b) (hl : l.length ≤ 18) : Lib.atoiAll l = .ok (val l 0 : Int) := by
  cases l with
  | nil => exact absurd rfl hn
  | cons c r =>
    have hc := hd c (by simp)
    unfold digB at hc
    have hv := val_lt (c :: r) 0 0 hd (by simp)
    have h18 : (10 : Nat) ^ (0 + (c :: r).length) ≤ 10 ^ 18 := Nat.pow_le_pow_right (by omega) (by omega)
    simp only [Lib.atoiAll]
    rw [if_neg (by omega), Lib.parseMag, if_neg (by simp), parse10 (c :: r) 0 0 hd (by simp) (by omega)]
    simp only
    rw [if_neg (by omega), if_neg (by omega), if_neg (by omega)]
theorem nDigits_le : ∀ (k u : Nat), u < 10 ^ (k + 1) → Lib.nDigits u ≤ k + 1
  | 0, u, h => by rw [Lib.nDigits_small (by simpa using h)]; omega
  | k + 1, u, h => by
    by_cases h9 : u < 10
    · rw [Lib.nDigits_small h9]; omega
    · rw [Lib.nDigits_big h9]
      have := nDigits_le k (u / 10) (by rw [Nat.pow_succ] at h; omega)
      omega
theorem readDec_long (t : ByteArray) (hd : ∀ b ∈ t.data.toList, digB b) (hl : 10 ≤ t.data.toList.length) : readDec t = (0, false) := by
  unfold readDec
  split
  · rename_i v _
    rw [if_neg]
    rintro ⟨h1, h2, h3⟩
    rw [Lib.toList_data] at h1
    unfold Lib.itoa at h1
    by_cases hv : v < 0
    · rw [if_pos hv] at h1
      have := hd 45 (by rw [← h1]; simp)
      exact absurd this.1 (by decide)
    · rw [if_neg hv] at h1
      have h4 := congrArg List.length h1
      rw [Lib.decDigits_length] at h4
      have := nDigits_le 8 v.toNat (by simp; omega)
      omega
  · rfl
theorem read_l0 (t : ByteArray) (hd : ∀ b ∈ t.data.toList, digB b) (K m : Nat) : ∀ (k i v : Nat), i + m = min t.size 11 → v < 10 ^ i → m < k → spec_ReadDec.l0 t K k (v : Int) (i : Int) (i : Int) = some (((val ((t.data.toList.drop i).take m) v : Nat) : Int), ((i + m : Nat) : Int)) := by
  induction m with
  | zero =>
    intro k i v h hv hk
    obtain ⟨k, rfl⟩ := succ_of hk
    rw [spec_ReadDec.l0]
    simp only [jn]
    by_cases hs : (i : Int) < (t.size : Int)
    · rw [if_pos hs, if_neg (by simp; omega)]; simp [val]
    · rw [if_neg hs, if_neg (by simp)]; simp [val]
  | succ m ih =>
    intro k i v h hv hk
    obtain ⟨k, rfl⟩ := succ_of (show 0 < k by omega)
    have hi : i < t.size := by omega
    have hi' : i < t.data.toList.length := by rw [← Lib.size_eq]; exact hi
    have hx : t.data.toList[i] = t[i] := by rw [Array.getElem_toList]; rfl
    have hb : digB t[i] := hx ▸ hd _ (List.getElem_mem hi')
    unfold digB at hb
    have h11 : (10 : Nat) ^ i ≤ 10 ^ 10 := Nat.pow_le_pow_right (by omega) (by omega)
    rw [spec_ReadDec.l0]
    simp only [jn]
    rw [if_pos (by omega), if_pos (by simp; omega)]
    simp only [atS_nat t i hi, Option.bind_some]
    rw [if_pos (by omega), if_pos (by simp; omega)]
    have e0 : IntKind.u8.wrap (((t[i].toNat : Nat) : Int) - 48) = ((t[i].toNat - 48 : Nat) : Int) := by
      have : ∀ d : Fin 10, IntKind.u8.wrap (((48 + d.val : Nat) : Int) - 48) = (d.val : Int) := by decide +kernel
      have := this ⟨t[i].toNat - 48, by omega⟩
      simp only at this
      rw [show 48 + (t[i].toNat - 48) = t[i].toNat by omega] at this
      exact this
    have e1 : w64 (w64 ((v : Int) * 10) + w64 (IntKind.u8.wrap (((t[i].toNat : Nat) : Int) - 48))) = ((v * 10 + (t[i].toNat - 48) : Nat) : Int) := by
      rw [e0, w64_of (x := (v : Int) * 10) (by omega) (by omega), w64_of (x := ((t[i].toNat - 48 : Nat) : Int)) (by omega) (by omega), w64_of (by omega) (by omega)]
      omega
    have e2 : w64 ((i : Int) + 1) = ((i + 1 : Nat) : Int) := by rw [w64_of (by omega) (by omega)]; omega
    rw [e1, e2, ih k (i + 1) _ (by omega) (by rw [Nat.pow_succ]; omega) (by omega)]
    rw [List.drop_eq_getElem_cons hi', List.take_succ_cons, hx]
    congr 2
    omega
theorem spec_readDec (t : ByteArray) (hn : t.data.toList ≠ []) (hd : ∀ b ∈ t.data.toList, digB b) (K : Nat) (hk : 30 < K) : spec_ReadDec.f K t = some (readDec t) := by
  have hsz := Lib.size_eq t
  have h0 : 0 < t.size := by rw [hsz]; exact List.length_pos_iff.2 hn
  have hx : t.data.toList[0]'(by rw [← hsz]; exact h0) = t[0] := by rw [Array.getElem_toList]; rfl
  have hb : digB t[0] := hx ▸ hd _ (List.getElem_mem _)
  unfold digB at hb
  unfold spec_ReadDec.f
  simp only [jn]
  have := read_l0 t hd K (min t.size 11) K 0 0 (by omega) (by simp) (by omega)
  simp only [Nat.zero_add] at this
  rw [show spec_ReadDec.l0 t K K 0 0 0 = _ from this, Option.bind_some]
  simp only
  rw [if_pos (by omega), show (0 : Int) = ((0 : Nat) : Int) from rfl, atS_nat t 0 h0, Option.bind_some, if_neg (by simp; omega)]
  by_cases h9 : t.size ≤ 9
  · have hl : t.data.toList.length ≤ 9 := by omega
    rw [if_neg (by omega), if_neg (by omega)]
    rw [List.drop_zero, List.take_of_length_le (by omega)]
    have hv := val_lt t.data.toList 0 0 hd (by simp)
    have h18 : (10 : Nat) ^ (0 + t.data.toList.length) ≤ 10 ^ 9 := Nat.pow_le_pow_right (by omega) (by omega)
    rw [spec_dec _ (by omega) K (by omega), Option.bind_some]
    unfold readDec
    rw [atoi_dig _ hn hd (by omega)]
    simp only
    have e : (⟨(Lib.itoa (val t.data.toList 0 : Int)).toArray⟩ : ByteArray).toList = Lib.itoa (val t.data.toList 0 : Int) := by rw [Lib.toList_data]
    rw [e]
    by_cases hq : Lib.itoa (val t.data.toList 0 : Int) = t.toList
    · rw [if_neg (by simp [hq]), if_pos ⟨hq, by omega, by omega⟩]
    · rw [if_pos (by simp [hq]), if_neg (fun h => hq h.1)]
      rfl
  · rw [readDec_long t hd (by omega)]
    rw [if_pos (by omega), if_pos trivial]
    rfl
end Go.Proofs.YtfkanjgfjejgiaaDoorE
