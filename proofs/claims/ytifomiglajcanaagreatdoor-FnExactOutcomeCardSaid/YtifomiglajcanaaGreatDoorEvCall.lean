/- The evaluator: EvCall. -/
import Derived.Test.YtifomiglajcanaaGreatDoorEvArgs
set_option linter.unusedSimpArgs false
set_option linter.unusedVariables false
namespace Go.Ev
set_option linter.unusedVariables false
variable {P : Program} {tb : Tb} {md : Md} {call : CallF} {X X' M : Nat → Nat → Prop} {w w' : World} {h h' : Hp} {c c' : Cz} {B B' : Nat → Nat → Prop}

theorem HR.back [Base] (H : HR X w h c) {s k : Nat} {aw nb : Ob} (hl : (h s k).2 = some aw) (hb : nb.isB = aw.isB) (hd : nb.isB = false → aw.dim = nb.dim) (hX : ∀ g o, X' g o → X g o) (hc : ∀ g o, cellsOf nb (c s k) g o → X g o ∧ ¬ X' g o) (ho : ObNew (Bad X h c) w h c w nb (c s k)) :
    Sh X h c w X' (h.mod s k (some nb)) c := by
  have hget : ∀ s' k' ob', ((h.mod s k (some nb)) s' k').2 = some ob' → (s' = s ∧ k' = k ∧ ob' = nb) ∨ (¬ (s' = s ∧ k' = k) ∧ (h s' k').2 = some ob') := by
    intro s' k' ob' e'
    by_cases hn : s' = s ∧ k' = k
    · obtain ⟨rfl, rfl⟩ := hn; rw [Hp.mod_same] at e'; injection e' with e'; exact .inl ⟨rfl, rfl, e'.symm⟩
    · rw [Hp.mod_ne _ _ hn] at e'; exact .inr ⟨hn, e'⟩
  have N : Nm h c (h.mod s k (some nb)) c := by
    refine ⟨fun s' k' => by rw [Hp.mod_1]; exact Nat.le_refl _, fun s' k' ob2 hb2 _ e' => ?_, fun s' k' ob2 hb2 _ e' => ?_⟩
    · rcases hget _ _ _ e' with ⟨rfl, rfl, rfl⟩ | ⟨_, h1⟩
      · exact ⟨rfl, _, by rw [← hb]; exact hb2, hl, hd hb2⟩
      · exact ⟨rfl, ob2, hb2, h1, rfl⟩
    · rcases hget _ _ _ e' with ⟨rfl, rfl, rfl⟩ | ⟨_, h1⟩
      · exact ⟨rfl, _, by rw [← hb]; exact hb2, hl⟩
      · exact ⟨rfl, ob2, hb2, h1⟩
  have hmut : ∀ g o, Mut (h.mod s k (some nb)) c g o → Mut h c g o ∨ cellsOf nb (c s k) g o := by
    rintro g o ⟨s', k', ob', e', hcell⟩
    rcases hget _ _ _ e' with ⟨rfl, rfl, rfl⟩ | ⟨_, h1⟩
    · exact .inr hcell
    · exact .inl ⟨s', k', ob', h1, hcell⟩
  have hbad : ∀ g o, g < w.heap.size → Bad X' (h.mod s k (some nb)) c g o → Bad X h c g o := by
    rintro g o _ (hx | hm)
    · exact .inl (hX g o hx)
    · rcases hmut g o hm with hm | hm
      · exact .inr hm
      · exact .inl (hc g o hm).1
  refine ⟨⟨H.bs.sub hbad, fun s' k' ob' e' => ?_, fun s1 k1 s2 k2 ob1 ob2 g o e1 e2 hne h1 h2 => ?_, fun g o hm hx => ?_, fun g o hx => H.xl g o (hX g o hx)⟩, hbad, N⟩
  · rcases hget _ _ _ e' with ⟨rfl, rfl, rfl⟩ | ⟨_, h1⟩
    · exact ho.obr (Fr.refl (fun _ _ => False) w) (fun _ _ _ x => x.elim) hbad N
    · exact (H.ok s' k' ob' h1).keep (Fr.refl (fun _ _ => False) w) (fun _ _ _ x => x.elim) hbad N fun _ _ _ => _root_.id
  · rcases hget _ _ _ e1 with ⟨rfl, rfl, rfl⟩ | ⟨n1, f1⟩ <;> rcases hget _ _ _ e2 with ⟨q1, q2, q3⟩ | ⟨n2, f2⟩
    · exact hne ⟨q1.symm, q2.symm⟩
    · exact H.nx g o ⟨_, _, _, f2, h2⟩ (hc g o h1).1
    · subst q1; subst q2; subst q3; exact H.nx g o ⟨_, _, _, f1, h1⟩ (hc g o h2).1
    · exact H.sep s1 k1 s2 k2 ob1 ob2 g o f1 f2 hne h1 h2
  · rcases hmut g o hm with hm | hm
    · exact H.nx g o hm (hX g o hx)
    · exact (hc g o hm).2 hx

theorem backs_ok [Base] {hm : Hp} {cm : Cz} : ∀ {bs : List Lent} {pvs : List Value} {G A R L : List Atm} {h h' : Hp} {c : Cz} {tss : List T}, HR (Or2 X (cellsL L)) w h c → L.Perm ((A ++ G) ++ R) → Disj L → (∀ g o, cellsL L g o → ¬ X g o) →
    Lents B w hm cm bs pvs G → TRs (Bad (Or2 X (cellsL L)) h c) w tss pvs A → Nm hm cm h c → (∀ g o, g < w.heap.size → Bad (Or2 X (cellsL L)) h c g o → B g o) → backs bs tss h = some h' →
    ∃ c', Sh (Or2 X (cellsL L)) h c w (Or2 X (cellsL R)) h' c'
  | [], pvs, G, A, R, L, h, h', c, tss, H, hp, hd, hx, hl, r, N, hB, e => by
    cases hl
    cases tss with
    | cons ts tss => cases r
    | nil =>
      cases r
      simp [backs] at e; subst e
      have : Or2 X (cellsL L) = Or2 X (cellsL R) := by funext g o; exact propext (or_congr Iff.rfl (by rw [← cellsL_perm hp]; rfl))
      rw [this]; exact ⟨c, Sh.refl (this ▸ H)⟩
  | b :: bs, pvs, G, A, R, L, h, h', c, [], H, hp, hd, hx, hl, r, N, hB, e => by simp [backs] at e
  | b :: bs, pvs, G, A, R, L, h, h', c, .d x :: tss, H, hp, hd, hx, hl, r, N, hB, e => by simp [backs] at e
  | b :: bs, pvs, G, A, R, L, h, h', c, .agg x :: tss, H, hp, hd, hx, hl, r, N, hB, e => by simp [backs] at e
  | b :: bs, pvs, G, A, R, L, h, h', c, .lend f sz xs :: tss, H, hp, hd, hx, hl, r, N, hB, e => by simp [backs] at e
  | b :: bs, pvs, G, A, R, L, h, h', c, .own f sz xs :: tss, H, hp, hd, hx, hl, r, N, hB, e => by
    simp only [backs] at e
    split at e
    case isFalse => cases e
    rename_i hrow
    split at e
    case h_2 => cases e
    rename_i sz' n hget
    split at e
    case isFalse => cases e
    rename_i hdim
    obtain ⟨rfl, rfl⟩ := hdim
    obtain ⟨g1, g2⟩ := get_some hget
    cases hl with
    | @cons _ pv G1 _ pvs G2 l1 l2 =>
      cases r with
      | @cons _ _ A1 _ _ A2 r1 r2 =>
        rcases l1 with ⟨hno, _⟩ | ⟨_, k1, rfl, k5⟩
        · rw [hrow] at hno; cases hno
        cases r1 with
        | c r1 =>
        cases r1 with
        | own ho h1one =>
          have hc0 : c b.s b.k = pv := by rw [(N.row b.s b.k _ rfl (g1.trans k5.symm) g2).1]; exact k1
          have hp2 : L.Perm ((Ob.row true f sz xs, pv) :: ((A2 ++ G2) ++ R)) := by
            refine hp.trans ?_
            simp only [List.cons_append, List.nil_append]
            exact List.Perm.refl _
          have heq : Or2 X (cellsL L) = Or2 X (cellsL ((Ob.row true f sz xs, pv) :: ((A2 ++ G2) ++ R))) := by
            funext g o; exact propext (or_congr Iff.rfl (cellsL_perm hp2).symm)
          have hd2 := hd.perm hp2
          have hx2 : ∀ g' o', cellsL ((Ob.row true f sz xs, pv) :: ((A2 ++ G2) ++ R)) g' o' → ¬ X g' o' := fun g' o' x => hx g' o' ((cellsL_perm hp2).1 x)
          have dd1 := List.pairwise_cons.1 hd2
          rw [heq] at H r2 hB ho ⊢
          have sh2 := HR.back (X' := Or2 X (cellsL ((A2 ++ G2) ++ R))) (nb := .row true f sz xs) H g2 rfl (fun _ => rfl) (fun g' o' x => x.imp _root_.id fun ⟨p, hp, y⟩ => ⟨p, List.mem_cons_of_mem _ hp, y⟩)
            (fun g' o' x => by
              rw [hc0] at x
              exact ⟨.inr ⟨_, List.mem_cons_self .., x⟩, fun z => z.elim (hx2 g' o' ⟨_, List.mem_cons_self .., x⟩) fun ⟨p, hp, z⟩ => dd1.1 p hp g' o' x z⟩)
            (by rw [hc0]; exact ho)
          obtain ⟨c2, sh3⟩ := backs_ok (L := (A2 ++ G2) ++ R) (R := R) sh2.hr (List.Perm.refl _) dd1.2 (fun g' o' ⟨p, hp, y⟩ => hx2 g' o' ⟨p, List.mem_cons_of_mem _ hp, y⟩) l2 (r2.less sh2.bad) (N.trans sh2.nm) (fun g' o' hg y => hB g' o' hg (sh2.bad g' o' hg y)) e
          exact ⟨c2, sh2.trans sh3⟩
  | b :: bs, pvs, G, A, R, L, h, h', c, .ptr ts :: tss, H, hp, hd, hx, hl, r, N, hB, e => by
    cases hl with
    | @cons _ pv G1 _ pvs G2 l1 l2 =>
      cases r with
      | @cons _ _ A1 _ _ A2 r1 r2 =>
        cases r1 with
        | c r1 => cases r1
        | @ptr _ us A0 a tc hs hcell =>
          simp only [backs] at e
          split at e
          case isFalse => cases e
          rename_i hlen
          obtain ⟨hlen, hrow⟩ := hlen
          rcases l1 with ⟨_, l1⟩ | ⟨hno, _⟩
          case inr => rw [hrow] at hno; cases hno
          obtain ⟨g, q, k1, k2, k3, k4, k5, k6⟩ := l1
          injection k2 with k2; injection k2 with k2; subst k2
          simp only [Option.bind_eq_some_iff, Prod.exists] at e
          obtain ⟨vs, h1, e1, e⟩ := e
          split at e
          case h_2 => cases e
          rename_i hget
          have hbx : (Ob.box (List.replicate ts.length V.u), Value.pointer (some (⟨g, q + b.o, none⟩ : Addr))) = boxA b.n g (q + b.o) := by rw [hlen]; rfl
          rw [hbx] at hp
          subst k3
          -- the atoms in another order
          have hp2 : L.Perm (A0 ++ (boxA b.n g (q + b.o) :: boxA b.o g q :: boxA (b.cs.length - (b.o + b.n)) g (q + (b.o + b.n)) :: ((A2 ++ G2) ++ R))) := by
            refine hp.trans ?_
            simp only [List.cons_append, List.append_assoc, List.nil_append]
            refine (List.perm_middle (l₁ := A0)).symm.trans (List.Perm.append_left A0 (List.Perm.cons _ ?_))
            have : (A2 ++ (boxA b.o g q :: boxA (b.cs.length - (b.o + b.n)) g (q + (b.o + b.n)) :: (G2 ++ R))).Perm (boxA b.o g q :: boxA (b.cs.length - (b.o + b.n)) g (q + (b.o + b.n)) :: (A2 ++ (G2 ++ R))) :=
              List.perm_middle.trans (List.Perm.cons _ List.perm_middle)
            exact this
          have heq : Or2 X (cellsL L) = Or2 X (cellsL (A0 ++ (boxA b.n g (q + b.o) :: boxA b.o g q :: boxA (b.cs.length - (b.o + b.n)) g (q + (b.o + b.n)) :: ((A2 ++ G2) ++ R)))) := by
            funext g o; exact propext (or_congr Iff.rfl (cellsL_perm hp2).symm)
          have hd2 := hd.perm hp2
          have hx2 : ∀ g' o', cellsL (A0 ++ (boxA b.n g (q + b.o) :: boxA b.o g q :: boxA (b.cs.length - (b.o + b.n)) g (q + (b.o + b.n)) :: ((A2 ++ G2) ++ R))) g' o' → ¬ X g' o' := fun g' o' x => hx g' o' ((cellsL_perm hp2).1 x)
          rw [heq] at H tc r2 hB ⊢
          obtain ⟨c1, sh1, hvl, hvo, hvr⟩ := ldCells_ok H rfl hd2 hx2 tc e1
          have N1 := N.trans sh1.nm
          obtain ⟨g1, g2⟩ := get_some hget
          have hc1 : c1 b.s b.k = .pointer (some ⟨g, q, none⟩) := by
            rw [(N1.box b.s b.k .lent rfl (g1.trans k5.symm) g2).1]; exact k1
          have htl := tc.length
          have hvn : vs.length = b.n := by rw [hvl, ← htl, hlen]
          have hfit : b.o + vs.length ≤ b.cs.length := by omega
          obtain ⟨d1, d2, d3⟩ := hd2.app
          have dd1 := List.pairwise_cons.1 d2
          have dd2 := List.pairwise_cons.1 dd1.2
          have dd3 := List.pairwise_cons.1 dd2.2
          have sh2 := HR.back (X' := Or2 X (cellsL ((A2 ++ G2) ++ R))) sh1.hr g2 rfl (fun e => by cases e) (fun g' o' x => x.imp _root_.id fun ⟨p, hp, y⟩ => ⟨p, by simp only [List.mem_cons]; exact .inr (.inr (.inr hp)), y⟩) (nb := .box (over b.cs b.o vs))
            (fun g' o' x => by
              rw [hc1] at x
              obtain ⟨x1, x2, x3⟩ := x
              rw [length_over hfit] at x3
              simp only at x1 x2 x3
              by_cases h1 : o' < q + b.o
              · have y := (boxA_cells (n := b.o) (q := q)).2 ⟨x1, x2, h1⟩
                exact ⟨.inr ⟨boxA b.o g q, by simp, y⟩, fun z => z.elim (hx2 g' o' (cellsL_append.2 (.inr ⟨boxA b.o g q, by simp, y⟩))) fun ⟨p, hp, z⟩ => dd2.1 p (by simp only [List.mem_cons]; exact .inr hp) g' o' y z⟩
              · by_cases h2 : o' < q + b.o + b.n
                · have y := (boxA_cells (n := b.n) (q := q + b.o) (o := o')).2 ⟨x1, by omega, h2⟩
                  exact ⟨.inr ⟨_, List.mem_cons_self .., y⟩, fun z => z.elim (hx2 g' o' (cellsL_append.2 (.inr ⟨_, List.mem_cons_self .., y⟩))) fun ⟨p, hp, z⟩ => dd1.1 p (by simp only [List.mem_cons]; exact .inr (.inr hp)) g' o' y z⟩
                · have y := (boxA_cells (n := b.cs.length - (b.o + b.n)) (q := q + (b.o + b.n)) (o := o')).2 ⟨x1, by omega, by omega⟩
                  exact ⟨.inr ⟨boxA (b.cs.length - (b.o + b.n)) g (q + (b.o + b.n)), by simp, y⟩, fun z => z.elim (hx2 g' o' (cellsL_append.2 (.inr ⟨boxA (b.cs.length - (b.o + b.n)) g (q + (b.o + b.n)), by simp, y⟩))) fun ⟨p, hp, z⟩ => dd3.1 p hp g' o' y z⟩)
            (by
              rw [hc1]
              refine ⟨⟨g, q, none⟩, rfl, rfl, fun j x hxj => ?_⟩
              rcases over_cases hfit hxj with ⟨hout, hxo⟩ | ⟨j', rfl, hxn⟩
              · obtain ⟨p1, p2⟩ := k6 j x hxo
                obtain ⟨u, u1, u2, u3, u4⟩ := p2 (by omega)
                exact ⟨p1, u, u1, u2, u3, u4.keep (fun _ _ _ _ => rfl) (fun g' o' hg y => hB g' o' hg (sh1.bad g' o' hg y)) N1⟩
              · have hj : j' < us.length := by have := (List.getElem?_eq_some_iff.1 hxn).1; omega
                have hu : us[j']? = some us[j'] := List.getElem?_eq_getElem hj
                obtain ⟨u1, u2⟩ := hcell j' _ hu
                rw [Nat.add_assoc] at u1 u2
                exact ⟨hvo x (List.mem_of_getElem? hxn), us[j'], u1, u2, tc.one _ (List.mem_of_getElem? hu), hvr j' x _ hxn hu⟩)
          have sh12 := sh1.trans sh2
          obtain ⟨c2, sh3⟩ := backs_ok (L := (A2 ++ G2) ++ R) (R := R) sh2.hr (List.Perm.refl _) dd3.2 (fun g' o' x => hx2 g' o' (cellsL_append.2 (.inr (by obtain ⟨p, hp, y⟩ := x; exact ⟨p, by simp only [List.mem_cons]; exact .inr (.inr (.inr hp)), y⟩)))) l2 (r2.less sh12.bad) (N.trans sh12.nm) (fun g' o' hg y => hB g' o' hg (sh12.bad g' o' hg y)) e
          exact ⟨c2, sh12.trans sh3⟩

/-! ### The contract of what a call does -/
def tupVal : List Value → Value
  | [v] => v
  | vs => .tuple vs.toArray
/-- A call of g is a call of its body. -/
def Enters (P : Program) (g : Nat) : Prop := ∃ fn, P.funcs[g]? = some fn ∧ (fn.name == "runtime.NumGoroutine") = false ∧ fn.body.isNone = false
/-- What is asked of one call. -/
def Ok2 [Base] (P : Program) (g : Nat) (ts : List T) (rs : List T) (ps : List T) : Prop :=
  ∀ (X : Nat → Nat → Prop) (w : World) (us : List Value) (A : List Atm), TRs (Or2 X (cellsL A)) w ts us A → Disj A → (∀ g o, cellsL A g o → ¬ X g o) → (∀ g o, X g o → g < w.heap.size) → Bs w (Or2 X (cellsL A)) →
    Calls P g us.toArray w fun e w' => ∃ rvs A1 A2, e = .returned (tupVal rvs) ∧ TRs (Or2 X (cellsL (A1 ++ A2))) w' rs rvs A1 ∧ TRs (Or2 X (cellsL (A1 ++ A2))) w' ps (ptrsOf ts us) A2 ∧ Disj (A1 ++ A2) ∧
      (∀ g o, cellsL (A1 ++ A2) g o → ¬ X g o) ∧ Fr (cellsL A) w w' ∧ ∀ g o, g < w.heap.size → cellsL (A1 ++ A2) g o → cellsL A g o
/-- Values in the places of the tokens. -/
def putT (ρ : Nat → Value) : Nat → List T → List T
  | _, [] => []
  | i, t :: ts => (bif t.isTok then .d (.p (ρ i)) else t) :: putT ρ (i + 1) ts
def putA (ρ : Nat → Value) : List T → List T
  | .ptr ts :: r => .ptr (putT ρ 0 ts) :: r
  | ts => ts
/-- A number that is no function's: it stands for a function that keeps some cells. -/
def Virt (P : Program) (g : Nat) : Prop := 1000000 ≤ g
def CallOk [Base] (P : Program) (call : CallF) : Prop :=
  ∀ g ts rs ps, call g ts = some (rs, ps) → (¬ Virt P g → Enters P g ∧ Ok2 P g ts rs ps) ∧
    (Virt P g → Enters P (g - 1000000) ∧ ∀ ρ, (∀ i, (ρ i).oneCell' = true) → Ok2 P (g - 1000000) (putA ρ ts) rs (putA ρ ps))

theorem RO.any {y : D} {v : Value} (h1 : y.isP = true) (r : RO B w y v) : RO B' w y v := by
  cases r with
  | p v h => exact .p v h
  | l => cases h1
theorem TC.any [Base] {t : T} {u : Value} {A : List Atm} (hs : t.shares = false) (r : TC B w t u A) : TC B' w t u A := by
  cases r with
  | @d x v hx => cases x with
    | p v => exact .d (hx.any rfl)
    | l => simp [T.shares] at hs
  | @own f sz xs v ho h1 =>
    simp [T.shares] at hs; subst hs
    obtain ⟨us, k1, k2, k3, k4⟩ := ho
    exact .own ⟨us, k1, k2, k3, fun i x j y a b => by
      obtain ⟨u, p1, p2⟩ := k4 i x j y a b
      exact ⟨u, p1, p2.any (List.all_eq_true.1 (k3 rfl x (List.mem_of_getElem? a)) y (List.mem_of_getElem? b))⟩⟩ h1
theorem TCs.any [Base] {ts : List T} {us : List Value} {A : List Atm} (hs : T.sharesL ts = false) (r : TCs B w ts us A) : TCs B' w ts us A := by
  induction r with
  | nil => exact .nil
  | cons h1 _ ih => simp [T.sharesL] at hs; exact .cons (h1.any hs.1) (ih hs.2)
theorem TR.any [Base] {t : T} {u : Value} {A : List Atm} (hs : t.shares = false) (r : TR B w t u A) : TR B' w t u A := by
  cases r with
  | c h => exact .c (h.any hs)
  | lend h => exact .lend (h.any hs)
  | agg h => simp [T.shares] at hs; exact .agg (h.any hs)
  | ptr h h1 h2 => simp [T.shares] at hs; exact .ptr (h.any hs) h1 h2
theorem TRs.any [Base] {ts : List T} {us : List Value} {A : List Atm} (hs : T.sharesL ts = false) (r : TRs B w ts us A) : TRs B' w ts us A := by
  induction r with
  | nil => exact .nil
  | cons h1 _ ih => simp [T.sharesL] at hs; exact .cons (h1.any hs.1) (ih hs.2)

theorem TC.lt [Base] {t : T} {u : Value} {A : List Atm} (r : TC B w t u A) {g o : Nat} (hc : cellsL A g o) : g < w.heap.size := by
  cases r with
  | d => obtain ⟨p, hp, _⟩ := hc; simp at hp
  | own ho h1 => exact cellsOf_lt (h := Hp.nil) (c := fun _ _ => undef) (B := B) (ob := .row true _ _ _) ho (cellsL_one.1 hc)
theorem TCs.lt [Base] {ts : List T} {us : List Value} {A : List Atm} (r : TCs B w ts us A) {g o : Nat} (hc : cellsL A g o) : g < w.heap.size := by
  induction r with
  | nil => obtain ⟨p, hp, _⟩ := hc; simp at hp
  | cons h1 _ ih => exact (cellsL_append.1 hc).elim h1.lt ih
theorem TR.lt [Base] {t : T} {u : Value} {A : List Atm} (r : TR B w t u A) {g o : Nat} (hc : cellsL A g o) : g < w.heap.size := by
  cases r with
  | c h => exact h.lt hc
  | lend h => exact h.lt hc
  | agg h => exact h.lt hc
  | @ptr ts us L a h h1 h2 =>
    obtain ⟨p, hp, x⟩ := hc
    rcases List.mem_cons.1 hp with rfl | hp
    · obtain ⟨e, q1, q2⟩ := x
      simp at q2
      have hl := h.length
      have hu : us[o - a.off]? = some us[o - a.off] := List.getElem?_eq_getElem (by omega)
      exact e ▸ cell_lt (h2 _ _ hu).1
    · exact h.lt ⟨p, hp, x⟩
theorem TRs.lt [Base] {ts : List T} {us : List Value} {A : List Atm} (r : TRs B w ts us A) {g o : Nat} (hc : cellsL A g o) : g < w.heap.size := by
  induction r with
  | nil => obtain ⟨p, hp, _⟩ := hc; simp at hp
  | cons h1 _ ih => exact (cellsL_append.1 hc).elim h1.lt ih

theorem Nm.refl (h : Hp) (c : Cz) : Nm h c h c := ⟨fun _ _ => Nat.le_refl _, fun s k ob hb _ e => ⟨rfl, ob, hb, e, rfl⟩, fun s k ob hb _ e => ⟨rfl, ob, hb, e⟩⟩
theorem HR.less [Base] (H : HR X w h c) (hX : ∀ g o, X' g o → X g o) : Sh X h c w X' h c := by
  have hb : ∀ g o, g < w.heap.size → Bad X' h c g o → Bad X h c g o := fun g o _ x => x.imp (hX g o) _root_.id
  exact ⟨⟨H.bs.sub hb, fun s k ob e => (H.ok s k ob e).keep (Fr.refl (fun _ _ => False) w) (fun _ _ _ x => x.elim) hb (Nm.refl h c) fun _ _ _ => _root_.id, H.sep, fun g o hm hx => H.nx g o hm (hX g o hx), fun g o hx => H.xl g o (hX g o hx)⟩, hb, Nm.refl h c⟩
theorem Mut_lt [Base] (H : HR X w h c) {g o : Nat} (hm : Mut h c g o) : g < w.heap.size := by
  obtain ⟨s, k, ob, e, x⟩ := hm; exact cellsOf_lt (H.ok s k ob e) x
/-- The others have written in their cells A; these are the cells L' now. -/
theorem HR.world [Base] {Y : Nat → Nat → Prop} {A L' : List Atm} (H : HR (Or2 Y (cellsL A)) w h c) (F : Fr (cellsL A) w w') (h1 : ∀ g o, g < w.heap.size → cellsL L' g o → cellsL A g o) (h2 : ∀ g o, cellsL L' g o → g < w'.heap.size) :
    HR (Or2 Y (cellsL L')) w' h c ∧ ∀ g o, g < w.heap.size → Bad (Or2 Y (cellsL L')) h c g o → Bad (Or2 Y (cellsL A)) h c g o := by
  have hb : ∀ g o, g < w.heap.size → Bad (Or2 Y (cellsL L')) h c g o → Bad (Or2 Y (cellsL A)) h c g o := fun g o hg x => x.imp (fun y => y.imp _root_.id (h1 g o hg)) _root_.id
  refine ⟨⟨H.bs.step F (fun g o _ x => .inl (.inr x)) hb, fun s k ob e => (H.ok s k ob e).keep F (fun g o _ x => .inl (.inr x)) hb (Nm.refl h c) fun g o x y => H.nx g o ⟨s, k, ob, e, x⟩ (.inr y), H.sep, fun g o hm hx => ?_, fun g o hx => ?_⟩, hb⟩
  · exact H.nx g o hm (hx.imp _root_.id (h1 g o (Mut_lt H hm)))
  · exact hx.elim (fun y => Nat.lt_of_lt_of_le (H.xl g o (.inl y)) F.size) (h2 g o)

theorem Lents.world [Base] (hk : ∀ g o, g < w.heap.size → ¬ B g o → w'.cell? ⟨g, o, none⟩ = w.cell? ⟨g, o, none⟩) (hb : ∀ g o, g < w.heap.size → B' g o → B g o) {bs : List Lent} {pvs : List Value} {G : List Atm}
    (hG : ∀ g o, g < w.heap.size → cellsL G g o → w'.cell? ⟨g, o, none⟩ = w.cell? ⟨g, o, none⟩ ∧ w'.frozen? ⟨g, o, none⟩ = w.frozen? ⟨g, o, none⟩) (l : Lents B w h c bs pvs G) : Lents B' w' h c bs pvs G := by
  induction l with
  | nil => exact .nil
  | cons h1 _ ih => exact .cons (h1.keep hk hb (Nm.refl _ _) rfl rfl fun g o hg x => hG g o hg (cellsL_append.2 (.inl x))) (ih fun g o hg x => hG g o hg (cellsL_append.2 (.inr x)))

theorem callV_ok [Base] (hC : CallOk P call) {g : Nat} (hg : ¬ Virt P g) (H : HR X w h c) {vs : List V} {us : List Value} (hr : ∀ (j : Nat) x u, vs[j]? = some x → us[j]? = some u → RV (Bad X h c) w h c x u) (hl : vs.length = us.length) {tys : List Nat} {d : Option Nat} {v : V}
    (e : callV tb md call g tys vs d h = some (v, h')) : Enters P g ∧ Calls P g us.toArray w fun e w' => ∃ u c', e = .returned u ∧ Mv X (Mut h c) w h c w' h' c' ∧ RV (Bad X h' c') w' h' c' v u := by
  simp only [callV, Option.bind_eq_some_iff, Prod.exists] at e
  obtain ⟨ts, h1, shown, lent, ea, e⟩ := e
  split at e
  case isFalse => cases e
  rename_i hshown
  simp only [Option.bind_eq_some_iff, Prod.exists] at e
  obtain ⟨rs, ps, ec, hb, eb, e⟩ := e
  obtain ⟨A, G, m, l, kT⟩ := argTs_ok H hr hl ea
  obtain ⟨M0, hM0, mf⟩ := freezes_ok shown m.sh.hr
  generalize hhf : freezes shown h1 = hf at *
  have hmutf : ∀ g o, Mut hf c g o → Mut h1 c g o := fun g o x => mf.mut_ g o (Mut_lt mf.hr x) x
  have hmut1 : ∀ g o, Mut h1 c g o → Mut h c g o := by
    rintro g o ⟨s, k, ob, e, x⟩
    exact ⟨s, k, ob, m.sub.some e (not_away x), x⟩
  have hAlt : ∀ g o, cellsL (A ++ G) g o → g < w.heap.size := fun g o x => Mut_lt H (m.inm g o x)
  obtain ⟨dA, dG, dAG⟩ := m.disj.app
  let Xc : Nat → Nat → Prop := fun g o => X g o ∨ Mut hf c g o ∨ cellsL G g o
  have hBf : ∀ g o, g < w.heap.size → Or2 Xc (cellsL A) g o → Bad (Or2 X (cellsL (A ++ G))) hf c g o := by
    rintro g o _ ((x | x | x) | x)
    · exact .inl (.inl x)
    · exact .inr x
    · exact .inl (.inr (cellsL_append.2 (.inr x)))
    · exact .inl (.inr (cellsL_append.2 (.inl x)))
  have hsh : ShownOk (Or2 Xc (cellsL A)) w h1 c shown := by
    intro p hp
    have := List.all_eq_true.1 hshown p hp
    obtain ⟨s, k⟩ := p
    simp only [ownAt] at this
    split at this
    · rename_i f sz xs e1
      have e2 := freezes_at shown e1 (.inr hp)
      rw [hhf] at e2
      exact ⟨f, sz, xs, e1, (RO.keep (fun _ _ _ _ => rfl) hBf (mf.hr.ok s k (.row false f sz xs) e2))⟩
    · cases this
  have hT := kT _ h1 (fun g o hg x => (hBf g o hg x).imp _root_.id (hmutf g o)) (Sub.refl h1) hsh
  refine ⟨((hC g ts rs ps ec).1 hg).1, (((hC g ts rs ps ec).1 hg).2 Xc w us A hT dA (fun g o x => ?_) (fun g o x => ?_) (mf.hr.bs.sub hBf)).mono ?_⟩
  · rintro (y | y | y)
    · exact H.nx g o (m.inm g o (cellsL_append.2 (.inl x))) y
    · exact m.sh.hr.nx g o (hmutf g o y) (.inr (cellsL_append.2 (.inl x)))
    · exact dAG g o x y
  · rcases x with x | x | x
    · exact H.xl g o x
    · exact Mut_lt mf.hr x
    · exact hAlt g o (cellsL_append.2 (.inr x))
  rintro en w' ⟨rvs, A1, A2, rfl, r1, r2, d12, x12, F, i12⟩
  have lt12 : ∀ g o, cellsL (A1 ++ A2) g o → g < w'.heap.size := fun g o x => (cellsL_append.1 x).elim r1.lt r2.lt
  -- the heap that one goes on with
  have hS : ∃ hs, (if T.sharesL rs || T.sharesL ps then hf else h1) = hs ∧ HR (Or2 X (cellsL (A ++ G))) w hs c ∧ Nm h1 c hs c ∧ (∀ g o, Mut hs c g o → Mut h1 c g o) ∧ ((T.sharesL rs || T.sharesL ps) = true → hs = hf) := by
    by_cases hsr : (T.sharesL rs || T.sharesL ps) = true
    · exact ⟨hf, by rw [if_pos hsr], mf.hr, mf.nm, hmutf, fun _ => rfl⟩
    · exact ⟨h1, by rw [if_neg hsr], m.sh.hr, Nm.refl _ _, fun _ _ => _root_.id, fun h => absurd h hsr⟩
  obtain ⟨hs, ehs, Hs, Ns, Ms, hsf⟩ := hS
  rw [ehs] at eb
  have heqY : Or2 X (cellsL (A ++ G)) = Or2 (Or2 X (cellsL G)) (cellsL A) := by funext g o; simp only [Or2, cellsL_append]; exact propext (by rw [or_assoc, or_comm (a := cellsL A g o)])
  rw [heqY] at Hs
  obtain ⟨Hw, hbw⟩ := HR.world (L' := A1 ++ A2) Hs F i12 lt12
  have hp : ((A2 ++ G) ++ A1).Perm (G ++ (A1 ++ A2)) := by
    refine (List.Perm.append_right A1 List.perm_append_comm).trans ?_
    rw [List.append_assoc]
    exact List.Perm.append_left G List.perm_append_comm
  have heqL : Or2 (Or2 X (cellsL G)) (cellsL (A1 ++ A2)) = Or2 X (cellsL ((A2 ++ G) ++ A1)) := by
    rw [Or2_app]; funext g o; exact propext (or_congr Iff.rfl (cellsL_perm hp))
  -- what comes back stands beside what is here
  have hres : ∀ {ts' : List T} {us' : List Value} {A' : List Atm}, ((T.sharesL rs || T.sharesL ps) = false → T.sharesL ts' = false) → TRs (Or2 Xc (cellsL (A1 ++ A2))) w' ts' us' A' → TRs (Bad (Or2 X (cellsL ((A2 ++ G) ++ A1))) hs c) w' ts' us' A' := by
    intro ts' us' A' hno r
    by_cases hsr : (T.sharesL rs || T.sharesL ps) = true
    · refine r.less fun g o _ x => ?_
      rw [← heqL, hsf hsr] at x
      rcases x with (((x | x) | x) | x)
      · exact .inl (.inl x)
      · exact .inl (.inr (.inr x))
      · exact .inr x
      · exact .inl (.inr (.inl x))
    · exact r.any (hno (by simpa using hsr))
  rw [heqL] at Hw hbw
  have dL : Disj ((A2 ++ G) ++ A1) := (Disj.mk dG d12 fun g o x y => x12 g o y (.inr (.inr x))).perm hp.symm
  have hxL : ∀ g o, cellsL ((A2 ++ G) ++ A1) g o → ¬ X g o := by
    intro g o x y
    rcases cellsL_append.1 ((cellsL_perm hp).2 x) with x | x
    · exact H.nx g o (m.inm g o (cellsL_append.2 (.inr x))) y
    · exact x12 g o x (.inl y)
  have lw : Lents (fun g o => Bad (Or2 X (cellsL (A ++ G))) h1 c g o ∨ w.heap.size ≤ g) w' h1 c lent (ptrsOf ts us) G := by
    refine l.world (fun g o hg hn => (F.cell g o hg fun x => hn (.inl (.inr (cellsL_append.2 (.inl x))))).1) (fun g o hg x => x.elim _root_.id fun y => by omega) fun g o hg x => F.cell g o hg fun y => dAG g o y x
  obtain ⟨c2, sh2⟩ := backs_ok (R := A1) Hw (List.Perm.refl _) dL hxL lw (hres (fun hn => by simp at hn; exact hn.2) r2) Ns (fun g o hg x => by
    by_cases hgw : g < w.heap.size
    · refine .inl ?_
      have y := hbw g o hgw x
      rw [← heqY] at y
      exact y.imp _root_.id (Ms g o)
    · exact .inr (by omega)) eb
  -- which cells may change at the end
  have hmut : ∀ {h4 : Hp} {c4 : Cz} {X4 : Nat → Nat → Prop}, Sh (Or2 X (cellsL A1)) hb c2 w' X4 h4 c4 → (∀ g o, X g o → X4 g o) → ∀ g o, g < w.heap.size → Mut h4 c4 g o → Mut h c g o := by
    intro h4 c4 X4 sh hX4 g o hg x
    have hgw : g < w'.heap.size := Nat.lt_of_lt_of_le hg F.size
    rcases hbw g o hg (sh2.bad g o hgw (sh.bad g o hgw (.inr x))) with (y | y) | y
    · rcases y with y | y
      · exact absurd (hX4 g o y) (sh.hr.nx g o x)
      · exact m.inm g o (cellsL_append.2 (.inr y))
    · exact m.inm g o (cellsL_append.2 (.inl y))
    · exact hmut1 g o (Ms g o y)
  have hF : Fr (Mut h c) w w' := F.mono fun g o _ x => m.inm g o (cellsL_append.2 (.inl x))
  have hN2 : Nm h c hb c2 := (m.sh.nm.trans Ns).trans sh2.nm
  cases d with
  | none =>
    simp at e; obtain ⟨rfl, rfl⟩ := e
    have sh3 := sh2.hr.less (X' := X) fun g o x => .inl x
    exact ⟨_, c2, rfl, ⟨hF, fun _ _ _ x => x, hmut sh3 (fun _ _ => _root_.id), hN2.trans sh3.nm, sh3.hr⟩, .u⟩
  | some d =>
    simp only [Option.map_eq_some_iff, Prod.exists] at e
    obtain ⟨vs', h4, e4, e5⟩ := e
    simp at e5; obtain ⟨rfl, rfl⟩ := e5
    have r1' := (hres (fun hn => by simp at hn; exact hn.1) r1).less sh2.bad
    obtain ⟨c3, sh3, hl3, rv3⟩ := ldRs_ok (L := A1) (L' := []) sh2.hr (by simp) d12.app.1 (fun g o x => hxL g o (cellsL_append.2 (.inr x))) r1' e4
    rw [Or2_nil] at sh3 rv3
    refine ⟨_, c3, rfl, ⟨hF, fun _ _ _ x => x, hmut sh3 (fun _ _ => _root_.id), hN2.trans sh3.nm, sh3.hr⟩, ?_⟩
    have tup : RV (Bad X h4 c3) w' h4 c3 (.tup vs') (.tuple rvs.toArray) := .tup (by simpa using hl3) fun j x u a b => rv3 j x u a (by simpa using b)
    cases vs' with
    | nil => obtain rfl := List.eq_nil_of_length_eq_zero hl3.symm; exact tup
    | cons v0 vs' =>
      cases rvs with
      | nil => simp at hl3
      | cons u0 rvs =>
        cases vs' with
        | nil =>
          simp at hl3
          obtain rfl := hl3
          exact rv3 0 v0 u0 rfl rfl
        | cons v1 vs' =>
          cases rvs with
          | nil => simp at hl3
          | cons u1 rvs => exact tup
end Go.Ev
