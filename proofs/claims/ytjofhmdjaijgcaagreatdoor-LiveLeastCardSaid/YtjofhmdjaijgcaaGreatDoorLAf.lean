/- DERIVED HERE. What is live after an operation, or an End: the program's after. -/
import Derived.Test.YtjofhmdjaijgcaaGreatDoorNM
import Derived.Test.YtjofhmdjaijgcaaGreatDoorRB
set_option linter.unusedSimpArgs false
set_option linter.unusedVariables false
namespace Go.Cl
open Go.Proofs
variable {W : World} {G : Nat → CV}
set_option maxRecDepth 8000
/-- What is live after an operation, or an End, wherever it goes. -/
def afterP (u : UUnit) (p : Nat → Bool) (I : Nat → Nat → Bool) (k : UBlk) (i : Nat) : Nat → Bool := match k.ops[i]? with
  | some o => fun x => beforeP u p I k (k.ops.drop (i + 1)) x || asideP u p I k o x
  | none => behP u p I k
structure afM (L : CV) (b i r q m : Nat) (bl : List CV) (B : Hp) (f : Nat → Bool) (s' : CA) (H' : Hp) : Prop where
  e0 : s'.env 0 = L
  e1 : s'.env 1 = .int .i64 b
  e2 : s'.env 2 = .int .i64 i
  e7 : s'.env 7 = .ptr q 0
  e8 : s'.env 8 = .ref r 0 m m
  d : s'.ds = []
  hr : H' r = some (.cells (setC m f))
  hq : H' q = some (.cells bl)
  le : Le (B.set r (.cells (setC m f))) H'
structure afE (L : CV) (b i r q m q9 : Nat) (bl en : List CV) (B : Hp) (f : Nat → Bool) (s' : CA) (H' : Hp) : Prop where
  m : afM L b i r q m bl B f s' H'
  e9 : s'.env 9 = .ptr q9 0
  n : H' q9 = some (.cells en)
structure afO (L : CV) (b i r q m q10 : Nat) (bl op : List CV) (B : Hp) (f : Nat → Bool) (s' : CA) (H' : Hp) : Prop where
  m : afM L b i r q m bl B f s' H'
  e10 : s'.env 10 = .ptr q10 0
  n : H' q10 = some (.cells op)
set_option maxHeartbeats 2000000 in
theorem after_c (hX : CxOk (cx W G)) (hG : G 0 = .iptr formsC) (u : UUnit) (hu : wfU u = true) (p : Nat → Bool) (cn : Nat) (c : Nat → Bool) (I : Nat → Nat → Bool) (b : Nat) (k : UBlk) (hb : u.blocks[b]? = some k) (i : Nat) (hi : i ≤ k.ops.length) (H : Hp) :
    CC Tryz.prog W 47 [.iptr (liveC u u.regs.toNat p cn c I), .int .i64 b, .int .i64 i] H fun x H' => ∃ r, H r = none ∧ x = .ret (.ref r 0 (mOf u) (mOf u)) ∧ H' = H.set r (.cells (setC (mOf u) (afterP u p I k i))) := by
  obtain ⟨f1, f2, f3, f4, f5, f6, f7, f8, f9, f10, f11⟩ := wfU_facts hu
  obtain ⟨g1, g2, g3, g4⟩ := wfB_facts hu hb
  have hm : mOf u = (u.regs.toNat + 63) / 64 := rfl
  obtain ⟨n, hn⟩ := Int.eq_ofNat_of_zero_le (show 0 ≤ u.regs by omega)
  refine CC.shrink ?_
  refine CC.of_cw hX Tryz.func47 rfl rfl (Nat.le_of_ble_eq_true rfl) ?_
  refine CW.walk hX mixed d47 rfl ?_
  simp
  refine CW.walk hX mixed d47 rfl ?_
  simp [liveC, unitC, mayC, hn, hb, blkC]
  intro q hq
  refine CW.walk hX mixed d47 rfl ?_
  simp
  refine (newSet_c hX n (by omega) _).k ?_
  rintro x H1 ⟨r, hr, rfl, rfl⟩
  have hqr : q ≠ r := fun e => by subst e; simp at hr
  have hrq : r ≠ q := Ne.symm hqr
  have hr0 : H r = none := by simpa [hrq] using hr
  rw [show (n + 63) / 64 = mOf u by omega]
  generalize hH2 : (H.set q _).set r _ = H2
  have m7 : H2 q = some (.cells (.sl 7 (k.ops.map opC) :: blkT k)) := by rw [← hH2]; simp [hqr, blkT]
  have m8 : H2 r = some (.cells (setC (mOf u) fun _ => false)) := by rw [← hH2]; simp
  have hle : Le (H.set r (.cells (setC (mOf u) fun _ => false))) H2 := by rw [← hH2]; exact Le.set (Le.set_new hq)
  clear hH2 hr
  have m7' := m7
  simp only [blkT] at m7'
  simp
  have fin : ∀ f H', Le (H.set r (.cells (setC (mOf u) f))) H' → f = afterP u p I k i → ∃ H2, Le H2 H' ∧ ∃ r', H r' = none ∧ CE.ret (.ref r 0 (mOf u) (mOf u)) = .ret (.ref r' 0 (mOf u) (mOf u)) ∧ H2 = H.set r' (.cells (setC (mOf u) (afterP u p I k i))) := fun f H' h e => ⟨_, h, r, hr0, rfl, by rw [e]⟩
  by_cases hil : i < k.ops.length
  rotate_left
  · have hie : i = k.ops.length := by omega
    have hat : afterP u p I k i = behP u p I k := by simp only [afterP]; rw [List.getElem?_eq_none (by omega)]
    obtain ⟨w1, w2, w3, w4, w5⟩ := wfE_facts g4
    have hgo : goes k.en = true ↔ k.en.kind = 1 ∨ k.en.kind = 2 := by simp [goes]
    refine CW.cut (fun _ _ => False) ?_ (fun _ _ h => h.elim)
    refine CW.walk hX mixed d47 rfl ?_
    simp [m7', hie]
    refine CW.condE hX (b := true) (by simp) (fun _ => ?_) (fun h => by cases h)
    refine CW.walk hX mixed d47 rfl ?_
    simp [m7']
    intro q9 hq9
    have k9q : q9 ≠ q := fun e => by rw [e, m7] at hq9; cases hq9
    have k9r : q9 ≠ r := fun e => by rw [e, m8] at hq9; cases hq9
    have kq9 := Ne.symm k9q
    have kr9 := Ne.symm k9r
    generalize hH3 : H2.set q9 _ = H3
    have m9 : H3 q9 = some (.cells (endC k.en)) := by rw [← hH3]; simp [endC]
    have m73 : H3 q = some (.cells (.sl 7 (k.ops.map opC) :: blkT k)) := by rw [← hH3]; simp [kq9, m7]
    have m83 : H3 r = some (.cells (setC (mOf u) fun _ => false)) := by rw [← hH3]; simp [kr9, m8]
    have hle3 : Le (H.set r (.cells (setC (mOf u) fun _ => false))) H3 := by rw [← hH3]; exact hle.trans (Le.set_new hq9)
    have h9r : (H.set r (.cells (setC (mOf u) fun _ => false))) q9 = none := hle.none hq9
    clear hH3
    have m9' := m9
    simp only [endC] at m9'
    have step : ∀ {f : Nat → Bool} {f' : Nat → Bool} {H' : Hp}, Le (H.set r (.cells (setC (mOf u) f))) H' → Le (H.set r (.cells (setC (mOf u) f'))) (H'.set r (.cells (setC (mOf u) f'))) := fun h => set_le h
    refine CW.cut (afE (.iptr (liveC u n p cn c I)) b i r q (mOf u) q9 (.sl 7 (k.ops.map opC) :: blkT k) (endC k.en) H fun x => goes k.en && I k.en.to.toNat x) ?_ ?_
    · refine CW.walk1 hX mixed d47 rfl ?_
      simp [d47, m9', m83, mayC]
      refine ⟨fun h1 => ?_, fun h1 => ⟨fun h2 => ?_, fun h2 => ?_⟩⟩
      · refine ⟨(w4 (.inl h1)).1, by have := w4 (.inl h1); omega, (join_sl hX r _ _ (fun _ => false) (I k.en.to.toNat) f10 _ m83).k ?_⟩
        rintro x H4 ⟨rfl, rfl⟩
        simp
        exact ⟨⟨by simp [liveC, unitC, mayC, hn], by simp, by simp [hie], by simp, by simp, rfl, by simp [hgo.2 (.inl h1)], by simp [hqr, m73], by simpa [hgo.2 (.inl h1)] using step hle3⟩, by simp, by simp [k9r, m9]⟩
      · refine ⟨(w4 (.inr h2)).1, by have := w4 (.inr h2); omega, (join_sl hX r _ _ (fun _ => false) (I k.en.to.toNat) f10 _ m83).k ?_⟩
        rintro x H4 ⟨rfl, rfl⟩
        simp
        exact ⟨⟨by simp [liveC, unitC, mayC, hn], by simp, by simp [hie], by simp, by simp, rfl, by simp [hgo.2 (.inr h2)], by simp [hqr, m73], by simpa [hgo.2 (.inr h2)] using step hle3⟩, by simp, by simp [k9r, m9]⟩
      · have hno : goes k.en = false := by simp [goes, h1, h2]
        exact ⟨⟨by simp [liveC, unitC, mayC, hn], by simp, by simp [hie], by simp, by simp, rfl, by simp [hno, m83], by simp [m73], by simpa [hno] using hle3⟩, by simp, m9⟩
    clear m9 m9' m73 m83 hle3 h9r hq9 H3
    rintro ⟨e, ds⟩ H3 ⟨⟨e0, e1, e2, e7, e8, rfl, m83, m73, hle3⟩, e9, m9⟩
    dsimp only at e0 e1 e2 e7 e8 e9
    have m9' := m9
    simp only [endC] at m9'
    refine CW.cut (afE (.iptr (liveC u n p cn c I)) b i r q (mOf u) q9 (.sl 7 (k.ops.map opC) :: blkT k) (endC k.en) H fun x => (goes k.en && I k.en.to.toNat x) || (branches k.en && I k.en.els.toNat x)) ?_ ?_
    · refine CW.walk1 hX mixed d47 rfl ?_
      simp [d47, e0, e8, e9, m9', m83, liveC, unitC, mayC, hn]
      refine ⟨fun h1 => ?_, fun h1 => ?_⟩
      · refine ⟨(w5 h1).1, by have := w5 h1; omega, (join_sl hX r _ _ _ (I k.en.els.toNat) f10 _ m83).k ?_⟩
        rintro x H4 ⟨rfl, rfl⟩
        simp
        exact ⟨⟨by simp [liveC, unitC, mayC, hn, e0], by simp [e1], by simp [e2], by simp [e7], by simp [e8], rfl, by simp [branches, h1], by simp [hqr, m73], by simpa [branches, h1] using step hle3⟩, by simp [e9], by simp [k9r, m9]⟩
      · have hno : branches k.en = false := by simp [branches, h1]
        exact ⟨⟨by simp [liveC, unitC, mayC, hn, e0], by simp [e1], by simp [e2], by simp [e7], by simp [e8], rfl, by simp [hno, m83], by simp [m73], by simpa [hno] using hle3⟩, by simp [e9], m9⟩
    clear e0 e1 e2 e7 e8 e9 m9 m9' m73 m83 hle3
    clear e H3
    rintro ⟨e, ds⟩ H3 ⟨⟨e0, e1, e2, e7, e8, rfl, m83, m73, hle3⟩, e9, m9⟩
    dsimp only at e0 e1 e2 e7 e8 e9
    have m9' := m9
    simp only [endC] at m9'
    refine CW.cut (afM (.iptr (liveC u n p cn c I)) b i r q (mOf u) (.sl 7 (k.ops.map opC) :: blkT k) H fun x => (goes k.en && I k.en.to.toNat x) || (branches k.en && I k.en.els.toNat x) || (mayEnd p k.en && catchP u I k x)) ?_ ?_
    · refine CW.walk1 hX mixed d47 rfl ?_
      simp [d47, e0, e1, e8, e9, m9', liveC, unitC, mayC, hn]
      refine (endTrap_c hX k.en n (.sl 1 (boolS cn c)) ⟨rfl, rfl⟩ p H3 fun h => by have := w3 h; omega).k ?_
      rintro x H4 ⟨rfl, rfl⟩
      simp [e0, e1, e8]
      refine ⟨fun h1 => ?_, fun h1 => ?_⟩
      · refine (caught_c hX u hu n p cn c I b k hb r (mOf u) _ H4 m83).k ?_
        rintro x H5 ⟨rfl, rfl⟩
        simp
        exact ⟨by simp [liveC, unitC, mayC, hn, e0], by simp [e1], by simp [e2], by simp [e7], by simp [e8], rfl, by simp [h1], by simp [hqr, m73], by simpa [h1] using step hle3⟩
      · exact ⟨by simp [liveC, unitC, mayC, hn, e0], by simp [e1], by simp [e2], by simp [e7], by simp [e8], rfl, by simp [h1, m83], by simp [m73], by simpa [h1] using hle3⟩
    clear e0 e1 e2 e7 e8 e9 m9 m9' m73 m83 hle3
    clear e H3
    rintro ⟨e, ds⟩ H3 ⟨e0, e1, e2, e7, e8, rfl, m83, m73, hle3⟩
    dsimp only at e0 e1 e2 e7 e8
    refine CW.walk1 hX mixed d47 rfl ?_
    simp [e8]
    exact ⟨_, hle3, r, hr0, rfl, by rw [hat]; rfl⟩
  obtain ⟨o, hoe⟩ : ∃ o, k.ops[i] = o := ⟨_, rfl⟩
  have ho : k.ops[i]? = some o := by rw [List.getElem?_eq_getElem hil, hoe]
  have hat : afterP u p I k i = fun x => beforeP u p I k (k.ops.drop (i + 1)) x || asideP u p I k o x := by simp only [afterP, ho]
  have hwo := g3 o (List.mem_of_getElem? ho)
  obtain ⟨o1, o2, o3, o4, o5, o6, o7, o8, o9⟩ := wfO_facts hwo f3
  refine CW.cut (afM (.iptr (liveC u n p cn c I)) b i r q (mOf u) (.sl 7 (k.ops.map opC) :: blkT k) H fun _ => false) ?_ ?_
  · refine CW.walk hX mixed d47 rfl ?_
    simp [m7', show ¬ i = k.ops.length by omega]
    refine CW.condE hX (b := false) (by simp; omega) (fun h => by cases h) (fun _ => ?_)
    refine CW.walk1 hX mixed d47 rfl ?_
    simp
    exact ⟨by simp [liveC, unitC, mayC, hn], by simp, by simp, by simp, by simp, rfl, m8, m7, hle⟩
  clear m7 m7' m8 hle H2
  rintro ⟨e, ds⟩ H2 ⟨e0, e1, e2, e7, e8, rfl, m8, m7, hle⟩
  dsimp only at e0 e1 e2 e7 e8
  have step : ∀ {f : Nat → Bool} {f' : Nat → Bool} {H' : Hp}, Le (H.set r (.cells (setC (mOf u) f))) H' → Le (H.set r (.cells (setC (mOf u) f'))) (H'.set r (.cells (setC (mOf u) f'))) := fun h => set_le h
  refine CW.cut (afM (.iptr (liveC u n p cn c I)) b i r q (mOf u) (.sl 7 (k.ops.map opC) :: blkT k) H (beforeP u p I k (k.ops.drop (i + 1)))) ?_ ?_
  · refine CW.walk1 hX mixed d47 rfl ?_
    have hw : IntKind.i64.wrap ((i : Int) + 1) = ((i + 1 : Nat) : Int) := by rw [wrapI (by omega) (by omega)]; simp
    have hc := at_c hX hG u hu p cn c I b k hb (i + 1) hil H2
    rw [show u.regs.toNat = n by omega] at hc
    simp [e0, e1, e2, e8, hw]
    refine hc.k ?_
    rintro x H3 ⟨r2, hr2, rfl, rfl⟩
    have h2r : r2 ≠ r := fun e => by rw [e, m8] at hr2; cases hr2
    have h2q : r2 ≠ q := fun e => by rw [e, m7] at hr2; cases hr2
    simp [e8]
    refine (join_c hX r _ r2 _ (mOf u) (fun _ => false) _ f10 _ h2r (by simp [Ne.symm h2r, m8]) set_at).k ?_
    rintro x H4 ⟨rfl, rfl⟩
    simp
    exact ⟨by simp [e0], by simp [e1], by simp [e2], by simp [e7], by simp [e8], rfl, by simp, by simp [hqr, Ne.symm h2q, m7], by simpa using step (hle.trans (Le.set_new hr2))⟩
  clear e0 e1 e2 e7 e8 m7 m8 hle
  clear e H2
  rintro ⟨e, ds⟩ H2 ⟨e0, e1, e2, e7, e8, rfl, m8, m7, hle⟩
  dsimp only at e0 e1 e2 e7 e8
  generalize hBB : beforeP u p I k (k.ops.drop (i + 1)) = BB at m8 hle hat
  refine CW.cut (afM (.iptr (liveC u n p cn c I)) b i r q (mOf u) (.sl 7 (k.ops.map opC) :: blkT k) H fun x => BB x || (decide (o.kind = 21) && I o.n.toNat x)) ?_ ?_
  · have m7' := m7
    simp only [blkT] at m7'
    refine CW.walk hX mixed d47 rfl ?_
    simp [e2, e7, m7', hil, hoe, opC]
    intro q10 hq10
    have k9q : q10 ≠ q := fun e => by rw [e, m7] at hq10; cases hq10
    have k9r : q10 ≠ r := fun e => by rw [e, m8] at hq10; cases hq10
    refine CW.walk1 hX mixed d47 rfl ?_
    simp [d47, e0, e8, liveC, unitC, mayC, hn]
    refine ⟨fun h1 => ?_, fun h1 => ?_⟩
    · have hn21 := o6 h1
      refine ⟨by omega, by omega, (join_sl hX r _ _ BB (I o.n.toNat) f10 _ (by simp [Ne.symm k9r, m8])).k ?_⟩
      rintro x H4 ⟨rfl, rfl⟩
      simp
      exact ⟨by simp [liveC, unitC, mayC, hn, e0], by simp [e1], by simp [e2], by simp [e7], by simp [e8], rfl, by simp [h1], by simp [hqr, Ne.symm k9q, m7], by simpa [h1] using step (hle.trans (Le.set_new hq10))⟩
    · exact ⟨by simp [liveC, unitC, mayC, hn, e0], by simp [e1], by simp [e2], by simp [e7], by simp [e8], rfl, by simp [h1, Ne.symm k9r, m8], by simp [Ne.symm k9q, m7], by simpa [h1] using hle.trans (Le.set_new hq10)⟩
  clear e0 e1 e2 e7 e8 m7 m8 hle
  clear e H2
  rintro ⟨e, ds⟩ H2 ⟨e0, e1, e2, e7, e8, rfl, m8, m7, hle⟩
  dsimp only at e0 e1 e2 e7 e8
  refine CW.cut (afM (.iptr (liveC u n p cn c I)) b i r q (mOf u) (.sl 7 (k.ops.map opC) :: blkT k) H fun x => BB x || (decide (o.kind = 21) && I o.n.toNat x) || (mayTrap p o && catchP u I k x)) ?_ ?_
  · have m7' := m7
    simp only [blkT] at m7'
    refine CW.walk1 hX mixed d47 rfl ?_
    have htr := trap_c hX o n (.sl 1 (boolS cn c)) ⟨rfl, rfl⟩ p H2 (fun h => by have := o5 h; omega) (fun h => by have := o8 h; omega)
    simp only [opC] at htr
    simp [d47, e0, e1, e2, e7, e8, m7', hil, hoe, liveC, unitC, mayC, hn, opC]
    refine htr.k ?_
    rintro x H4 ⟨rfl, rfl⟩
    simp [e0, e1, e8]
    refine ⟨fun h1 => ?_, fun h1 => ?_⟩
    · refine (caught_c hX u hu n p cn c I b k hb r (mOf u) _ H4 m8).k ?_
      rintro x H5 ⟨rfl, rfl⟩
      simp
      exact ⟨by simp [liveC, unitC, mayC, hn, e0], by simp [e1], by simp [e2], by simp [e7], by simp [e8], rfl, by simp [h1], by simp [hqr, m7], by simpa [h1] using step hle⟩
    · exact ⟨by simp [liveC, unitC, mayC, hn, e0], by simp [e1], by simp [e2], by simp [e7], by simp [e8], rfl, by simp [h1, m8], by simp [m7], by simpa [h1] using hle⟩
  clear e0 e1 e2 e7 e8 m7 m8 hle
  clear e H2
  rintro ⟨e, ds⟩ H2 ⟨e0, e1, e2, e7, e8, rfl, m8, m7, hle⟩
  dsimp only at e0 e1 e2 e7 e8
  refine CW.walk1 hX mixed d47 rfl ?_
  simp [e8]
  exact ⟨_, hle, r, hr0, rfl, by rw [hat]; congr 3; funext x; simp [asideP, Bool.or_assoc]⟩
end Go.Cl
