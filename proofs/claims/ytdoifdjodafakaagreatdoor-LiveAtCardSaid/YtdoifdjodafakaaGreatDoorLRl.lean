/- DERIVED HERE. The reference's Last. -/
import Derived.Test.YtdoifdjodafakaaGreatDoorLRf
set_option linter.unusedSimpArgs false
set_option linter.unusedVariables false
namespace Go.Cl
open Go.Proofs
variable {W : World} {G : Nat → CV}
set_option maxRecDepth 8000
section
variable {u : UUnit} {H : Hp} {lp rp ri ci : Nat} {σ : Nat → Nat} {ex : List CV} {p : Nat → Bool} {I : Nat → Nat → Bool}
theorem set_free {n r : Nat} {f : Nat → Bool} : FreeEnd (.ret (.ref r 0 n n)) ∧ FreeHp (Hp.set (fun _ => none) r (.cells (boolC n f))) := by
  refine ⟨.ref _ _ _ _, fun q o hq => ?_⟩
  simp only [Hp.set] at hq
  split at hq
  · injection hq with hq
    subst hq
    intro j y hy
    rw [boolC_gets] at hy
    rw [← hy.2]
    exact .bool _
  · cases hq
theorem behind_h (hX : CxOk (cx W G)) (hu : wfU u = true) (hL : LR H lp rp ri ci σ ex u p I) (b : Nat) (k : UBlk) (hb : u.blocks[b]? = some k) :
    CC Tryz.prog W 34 [.ptr lp 0, .int .i64 b] H fun x H' => ∃ r, H r = none ∧ x = .ret (.ref r 0 u.regs.toNat u.regs.toNat) ∧ H' = H.set r (.cells (boolC u.regs.toNat (behP u p I k))) := by
  refine (CC.freeze2 (args' := [.iptr (refC u p I), .int .i64 b]) (R := fun x H' => ∃ r, x = .ret (.ref r 0 u.regs.toNat u.regs.toNat) ∧ H' = Hp.set (fun _ => none) r (.cells (boolC u.regs.toNat (behP u p I k)))) (by rfl) (fz2' hL.fz _) ?_ ?_).mono ?_
  · rintro x H' ⟨r, rfl, rfl⟩
    exact set_free
  · intro w hw
    exact (behind67_c (W := w) (CxOk.later hX hw) u hu p I b k hb _).mono fun x H' ⟨r, _, h1, h2⟩ => ⟨r, h1, h2⟩
  · rintro x H2 ⟨H', ⟨r, rfl, rfl⟩, hnew, rfl⟩
    have hr := hnew r _ (by simp [Hp.set]; rfl)
    exact ⟨r, hr, rfl, hun_one hr⟩
theorem aside_h (hX : CxOk (cx W G)) (hu : wfU u = true) (hL : LR H lp rp ri ci σ ex u p I) (b t : Nat) (k : UBlk) (hb : u.blocks[b]? = some k) (o : UOp) (ho : k.ops[t]? = some o) :
    CC Tryz.prog W 37 [.ptr lp 0, .int .i64 b, .int .i64 t] H fun x H' => ∃ r, H r = none ∧ x = .ret (.ref r 0 u.regs.toNat u.regs.toNat) ∧ H' = H.set r (.cells (boolC u.regs.toNat (asideP u p I k o))) := by
  refine (CC.freeze2 (args' := [.iptr (refC u p I), .int .i64 b, .int .i64 t]) (R := fun x H' => ∃ r, x = .ret (.ref r 0 u.regs.toNat u.regs.toNat) ∧ H' = Hp.set (fun _ => none) r (.cells (boolC u.regs.toNat (asideP u p I k o)))) (by rfl) (fz3' hL.fz _ _) ?_ ?_).mono ?_
  · rintro x H' ⟨r, rfl, rfl⟩
    exact set_free
  · intro w hw
    exact (aside69_c (W := w) (CxOk.later hX hw) u hu p I b t k hb o ho _).mono fun x H' ⟨r, _, h1, h2⟩ => ⟨r, h1, h2⟩
  · rintro x H2 ⟨H', ⟨r, rfl, rfl⟩, hnew, rfl⟩
    have hr := hnew r _ (by simp [Hp.set]; rfl)
    exact ⟨r, hr, rfl, hun_one hr⟩
end
structure rt0 (B : Hp) (lp q8 b i rr n : Nat) (s' : CA) (H' : Hp) : Prop where
  e1 : s'.env 1 = .int .i64 b
  e2 : s'.env 2 = .int .i64 i
  e7 : s'.env 7 = .ptr lp 0
  e8 : s'.env 8 = .ptr q8 0
  e9 : s'.env 9 = .ref rr 0 n n
  d : s'.ds = []
  h : H' = B
structure rt1 (B : Hp) (lp q8 b i rr n : Nat) (l : List Int) (s' : CA) (H' : Hp) : Prop where
  ex : ∃ v, s'.env 1 = .int .i64 b ∧ s'.env 2 = .int .i64 i ∧ s'.env 7 = .ptr lp 0 ∧ s'.env 8 = .ptr q8 0 ∧ s'.env 9 = .ref rr 0 n n ∧ s'.env 10 = v ∧ s'.ds = [] ∧ Own B H' v 1 (ints l)
structure rt2 (B : Hp) (lp b i rr n : Nat) (l : List Int) (A : Nat → Bool) (s' : CA) (H' : Hp) : Prop where
  ex : ∃ v ra, s'.env 1 = .int .i64 b ∧ s'.env 2 = .int .i64 i ∧ s'.env 7 = .ptr lp 0 ∧ s'.env 9 = .ref rr 0 n n ∧ s'.env 10 = v ∧ s'.env 11 = .ref ra 0 n n ∧ s'.ds = [] ∧ Own B H' v 1 (ints l) ∧ B ra = none ∧ H' ra = some (.cells (boolC n A)) ∧ (∀ m c, v ≠ .ref ra 0 m c)
structure rtL (B : Hp) (n rr : Nat) (l : List Int) (A : Nat → Bool) (d : Nat) (m : Nat) (s' : CA) (H' : Hp) : Prop where
  ex : ∃ j j12 v ra H0, m = l.length - j ∧ j ≤ l.length ∧ s'.env 9 = .ref rr 0 n n ∧ s'.env 10 = v ∧ s'.env 11 = .ref ra 0 n n ∧ s'.env 12 = .int .i64 j12 ∧ j12 + d = j ∧ s'.ds = [] ∧ ra ≠ rr ∧ Own B H0 v 1 (ints l) ∧ H0 ra = some (.cells (boolC n A)) ∧ H' = H0.set rr (.cells (boolC n fun r => (l.take j).any (fun y => r == y.toNat) && !A r))
theorem refLast_c (hX : CxOk (cx W G)) (u : UUnit) (hu : wfU u = true) (b i : Nat) (k : UBlk) (hk : u.blocks[b]? = some k) (hi : i ≤ k.ops.length) (H : Hp) : CC Tryz.prog W 14 [.agg (unitC u), .int .i64 b, .int .i64 i] H fun x H' => RfR u (fun p I => upto (fun r => (rdsOf k i).any (fun y => r == y.toNat) && !afterP u p I k i r) u.regs.toNat) x H' ∧ Le H H' := by
  obtain ⟨f1, f2, f3, f4, f5, f6, f7, f8, f9, f10, f11⟩ := wfU_facts hu
  obtain ⟨g1, g2, g3, g4⟩ := wfB_facts hu hk
  obtain ⟨hrd, hrl⟩ := rds_facts hu hk i
  obtain ⟨hbl, hke⟩ := List.getElem?_eq_some_iff.1 hk
  refine CC.of_cw hX Tryz.func14 rfl rfl (Nat.le_of_ble_eq_true rfl) ?_
  refine CW.walk hX mixed d14 rfl ?_
  simp
  intro q3 hq3
  refine CW.walk hX mixed d14 rfl ?_
  simp [unitC]
  have hc := of38_c hX u hu (H.set q3 (.cells (unitC u)))
  simp only [unitC] at hc
  refine hc.k ?_
  rintro x H1 ⟨lp, rp, ri, cci, σ, ex, p, c, I, rfl, hle, hpl, hll, hbnd, hL⟩
  have m3 := hle q3 _ set_at
  have hle := (Le.set_new hq3).trans hle
  simp
  refine CW.walk hX mixed d14 rfl ?_
  simp [m3, hbl, hke, blkC]
  intro q8 hq8
  generalize hH2 : H1.set q8 _ = H2
  have m8 : H2 q8 = some (.cells (.sl 7 (k.ops.map opC) :: blkT k)) := by rw [← hH2]; simp [blkT]
  have hl2 : Le H1 H2 := by rw [← hH2]; exact Le.set_new hq8
  have hL2 := hL.mono hl2
  have m32 := hl2 _ _ m3
  have hle2 := hle.trans hl2
  clear hH2 hL hle m3 hq8 hl2 hc hq3
  have m8' := m8
  simp only [blkT] at m8'
  refine CW.walk hX mixed d14 rfl ?_
  simp [m32]
  refine ⟨by omega, by omega, by omega, fun rr hrr => ?_⟩
  rw [zeroB]
  obtain ⟨n, hn⟩ : ∃ n, u.regs.toNat = n := ⟨_, rfl⟩
  have hn2' : u.regs.toNat ≤ 5000 := by omega
  generalize hH3 : H2.set rr _ = H3
  have mrr : H3 rr = some (.cells (boolC u.regs.toNat fun _ => false)) := by rw [← hH3]; simp
  have hl3 : Le H2 H3 := by rw [← hH3]; exact Le.set_new hrr
  have hL3 := hL2.mono hl3
  have m83 := hl3 _ _ m8'
  have hle3 := hle2.trans hl3
  have hrrH := hle2.none hrr
  clear hH3 hL2 m32 m8 m8' hl3 hle2 hrr
  refine CW.walk hX mixed d14 rfl ?_
  simp
  refine CW.walk hX mixed d14 rfl ?_
  simp
  obtain ⟨A, hA⟩ : ∃ A, afterP u p I k i = A := ⟨_, rfl⟩
  refine CW.cut (rt2 H3 lp b i rr u.regs.toNat (rdsOf k i) A) ?_ ?_
  · by_cases hil : i < k.ops.length
    rotate_left
    · have hie : i = k.ops.length := by omega
      have hrs : rdsOf k i = if k.en.kind = 1 then [] else [k.en.a] := by simp only [rdsOf]; rw [List.getElem?_eq_none (by omega)]; rfl
      have hat : afterP u p I k i = behP u p I k := by simp only [afterP]; rw [List.getElem?_eq_none (by omega)]
      rw [← hrs.symm] at *
      refine CW.walk hX mixed d14 rfl ?_
      simp [m83, hie]
      refine CW.condE hX (b := true) (by simp) (fun _ => ?_) (fun h => by cases h)
      have hh := endReads65_c hX k.en H3
      simp only [endC] at hh
      refine CW.walk hX mixed d14 rfl ?_
      simp [m83]
      refine hh.k ?_
      rintro x H4 ⟨v, rfl, hown⟩
      simp
      refine CW.walk1 hX mixed d14 rfl ?_
      simp
      refine (behind_h hX hu (hL3.mono hown.le) b k hk).k ?_
      rintro x H5 ⟨ra, hra, rfl, rfl⟩
      simp
      rw [← hie, hrs]
      exact ⟨v, ra, by simp, by simp [hie], by simp, by simp, by simp, by simp, rfl, hown.more hra, hown.le.none hra, by rw [← hA, hat]; exact set_at, hown.ne_fresh hra⟩
    · obtain ⟨o, hoe⟩ : ∃ o, k.ops[i] = o := ⟨_, rfl⟩
      have ho : k.ops[i]? = some o := by rw [List.getElem?_eq_getElem hil, hoe]
      have ok := (wfO_facts (g3 o (List.mem_of_getElem? ho)) f3).1
      have hrs : rdsOf k i = allReads o := by simp only [rdsOf, ho]
      have hat : afterP u p I k i = fun x => beforeP u p I k (k.ops.drop (i + 1)) x || asideP u p I k o x := by simp only [afterP, ho]
      have hw : IntKind.i64.wrap ((i : Int) + 1) = ((i + 1 : Nat) : Int) := by rw [wrapI (by omega) (by omega)]; simp
      refine CW.walk hX mixed d14 rfl ?_
      simp [m83, show ¬ i = k.ops.length by omega]
      refine CW.condE hX (b := false) (by simp; omega) (fun h => by cases h) (fun _ => ?_)
      have hh := reads68_c hX o ok H3
      simp only [opC] at hh
      refine CW.walk hX mixed d14 rfl ?_
      simp [m83, hil, hoe, opC]
      refine hh.k ?_
      rintro x H4 ⟨v, rfl, hown⟩
      simp
      refine CW.walk hX mixed d14 rfl ?_
      simp [hw]
      refine (before_h hX u hu (hL3.mono hown.le) b k hk (i + 1) hil).k ?_
      rintro x H5 ⟨ra, hra, rfl, rfl⟩
      simp
      have hown5 := hown.more (o := .cells (boolC u.regs.toNat (beforeP u p I k (k.ops.drop (i + 1))))) hra
      have hv5 := hown.ne_fresh hra
      have hraB := hown.le.none hra
      have mra : (H4.set ra (.cells (boolC u.regs.toNat (beforeP u p I k (k.ops.drop (i + 1)))))) ra = some (.cells (boolC u.regs.toNat (beforeP u p I k (k.ops.drop (i + 1))))) := set_at
      generalize H4.set ra _ = H5 at hown5 mra ⊢
      refine CW.walk1 hX mixed d14 rfl ?_
      simp
      refine (aside_h hX hu (hL3.mono hown5.le) b i k hk o ho).k ?_
      rintro x H6 ⟨r2, hr2, rfl, rfl⟩
      have h2a : r2 ≠ ra := fun e => by rw [e, mra] at hr2; cases hr2
      simp
      refine (join66_c hX u.regs.toNat ra _ (asideP u p I k o) (-1) (.ref r2 0 u.regs.toNat u.regs.toNat) (by rw [hset_ne (Ne.symm h2a)]; exact mra) (.inr ⟨r2, _, rfl, set_at, h2a⟩) (by omega)).k ?_
      rintro x H7 ⟨rfl, rfl⟩
      simp
      refine ⟨v, ra, by simp, by simp, by simp, by simp, by simp, by simp, rfl, by rw [hrs]; exact (hown5.more hr2).put hraB hv5, hraB, ?_, hv5⟩
      rw [set_at, ← hA, hat]
  rintro ⟨e, ds⟩ H4 ⟨v, ra, e1, e2, e7, e9, e10, e11, rfl, hown, hraB, hra, hv⟩
  dsimp only at e9 e10 e11
  clear e1 e2 e7
  have hrb : rr ≠ ra := fun e => by rw [← e, mrr] at hraB; cases hraB
  have hRf : ∀ v' H', SlF H' v' (upto (fun r => (rdsOf k i).any (fun y => r == y.toNat) && !A r) u.regs.toNat) → RfR u (fun p I => upto (fun r => (rdsOf k i).any (fun y => r == y.toNat) && !afterP u p I k i r) u.regs.toNat) (.ret v') H' := fun v' H' h => ⟨p, c, I, v', hpl, hll, hbnd, rfl, by rw [hA]; exact h⟩
  generalize rdsOf k i = l at *
  have m4 := hown.le _ _ mrr
  refine CW.cut (rtL H3 u.regs.toNat rr l A 0 0) ?_ ?_
  · refine CW.walk hX mixed d14 rfl ?_
    simp
    refine CW.block ?_
    refine CW.loop (rtL H3 u.regs.toNat rr l A 0) ?_ (m := l.length) ⟨0, 0, v, ra, H4, rfl, by omega, by simp [e9], by simp [e10], by simp [e11], by simp, rfl, rfl, Ne.symm hrb, hown, hra, by simpa using (hset_self m4).symm⟩
    clear e9 e10 e11 hown hraB hra hv hrb m4
    clear e v ra H4
    rintro m ⟨e, ds⟩ H4 ⟨j, j12, v, ra, H0, rfl, hj, e9, e10, e11, e12, hj12, rfl, hne, hown, hra, rfl⟩
    obtain rfl : j = j12 := by omega
    dsimp only at e9 e10 e11 e12
    by_cases hjl : j < l.length
    rotate_left
    · have hjj : j = l.length := by omega
      refine CW.walk hX mixed d14 rfl ?_
      rcases hown.vlen with ⟨rfl, hl0⟩ | ⟨q, cq, rfl⟩
      · simp [e10, e12]
        exact ⟨fun h => absurd h (by omega), l.length, l.length, .nilsl, ra, H0, by omega, by omega, by simp [e9], by simp [e10], by simp [e11], by simp [e12, hjj], rfl, rfl, hne, hown, hra, by rw [hjj]⟩
      · simp [e10, e12, hjl]
        exact ⟨l.length, l.length, .ref q 0 l.length cq, ra, H0, by omega, by omega, by simp [e9], by simp [e10], by simp [e11], by simp [e12, hjj], rfl, rfl, hne, hown, hra, by rw [hjj]⟩
    obtain ⟨y0, hy0⟩ : ∃ y, l[j] = y := ⟨_, rfl⟩
    have hyj : l[j]? = some y0 := by rw [List.getElem?_eq_getElem hjl, hy0]
    obtain ⟨q, cq, cs, rfl, hq, hcs, hqn⟩ := own_get hown hyj
    have hqr : q ≠ rr := fun e => by rw [e, mrr] at hqn; cases hqn
    have hyr := hrd y0 (List.mem_of_getElem? hyj)
    obtain ⟨y, rfl⟩ := Int.eq_ofNat_of_zero_le hyr.1
    have hyn : y < u.regs.toNat := by omega
    have htk : l.take (j + 1) = l.take j ++ [(y : Int)] := by rw [List.take_succ_eq_append_getElem hjl, hy0]
    have hgA : (boolC u.regs.toNat A)[y]? = some (.bool (A y)) := boolC_get hyn
    refine CW.walk hX mixed d14 rfl ?_
    simp [e10, e12, hjl]
    refine CW.cut (rtL H3 u.regs.toNat rr l A 1 (l.length - (j + 1))) ?_ ?_
    · refine CW.block ?_
      refine CW.walk1 hX mixed d14 rfl ?_
      simp [d14, e9, e10, e11, e12, hjl, hqr, hne, hq, hcs, hra, hgA, hyn]
      refine ⟨by omega, by omega, by omega, by omega, ?_⟩
      rw [boolC_put _ _ hyn]
      refine ⟨j + 1, j, .ref q 0 l.length cq, ra, H0, rfl, by omega, by simp [e9], by simp [e10], by simp [e11], by simp [e12], rfl, rfl, hne, hown, hra, ?_⟩
      congr 3
      funext r
      rw [htk]
      by_cases hry : r = y
      · subst hry; simp
      · have hry2 : (r == y) = false := by simpa using hry
        simp [hry, hry2]
    · clear e9 e10 e11 e12 hown hq hcs hqn hqr hra hne hgA
      clear e
      rintro ⟨e, ds⟩ H4 ⟨j2, j12, v, ra, H0, hm, hj2, e9, e10, e11, e12, hj12, rfl, hne, hown, hra, rfl⟩
      dsimp only at e9 e10 e11 e12
      obtain rfl : j2 = j + 1 := by omega
      obtain rfl : j = j12 := by omega
      refine CW.walk1 hX mixed d14 rfl ?_
      simp [e12]
      exact ⟨l.length - (j + 1), by omega, j + 1, j + 1, v, ra, H0, rfl, hj2, by simp [e9], by simp [e10], by simp [e11], by simp; rw [wrapI (by omega) (by omega)], rfl, rfl, hne, hown, hra, rfl⟩
  clear e9 e10 e11 hown hraB hra hv hrb m4
  clear e v ra H4
  rintro ⟨e, ds⟩ H4 ⟨j, j12, v, ra, H0, hm, hj, e9, e10, e11, e12, hj12, rfl, hne, hown, hra, rfl⟩
  obtain rfl : j = l.length := by omega
  dsimp only at e9
  rw [List.take_length]
  refine CW.walk1 hX mixed d14 rfl ?_
  simp [e9]
  refine (refList_c hX rr u.regs.toNat _ _ hn2' _ set_at).k ?_
  rintro x H5 ⟨v', rfl, hown'⟩
  simp
  exact ⟨hRf _ _ hown'.slF, ((hle3.trans hown.le).put hrrH).trans hown'.le⟩
end Go.Cl
