/- DERIVED HERE. How many blocks end with EdBranch; how many reached ones with EdJump. -/
import Derived.Test.YtiohgpapgkjfiaaGreatDoorGUc
set_option linter.unusedSimpArgs false
set_option linter.unusedVariables false
namespace Go.Cl.Gu
open Go.Proofs Go.Cl.Gd
variable {W : World} {G : Nat → CV}
set_option maxRecDepth 8000
set_option maxHeartbeats 1000000
def brT (u : UUnit) (i : Nat) : Nat := (u.blocks.take i).countP fun k => decide (k.en.kind = 2)
structure brI (H1 : Hp) (u : UUnit) (q1 : Nat) (d m : Nat) (s' : CA) (H' : Hp) : Prop where
  ex : ∃ i i4 : Nat, m = u.blocks.length - i ∧ i ≤ u.blocks.length ∧ i4 + d = i ∧ s'.env 1 = .ptr q1 0 ∧ s'.env 3 = .int .i64 (brT u i) ∧ s'.env 4 = .int .i64 i4 ∧ s'.ds = [] ∧ H' = H1
structure brX (H1 : Hp) (u : UUnit) (s' : CA) (H' : Hp) : Prop where
  e3 : s'.env 3 = .int .i64 (brN u)
  ds : s'.ds = []
  h : H' = H1
theorem branches_c (hX : CxOk (cx W G)) (u : UUnit) (hb : u.blocks.length ≤ 100000) (H : Hp) : CC Tryz.prog W 32 [.agg (unitC u)] H fun r H' => r = .ret (.int .i64 (brN u)) ∧ H' = H := by
  refine CC.shrink ?_
  refine CC.of_cw hX Tryz.func32 rfl rfl (Nat.le_of_ble_eq_true rfl) ?_
  refine CW.walk hX mixed d32 rfl ?_
  simp
  intro q1 hq1
  have hle1 : Le H (H.set q1 (.cells (unitC u))) := Le.set_new hq1
  have m1 : (H.set q1 (.cells (unitC u))) q1 = some (.cells (unitC u)) := set_at
  generalize H.set q1 _ = H1 at hle1 m1 ⊢
  simp only [unitC] at m1
  refine CW.walk hX mixed d32 rfl ?_
  simp
  refine CW.cut (brX H1 u) ?_ ?_
  rotate_left
  · rintro ⟨e, ds⟩ H2 ⟨e3, hds, rfl⟩
    dsimp only at e3 hds
    subst hds
    refine CW.walk1 hX mixed d32 rfl ?_
    simp [e3]
    exact hle1
  refine CW.walk hX mixed d32 rfl ?_
  simp
  refine CW.block ?_
  refine CW.loop (brI H1 u q1 0) ?_ (m := u.blocks.length) ⟨0, 0, rfl, by omega, rfl, by simp, by simp [brT], by simp, rfl, rfl⟩
  rintro m ⟨e, ds⟩ H2 ⟨i, i4, rfl, hi, hi4, e1, e3, e4, hds, rfl⟩
  dsimp only at e1 e3 e4 hds
  subst hds
  obtain rfl : i4 = i := by omega
  by_cases hil : i4 < u.blocks.length
  rotate_left
  · refine CW.walk hX mixed d32 rfl ?_
    simp [e1, e4, m1, hil]
    obtain rfl : i4 = u.blocks.length := by omega
    exact ⟨by simp [e3, brT, brN], rfl, rfl⟩
  obtain ⟨k, hk⟩ : ∃ k, u.blocks[i4] = k := ⟨_, rfl⟩
  have hsc : brT u (i4 + 1) = brT u i4 + (if k.en.kind = 2 then 1 else 0) := by
    simp only [brT]
    rw [List.take_succ_eq_append_getElem hil, List.countP_append, hk]
    by_cases h : k.en.kind = 2 <;> simp [h]
  have hlt : brT u i4 ≤ u.blocks.length := by
    have := List.countP_le_length (p := fun k : UBlk => decide (k.en.kind = 2)) (l := u.blocks.take i4)
    simp only [List.length_take] at this
    simp only [brT]
    omega
  refine CW.walk hX mixed d32 rfl ?_
  simp [e1, e4, m1, hil]
  refine CW.cut (brI H2 u q1 1 (u.blocks.length - (i4 + 1))) ?_ ?_
  rotate_left
  · clear e1 e3 e4
    rintro ⟨e, ds⟩ H3 ⟨i, i5, hm, hi, hi5, e1, e3, e4, hds, rfl⟩
    dsimp only at e1 e3 e4 hds
    subst hds
    obtain rfl : i = i4 + 1 := by omega
    obtain rfl : i5 = i4 := by omega
    refine CW.walk1 hX mixed d32 rfl ?_
    simp [e4]
    exact ⟨u.blocks.length - (i5 + 1), by omega, i5 + 1, i5 + 1, rfl, by omega, rfl, by simp [e1], by simp [e3], by simp; rw [wrapI (by omega) (by omega)], rfl, rfl⟩
  refine CW.block ?_
  by_cases h2 : k.en.kind = 2
  · refine CW.walk1 hX mixed d32 rfl ?_
    simp [e1, e3, e4, m1, hil, hk, blkC, h2]
    exact ⟨i4 + 1, i4, rfl, by omega, rfl, by simp [e1], by simp [hsc, h2]; rw [wrapI (by omega) (by omega)], by simp [e4], rfl, rfl⟩
  · refine CW.walk1 hX mixed d32 rfl ?_
    simp [e1, e3, e4, m1, hil, hk, blkC, h2]
    exact ⟨i4 + 1, i4, rfl, by omega, rfl, by simp [e1], by simp [e3, hsc, h2], by simp [e4], rfl, rfl⟩
theorem branches_f (hX : CxOk (cx W G)) {u : UUnit} (hb : u.blocks.length ≤ 100000) {H : Hp} {cs : List CV} (hf : Fz H (.agg cs) (.agg (unitC u))) :
    CC Tryz.prog W 32 [.agg cs] H fun r H' => r = .ret (.int .i64 (brN u)) ∧ H' = H := by
  refine (CC.freeze (args' := [.agg (unitC u)]) (R := fun v => v = .int .i64 (brN u)) (by rfl) (fzOne hf) (by rintro v rfl; simp [plainV]) fun w hw => ?_).mono ?_
  · exact (branches_c (W := w) (CxOk.later hX hw) u hb _).mono fun r H' ⟨h1, _⟩ => ⟨_, h1, rfl⟩
  · rintro r H' ⟨v, rfl, rfl, rfl⟩
    exact ⟨rfl, rfl⟩
/-! ### Reached jumps -/
noncomputable def jmN (u : UUnit) : Nat := (ordC u).countP fun b => decide ((blkAt u b).en.kind = 1)
def jmT (u : UUnit) (ord : List Nat) (i : Nat) : Nat := (ord.take i).countP fun b => decide ((blkAt u b).en.kind = 1)
structure jmI (H1 : Hp) (u : UUnit) (ord : List Nat) (v : CV) (q1 : Nat) (d m : Nat) (s' : CA) (H' : Hp) : Prop where
  ex : ∃ i i5 : Nat, m = ord.length - i ∧ i ≤ ord.length ∧ i5 + d = i ∧ s'.env 1 = .ptr q1 0 ∧ s'.env 3 = v ∧ s'.env 4 = .int .i64 (jmT u ord i) ∧ s'.env 5 = .int .i64 i5 ∧ s'.ds = [] ∧ H' = H1
structure jmX (H1 : Hp) (n : Nat) (s' : CA) (H' : Hp) : Prop where
  e4 : s'.env 4 = .int .i64 n
  ds : s'.ds = []
  h : H' = H1
theorem jumpsN_c (hX : CxOk (cx W G)) (u : UUnit) (hw : wfU u = true) (H : Hp) : CC Tryz.prog W 34 [.agg (unitC u)] H fun r H' => r = .ret (.int .i64 (jmN u)) ∧ H' = H := by
  obtain ⟨f1, f2, f3, f4, f5, f6, f7, f8, f9, f10, f11⟩ := wfU_facts hw
  obtain ⟨p, c, hp⟩ := pleast_ex (opsOf u)
  obtain ⟨hnd, hlt, hmm⟩ := ordC_r (by omega) hp
  have hol : (ordC u).length ≤ 2000 := by
    have := nodup_sub (l := ordC u) (m := List.range u.blocks.length) hnd fun b hb => List.mem_range.2 (hlt b hb)
    simp at this
    omega
  refine CC.shrink ?_
  refine CC.of_cw hX Tryz.func34 rfl rfl (Nat.le_of_ble_eq_true rfl) ?_
  refine CW.walk hX mixed d34 rfl ?_
  simp
  intro q1 hq1
  have hle1 : Le H (H.set q1 (.cells (unitC u))) := Le.set_new hq1
  have m1 : (H.set q1 (.cells (unitC u))) q1 = some (.cells (unitC u)) := set_at
  generalize H.set q1 _ = H1 at hle1 m1 ⊢
  have hro := refOrder_c hX u hw H1
  simp only [unitC] at m1 hro
  refine CW.walk hX mixed d34 rfl ?_
  simp [m1]
  refine hro.k ?_
  rintro r H2 ⟨v, p', c', rfl, hp', hle2, hv⟩
  rw [ordC_eq hp'] at hv
  have m1 := hle2 _ _ m1
  have hle := hle1.trans hle2
  simp
  refine CW.walk hX mixed d34 rfl ?_
  simp
  have hno : ∃ n, jmN u = n := ⟨_, rfl⟩
  have hjm : jmN u = jmT u (ordC u) (ordC u).length := by simp [jmN, jmT]
  rw [hjm]
  clear hjm hno hle1 hle2 hro
  generalize ordC u = ord at hv hnd hlt hol
  refine CW.cut (jmX H2 (jmT u ord ord.length)) ?_ ?_
  rotate_left
  · rintro ⟨e, ds⟩ H3 ⟨e4, hds, rfl⟩
    dsimp only at e4 hds
    subst hds
    refine CW.walk1 hX mixed d34 rfl ?_
    simp [e4]
    exact hle
  refine CW.walk hX mixed d34 rfl ?_
  simp
  refine CW.block ?_
  refine CW.loop (jmI H2 u ord v q1 0) ?_ (m := ord.length) ⟨0, 0, rfl, by omega, rfl, by simp, by simp, by simp [jmT], by simp, rfl, rfl⟩
  rintro m ⟨e, ds⟩ H3 ⟨i, i5, rfl, hi, hi5, e1, e3, e4, e5, hds, rfl⟩
  dsimp only at e1 e3 e4 e5 hds
  subst hds
  obtain rfl : i5 = i := by omega
  have hnl : (natL ord).length = ord.length := by simp [natL]
  rcases hv with ⟨rfl, h0⟩ | ⟨r, cc, cs, rfl, hr, hcs⟩
  · have h0 : ord.length = 0 := by rw [← hnl, h0]; rfl
    obtain rfl : ord = [] := List.length_eq_zero_iff.1 h0
    obtain rfl : i5 = 0 := by simpa using hi
    refine CW.walk hX mixed d34 rfl ?_
    simp [e3, e5]
    exact ⟨by simp [e4], rfl, rfl⟩
  rw [hnl] at e3
  by_cases hil : i5 < ord.length
  rotate_left
  · refine CW.walk hX mixed d34 rfl ?_
    simp [e3, e5, hil]
    obtain rfl : i5 = ord.length := by omega
    exact ⟨by simp [e4], rfl, rfl⟩
  obtain ⟨b, hb⟩ : ∃ b, ord[i5] = b := ⟨_, rfl⟩
  have hbm : b ∈ ord := by rw [← hb]; exact List.getElem_mem hil
  have hbl := hlt b hbm
  have hcell := hcs i5 b (by simp [natL, List.getElem?_eq_getElem hil, hb])
  have hkb := blkAt_get hbl
  have hkk : ∀ h, u.blocks[b]'h = blkAt u b := fun h => by
    rw [List.getElem?_eq_getElem h] at hkb; injection hkb
  have hsc : jmT u ord (i5 + 1) = jmT u ord i5 + (if (blkAt u b).en.kind = 1 then 1 else 0) := by
    simp only [jmT]
    rw [List.take_succ_eq_append_getElem hil, List.countP_append, hb]
    by_cases h : (blkAt u b).en.kind = 1 <;> simp [h]
  have hjt : jmT u ord i5 ≤ ord.length := by
    have := List.countP_le_length (p := fun b : Nat => decide ((blkAt u b).en.kind = 1)) (l := ord.take i5)
    simp only [List.length_take] at this
    simp only [jmT]
    omega
  refine CW.walk hX mixed d34 rfl ?_
  simp [e3, e5, hil]
  refine CW.cut (jmI H3 u ord (.ref r 0 ord.length (ord.length + cc)) q1 1 (ord.length - (i5 + 1))) ?_ ?_
  rotate_left
  · clear e1 e3 e4 e5
    rintro ⟨e, ds⟩ H4 ⟨i, i6, hm, hi, hi6, e1, e3, e4, e5, hds, rfl⟩
    dsimp only at e1 e3 e4 e5 hds
    subst hds
    obtain rfl : i = i5 + 1 := by omega
    obtain rfl : i6 = i5 := by omega
    refine CW.walk1 hX mixed d34 rfl ?_
    simp [e5]
    exact ⟨ord.length - (i6 + 1), by omega, i6 + 1, i6 + 1, rfl, by omega, rfl, by simp [e1], by simp [e3, hnl], by simp [e4], by simp; rw [wrapI (by omega) (by omega)], rfl, rfl⟩
  refine CW.block ?_
  by_cases h1 : (blkAt u b).en.kind = 1
  · refine CW.walk1 hX mixed d34 rfl ?_
    simp [d34, e1, e3, e4, e5, m1, hr, hcell, hil, hbl, hkk, blkC, h1]
    exact ⟨i5 + 1, i5, rfl, by omega, rfl, by simp [e1], by simp [e3], by simp [hsc, h1]; rw [wrapI (by omega) (by omega)], by simp [e5], rfl, rfl⟩
  · refine CW.walk1 hX mixed d34 rfl ?_
    simp [d34, e1, e3, e4, e5, m1, hr, hcell, hil, hbl, hkk, blkC, h1]
    exact ⟨i5 + 1, i5, rfl, by omega, rfl, by simp [e1], by simp [e3], by simp [e4, hsc, h1], by simp [e5], rfl, rfl⟩
theorem jumpsN_f (hX : CxOk (cx W G)) {u : UUnit} (hw : wfU u = true) {H : Hp} {cs : List CV} (hf : Fz H (.agg cs) (.agg (unitC u))) :
    CC Tryz.prog W 34 [.agg cs] H fun r H' => r = .ret (.int .i64 (jmN u)) ∧ H' = H := by
  refine (CC.freeze (args' := [.agg (unitC u)]) (R := fun v => v = .int .i64 (jmN u)) (by rfl) (fzOne hf) (by rintro v rfl; simp [plainV]) fun w hw' => ?_).mono ?_
  · exact (jumpsN_c (W := w) (CxOk.later hX hw') u hw _).mono fun r H' ⟨h1, _⟩ => ⟨_, h1, rfl⟩
  · rintro r H' ⟨v, rfl, rfl, rfl⟩
    exact ⟨rfl, rfl⟩
/-- Joined, one reached jump less. -/
theorem join_jm {u : UUnit} (hu : wfU u = true) {x t : Nat} (h : JnF u x t) : jmN (joinP u x) + 1 = jmN u := by
  obtain ⟨p, c, hp⟩ := pleast_ex (opsOf u)
  obtain ⟨f1, f2, f3, f4, f5, f6, f7, f8, f9, f10, f11⟩ := wfU_facts hu
  obtain ⟨hn, hlt, hm⟩ := ordC_r (by omega) hp
  obtain ⟨hp', hr⟩ := join_reach hu hp h
  obtain ⟨hn', _, _⟩ := ordC_r (u := joinP u x) (by simp [joinP]; omega) hp'
  have hto : t ∈ ordC u := (hm _).2 (.step ((hm x).1 h.xo) ((mem_next h.lx).2 ⟨h.lt, h.way p⟩))
  have hxe : x ∈ (ordC u).erase t := (hn.mem_erase_iff).2 ⟨Ne.symm h.tx, h.xo⟩
  have hne : ((ordC u).erase t).Nodup := hn.erase t
  have p1 : (ordC (joinP u x)).Perm ((ordC u).erase t) := (List.perm_ext_iff_of_nodup hn' hne).2 fun b => by
    rw [hr b, hn.mem_erase_iff, and_comm]
  have p2 := List.perm_cons_erase hto
  have p3 := List.perm_cons_erase hxe
  have hxr : x ∉ ((ordC u).erase t).erase x := fun hx => ((hne.mem_erase_iff).1 hx).1 rfl
  have htt : (blkAt u x).en.to.toNat = t := by rw [h.to]; rfl
  have e1 : jmN (joinP u x) = ((ordC u).erase t).countP fun b => decide ((blkAt (joinP u x) b).en.kind = 1) := by
    rw [jmN, p1.countP_eq]
  have e2 : (((ordC u).erase t).erase x).countP (fun b => decide ((blkAt (joinP u x) b).en.kind = 1)) = (((ordC u).erase t).erase x).countP fun b => decide ((blkAt u b).en.kind = 1) := by
    refine List.countP_congr fun b hb => ?_
    have hbx : b ≠ x := fun e => hxr (by have h := hb; rw [e] at h; exact h)
    rw [joinP_blk h.lx, if_neg hbx]
  have e3 : (blkAt (joinP u x) x).en = (blkAt u t).en := by rw [joinP_blk h.lx, if_pos rfl, htt]
  rw [e1, p3.countP_eq, List.countP_cons, e2, e3, jmN, p2.countP_eq, List.countP_cons, p3.countP_eq, List.countP_cons]
  have hk := h.k
  simp only [hk]
  simp
  omega
end Go.Cl.Gu
