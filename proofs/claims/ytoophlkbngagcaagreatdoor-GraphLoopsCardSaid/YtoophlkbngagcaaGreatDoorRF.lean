/- DERIVED HERE. The reference's Find and Check. -/
import Derived.Test.YtoophlkbngagcaaGreatDoorRB
import Derived.Test.YtoophlkbngagcaaGreatDoorTAq
set_option linter.unusedSimpArgs false
set_option linter.unusedVariables false
namespace Go.Cl
open Go.Proofs Dd
variable {W : World} {G : Nat → CV}
set_option maxRecDepth 8000
set_option maxHeartbeats 4000000
theorem errU_blk {u : UUnit} {k : UBlk} {i : Nat} (hB : Bef u i) (hk : u.blocks[i]? = some k) {e : Int} (he : e ≠ 0) (h : errBlk u k = e) : errU u = e := by
  have hn : errBlk u k ≠ 0 := by rw [h]; exact he
  have h0 := errBlks_at hk hB.a hn
  simp only [errU, hB.h1, hB.h2, hB.h3, h0, h]
  simp [he]
structure fdS (H1 : Hp) (u : UUnit) (r1 d : Nat) (j : Nat) (s' : CA) (H' : Hp) : Prop where
  ex : ∃ i i5 : Nat, i ≤ u.sizes.length ∧ j = u.sizes.length - i ∧ s'.env 1 = .ptr r1 0 ∧ s'.env 5 = .int .i64 i5 ∧ i5 + d = i ∧ s'.ds = [] ∧ H' = H1 ∧ ∀ (k : Nat) n, k < i → u.sizes[k]? = some n → 1 ≤ n ∧ n ≤ 65536
structure fdB (H1 : Hp) (u : UUnit) (r1 d : Nat) (j : Nat) (s' : CA) (H' : Hp) : Prop where
  ex : ∃ i i7 : Nat, i ≤ u.blocks.length ∧ j = u.blocks.length - i ∧ s'.env 1 = .ptr r1 0 ∧ s'.env 6 = .int .i64 (off u i) ∧ s'.env 7 = .int .i64 i7 ∧ i7 + d = i ∧ s'.ds = [] ∧ Le H1 H' ∧ ∀ (j : Nat) k, j < i → u.blocks[j]? = some k → wfBlk u k = true
structure fdK (H2 : Hp) (u : UUnit) (k : UBlk) (i r1 r8 d : Nat) (j : Nat) (s' : CA) (H' : Hp) : Prop where
  ex : ∃ t t9 : Nat, t ≤ k.ops.length ∧ j = k.ops.length - t ∧ s'.env 1 = .ptr r1 0 ∧ s'.env 6 = .int .i64 (off u (i + 1)) ∧ s'.env 7 = .int .i64 i ∧ s'.env 8 = .ptr r8 0 ∧ s'.env 9 = .int .i64 t9 ∧ t9 + d = t ∧ s'.ds = [] ∧ H' = H2 ∧ ∀ (j : Nat) o, j < t → k.ops[j]? = some o → wfOp u o = true
structure fdE (H2 : Hp) (i r1 r8 : Nat) (u : UUnit) (c : Nat) (s' : CA) (H' : Hp) : Prop where
  ex : s'.env 1 = .ptr r1 0 ∧ s'.env 6 = .int .i64 c ∧ s'.env 7 = .int .i64 i ∧ s'.env 8 = .ptr r8 0 ∧ s'.ds = [] ∧ H' = H2
theorem find37_c (hX : CxOk (cx W G)) (u : UUnit) (hu : UOk u) (H : Hp) : CC Tryz.prog W 37 [.agg (unitC u)] H fun x H' => (∃ b a, x = .ret (.tuple [ci (errU u), ci b, ci a])) ∧ H' = H := by
  refine CC.shrink ?_
  refine CC.of_cw hX Tryz.func37 rfl rfl (Nat.le_of_ble_eq_true rfl) ?_
  refine CW.walk hX mixed d37 rfl ?_
  simp [unitC]
  intro r1 n1
  generalize hH1 : Hp.set _ r1 _ = H1
  have hle : Le H H1 := by rw [← hH1]; exact Le.set_new n1
  have m1 : H1 r1 = some (.cells (unitC u)) := by rw [← hH1]; exact set_at
  clear hH1 n1
  simp only [unitC] at m1
  by_cases hh : wfHead u = true
  rotate_left
  · have he : errU u = 3 := by simp [errU, hh]
    have hh' : ¬ (u.sizes.length ≤ 16 ∧ u.blocks.length ≤ 2000 ∧ u.blocks.length ≠ 0 ∧ u.regs ≤ 4096 ∧ u.spill ≤ 4096) := fun q => hh (by simp only [wfHead, Bool.and_eq_true, decide_eq_true_eq]; omega)
    rw [he]
    refine CW.walk hX mixed d37 rfl ?_
    by_cases c1 : (16 : Int) < u.sizes.length
    · simp (config := {maxSteps := 4000000}) [m1, c1]; exact hle
    by_cases c2 : (2000 : Int) < u.blocks.length
    · simp (config := {maxSteps := 4000000}) [m1, c1, c2]; exact hle
    by_cases c3 : u.blocks = []
    · simp (config := {maxSteps := 4000000}) [m1, c1, c3]; exact hle
    by_cases c4 : 4096 < u.regs
    · simp (config := {maxSteps := 4000000}) [m1, c1, c2, c3, c4]; exact hle
    by_cases c5 : 4096 < u.spill
    · simp (config := {maxSteps := 4000000}) [m1, c1, c2, c3, c4, c5]; exact hle
    · have : u.blocks.length ≠ 0 := fun q => c3 (List.length_eq_zero_iff.1 q)
      omega
  have hh' := hh
  simp only [wfHead, Bool.and_eq_true, decide_eq_true_eq] at hh'
  obtain ⟨⟨⟨⟨h1, h2⟩, h3⟩, h4⟩, h5⟩ := hh'
  have g1 : ¬ (16 : Int) < u.sizes.length := by omega
  have g2 : ¬ (2000 : Int) < u.blocks.length := by omega
  have g3 : u.blocks ≠ [] := fun k => by rw [k] at h2; simp at h2
  have g4 : ¬ 4096 < u.regs := by omega
  have g5 : ¬ 4096 < u.spill := by omega
  refine CW.walk hX mixed d37 rfl ?_
  simp (config := {maxSteps := 4000000}) [m1, g1, g2, g3, g4, g5]
  clear g1 g2 g3 g4 g5
  refine CW.cut (fun s' H' => fdS H1 u r1 0 0 s' H') ?_ ?_
  · refine CW.walk hX mixed d37 rfl ?_
    simp
    refine CW.block ?_
    refine CW.loop (fdS H1 u r1 0) ?_ (m := u.sizes.length) ⟨0, 0, by omega, rfl, by simp, by simp, rfl, rfl, rfl, fun k n hk => absurd hk (by omega)⟩
    rintro j ⟨en, ds⟩ H2 ⟨i, i5, hi, rfl, e1, e5, hi5, rfl, rfl, hok⟩
    obtain rfl : i = i5 := by omega
    dsimp only at e1 e5
    by_cases hlt : i < u.sizes.length
    rotate_left
    · refine CW.walk hX mixed d37 rfl ?_
      simp [e1, e5, m1, hlt]
      exact ⟨i, i, hi, by omega, by simp [e1], by simp [e5], rfl, rfl, rfl, hok⟩
    obtain ⟨n, hn⟩ : ∃ n, u.sizes[i] = n := ⟨_, rfl⟩
    have hn' : u.sizes[i]? = some n := by rw [List.getElem?_eq_getElem hlt, hn]
    refine CW.walk hX mixed d37 rfl ?_
    simp [e1, e5, m1, hlt]
    have bad : ¬ (1 ≤ n ∧ n ≤ 65536) → errU u = 2 := fun hb => by
      have : wfSizes u = false := by
        simp only [wfSizes, List.all_eq_false]
        exact ⟨n, List.mem_of_getElem? hn', by simp; omega⟩
      simp [errU, hh, this]
    by_cases hn1 : n < 1
    · refine CW.walk hX mixed d37 rfl ?_
      simp [e1, e5, m1, hlt, hn, hn1]
      exact ⟨hle, (bad (by omega)).symm⟩
    by_cases hn2 : 65536 < n
    · refine CW.walk hX mixed d37 rfl ?_
      simp [e1, e5, m1, hlt, hn, hn1, hn2]
      exact ⟨hle, (bad (by omega)).symm⟩
    refine CW.cut (fun s' H' => fdS H2 u r1 1 (u.sizes.length - (i + 1)) s' H') ?_ ?_
    · refine CW.block ?_
      refine CW.walk1 hX mixed d37 rfl ?_
      simp [e1, e5, m1, hlt, hn, hn1, hn2]
      refine ⟨i + 1, i, hlt, rfl, by simp [e1], by simp [e5], rfl, rfl, rfl, fun k m hk hm => ?_⟩
      by_cases hki : k < i
      · exact hok k m hki hm
      · obtain rfl : k = i := by omega
        rw [hn'] at hm
        injection hm with hm
        omega
    · rintro ⟨en, ds⟩ H3 ⟨i', i5, hi', hj', e1, e5, hi5, rfl, rfl, hok'⟩
      dsimp only at e1 e5
      refine CW.walk1 hX mixed d37 rfl ?_
      simp [e5]
      exact ⟨u.sizes.length - (i + 1), by omega, i', i', hi', hj', by simp [e1], by simp; rw [wrapI (by omega) (by omega)]; omega, rfl, rfl, rfl, hok'⟩
  rintro ⟨en, ds⟩ H2 ⟨i, _, hi, hj, e1, _, _, rfl, rfl, hok⟩
  obtain rfl : i = u.sizes.length := by omega
  dsimp only at e1
  have hsz : wfSizes u = true := by
    simp only [wfSizes, List.all_eq_true]
    intro n hn
    obtain ⟨k, hk, hkn⟩ := List.mem_iff_getElem.1 hn
    have := hok k n hk (by rw [List.getElem?_eq_getElem hk, hkn])
    simp; omega
  clear hok hj hi
  have hreg := reg58_c hX u u.code H2
  simp only [unitC] at hreg
  by_cases hn : wfNums u = true
  rotate_left
  · have he : errU u = 2 := by simp [errU, hh, hsz, hn]
    have hn' : ¬ (1 ≤ u.regs ∧ 0 ≤ u.spill ∧ 0 ≤ u.params ∧ u.params ≤ 8 ∧ u.params ≤ u.regs ∧ inR u.code u.regs = true) := fun q => hn (by simp only [wfNums, Bool.and_eq_true, decide_eq_true_eq]; simp only [q, and_self])
    rw [he]
    refine CW.walk hX mixed d37 rfl ?_
    by_cases c1 : u.regs < 1
    · simp [e1, m1, c1]; exact hle
    by_cases c2 : u.spill < 0
    · simp [e1, m1, c1, c2]; exact hle
    by_cases c3 : u.params < 0
    · simp [e1, m1, c1, c2, c3]; exact hle
    by_cases c4 : 8 < u.params
    · simp [e1, m1, c1, c2, c3, c4]; exact hle
    by_cases c5 : u.regs < u.params
    · simp [e1, m1, c1, c2, c3, c4, c5]; exact hle
    have c6 : inR u.code u.regs = false := by
      cases hc : inR u.code u.regs
      · rfl
      · exact absurd ⟨by omega, by omega, by omega, by omega, by omega, hc⟩ hn'
    simp [e1, m1, c1, c2, c3, c4, c5]
    refine hreg.k ?_
    rintro x H3 ⟨rfl, rfl⟩
    simp [c6]
    exact hle
  have hn' := hn
  simp only [wfNums, Bool.and_eq_true, decide_eq_true_eq] at hn'
  obtain ⟨⟨⟨⟨⟨k1, k2⟩, k3⟩, k4⟩, k5⟩, k6⟩ := hn'
  have g1 : ¬ u.regs < 1 := by omega
  have g2 : ¬ u.spill < 0 := by omega
  have g3 : ¬ u.params < 0 := by omega
  have g4 : ¬ 8 < u.params := by omega
  have g5 : ¬ u.regs < u.params := by omega
  refine CW.walk hX mixed d37 rfl ?_
  simp [e1, m1, g1, g2, g3, g4, g5]
  refine hreg.k ?_
  rintro x H3 ⟨rfl, rfl⟩
  simp [k6]
  clear g1 g2 g3 g4 g5 hreg
  refine CW.walk hX mixed d37 rfl ?_
  simp
  refine CW.cut (fun s' H' => fdB H3 u r1 0 0 s' H') ?_ ?_
  · refine CW.walk hX mixed d37 rfl ?_
    simp
    refine CW.block ?_
    refine CW.loop (fdB H3 u r1 0) ?_ (m := u.blocks.length) ⟨0, 0, by omega, rfl, by simp [e1], by simp [off], by simp, rfl, rfl, Le.refl _, fun k n hk => absurd hk (by omega)⟩
    clear e1
    rintro j ⟨en, ds⟩ H4 ⟨i, i7, hi, rfl, e1, e6, e7, hi7, rfl, hle4, hall⟩
    obtain rfl : i = i7 := by omega
    dsimp only at e1 e6 e7
    have m14 := hle4 _ _ m1
    by_cases hlt : i < u.blocks.length
    rotate_left
    · refine CW.walk hX mixed d37 rfl ?_
      simp [e1, e7, m14, hlt]
      exact ⟨i, i, hi, by omega, by simp [e1], by simp [e6], by simp [e7], rfl, rfl, hle4, hall⟩
    obtain ⟨k, hke⟩ : ∃ k, u.blocks[i] = k := ⟨_, rfl⟩
    have hk : u.blocks[i]? = some k := by rw [List.getElem?_eq_getElem hlt, hke]
    have hB : Bef u i := ⟨hh, hsz, hn, hall⟩
    have hkm : k ∈ u.blocks := List.mem_of_getElem? hk
    have hopl := hu.op k hkm
    have hoff := off_le hu i (by omega)
    have hbl := hu.bl
    have hsp : 0 ≤ u.spill := by simp only [wfNums, Bool.and_eq_true, decide_eq_true_eq] at hn; omega
    refine CW.walk hX mixed d37 rfl ?_
    simp [e1, e7, m14, hlt]
    have stop : ∀ {e : Int}, e ≠ 0 → errBlk u k = e → errU u = e := fun he h => errU_blk hB hk he h
    refine CW.cut (fun s' H' => fdB H3 u r1 1 (u.blocks.length - (i + 1)) s' H') ?_ ?_
    · refine CW.block ?_
      refine CW.walk hX mixed d37 rfl ?_
      simp [e1, e7, m14, hlt, hke, blkC]
      intro r8 n8
      generalize hH5 : H4.set r8 _ = H5
      have hle5 : Le H4 H5 := by rw [← hH5]; exact Le.set_new n8
      have m8 : H5 r8 = some (.cells (blkC k)) := by rw [← hH5]; exact set_at
      have m15 := hle5 _ _ m14
      clear hH5 n8
      simp only [blkC] at m8
      have hle05 := hle.trans (hle4.trans hle5)
      by_cases hc : (decide (k.catch_ = -1) || inR k.catch_ u.blocks.length) = true
      rotate_left
      · have hc' : (decide (k.catch_ = -1) || inR k.catch_ u.blocks.length) = false := by simpa using hc
        have he := stop (e := 2) (by omega) (by simp only [errBlk, hc']; rfl)
        rw [he]
        simp only [inR, Bool.or_eq_false_iff, Bool.and_eq_false_iff, decide_eq_false_iff_not] at hc'
        by_cases c1 : k.catch_ < -1
        · refine CW.walk hX mixed d37 rfl ?_
          simp [d37, m8, m15, c1]
          exact ⟨hle05, _, e7⟩
        · have c2 : (u.blocks.length : Int) ≤ k.catch_ := by omega
          refine CW.walk hX mixed d37 rfl ?_
          simp [d37, e1, m8, m15, c1, c2]
          exact ⟨hle05, _, e7⟩
      have hc' := hc
      simp only [inR, Bool.or_eq_true, Bool.and_eq_true, decide_eq_true_eq] at hc'
      have c1 : ¬ k.catch_ < -1 := by omega
      have c2 : ¬ (u.blocks.length : Int) ≤ k.catch_ := by omega
      refine CW.walk hX mixed d37 rfl ?_
      simp [d37, e1, m8, m15, c1, c2]
      by_cases hl : 400 < k.ops.length
      · have he := stop (e := 3) (by omega) (by simp only [errBlk, hc]; simp [hl])
        rw [he]
        have hl' : (400 : Int) < k.ops.length := by omega
        refine CW.walk hX mixed d37 rfl ?_
        simp [d37, m8, hl']
        exact ⟨hle05, _, e7⟩
      have hl' : ¬ (400 : Int) < k.ops.length := by omega
      refine CW.walk hX mixed d37 rfl ?_
      simp [m8, hl']
      refine CW.walk hX mixed d37 rfl ?_
      simp [e6, m8]
      rw [wrapI (by omega) (by omega), show (off u i : Int) + k.ops.length = (off u (i + 1) : Nat) by rw [off_succ hk]; push_cast; rfl]
      refine CW.cut (fun s' H' => fdE H5 i r1 r8 u (off u (i + 1)) s' H' ∧ k.ops.all (wfOp u) = true) ?_ ?_
      · refine CW.walk hX mixed d37 rfl ?_
        simp
        refine CW.block ?_
        refine CW.loop (fdK H5 u k i r1 r8 0) ?_ (m := k.ops.length) ⟨0, 0, by omega, rfl, by simp [e1], by simp, by simp [e7], by simp, by simp, rfl, rfl, rfl, fun j o hj => absurd hj (by omega)⟩
        clear e1 e6 e7
        rintro j ⟨en, ds⟩ H6 ⟨t, t9, ht, rfl, e1, e6, e7, e8, e9, ht9, rfl, rfl, hok⟩
        obtain rfl : t = t9 := by omega
        dsimp only at e1 e6 e7 e8 e9
        by_cases htl : t < k.ops.length
        rotate_left
        · refine CW.walk hX mixed d37 rfl ?_
          simp [e8, e9, m8, htl]
          refine ⟨⟨by simp [e1], by simp [e6], by simp [e7], by simp [e8], rfl, rfl⟩, fun o ho => ?_⟩
          obtain ⟨j, hj, hjo⟩ := List.mem_iff_getElem.1 ho
          exact hok j o (by omega) (by rw [List.getElem?_eq_getElem hj, hjo])
        obtain ⟨o, hoe⟩ : ∃ o, k.ops[t] = o := ⟨_, rfl⟩
        have ho : k.ops[t]? = some o := by rw [List.getElem?_eq_getElem htl, hoe]
        refine CW.walk hX mixed d37 rfl ?_
        simp [e8, e9, m8, htl]
        have hop := op59_c hX u hsp o H6
        simp only [unitC, opC] at hop
        refine CW.cut (fun s' H' => fdK H6 u k i r1 r8 1 (k.ops.length - (t + 1)) s' H') ?_ ?_
        · refine CW.block ?_
          refine CW.walk hX mixed d37 rfl ?_
          simp [d37, e1, e8, e9, m8, m15, htl, hoe, opC]
          refine hop.k ?_
          rintro x H7 ⟨rfl, rfl⟩
          simp
          refine CW.walk1 hX mixed d37 rfl ?_
          by_cases he : errOp u o = 0
          · simp [he]
            refine ⟨t + 1, t, htl, rfl, by simp [e1], by simp [e6], by simp [e7], by simp [e8], by simp [e9], rfl, rfl, rfl, fun j o' hj hoj => ?_⟩
            by_cases hjt : j < t
            · exact hok j o' hjt hoj
            · obtain rfl : j = t := by omega
              rw [ho] at hoj
              injection hoj with hoj
              rw [← hoj]
              exact errOp_wf.1 he
          · simp [he, e7, e9]
            refine ⟨hle05, (stop he ?_).symm⟩
            have := errOps_at ho hok he
            simp only [errBlk, hc, this]
            simp [he, hl]
        · rintro ⟨en, ds⟩ H7 ⟨t', t9, ht', hj', g1, g6, g7, g8, g9, ht9, rfl, rfl, hok'⟩
          dsimp only at g1 g6 g7 g8 g9
          refine CW.walk1 hX mixed d37 rfl ?_
          simp [g9]
          exact ⟨k.ops.length - (t + 1), by omega, t', t', ht', hj', by simp [g1], by simp [g6], by simp [g7], by simp [g8], by simp; rw [wrapI (by omega) (by omega)]; omega, rfl, rfl, rfl, hok'⟩
      clear e1 e6 e7
      rintro ⟨en, ds⟩ H6 ⟨⟨e1, e6, e7, e8, rfl, rfl⟩, hall2⟩
      dsimp only at e1 e6 e7 e8
      have hen := end60_c hX u k.en H6
      simp only [unitC, endC] at hen
      refine CW.walk hX mixed d37 rfl ?_
      simp [d37, e1, e8, m8, m15]
      refine hen.k ?_
      rintro x H7 ⟨rfl, rfl⟩
      simp
      refine CW.walk1 hX mixed d37 rfl ?_
      have h0 := errOps_wf.2 hall2
      by_cases he : errEnd u k.en = 0
      · simp [he]
        refine ⟨i + 1, i, hlt, rfl, by simp [e1], by simp [e6], by simp [e7], rfl, rfl, hle4.trans hle5, fun j b hj hb => ?_⟩
        by_cases hji : j < i
        · exact hall j b hji hb
        · obtain rfl : j = i := by omega
          rw [hk] at hb
          injection hb with hb
          rw [← hb]
          refine errBlk_wf.1 ?_
          simp only [errBlk, hc, h0, he]
          simp [hl]
      · simp [d37, he, e7, e8, m8]
        refine ⟨hle05, (stop he ?_).symm⟩
        simp only [errBlk, hc, h0]
        simp [hl]
    · rintro ⟨en, ds⟩ H5 ⟨i', i7, hi', hj', e1, e6, e7, hi7, rfl, hle5, hall'⟩
      dsimp only at e1 e6 e7
      refine CW.walk1 hX mixed d37 rfl ?_
      simp [e7]
      exact ⟨u.blocks.length - (i + 1), by omega, i', i', hi', hj', by simp [e1], by simp [e6], by simp; rw [wrapI (by omega) (by omega)]; omega, rfl, rfl, hle5, hall'⟩
  rintro ⟨en, ds⟩ H4 ⟨i, _, hi, hj, e1, e6, _, _, rfl, hle4, hall⟩
  obtain rfl : i = u.blocks.length := by omega
  dsimp only at e1 e6
  rw [off_all] at e6
  have hall' : u.blocks.all (wfBlk u) = true := by
    rw [List.all_eq_true]
    intro k hk
    obtain ⟨j, hj, hkj⟩ := List.mem_iff_getElem.1 hk
    exact hall j k hj (by rw [List.getElem?_eq_getElem hj, hkj])
  have he : errU u = if 20000 < (opsOf u).length then 3 else 0 := by
    simp [errU, hh, hsz, hn, errBlks_wf.2 hall']
  rw [he]
  have hle04 := hle.trans hle4
  refine CW.walk1 hX mixed d37 rfl ?_
  by_cases hm : 20000 < (opsOf u).length
  · have hm' : (20000 : Int) < (opsOf u).length := by omega
    simp [e6, hm']
    exact ⟨hle04, hm⟩
  · have hm' : ¬ (20000 : Int) < (opsOf u).length := by omega
    simp [e6, hm', hm]
    exact hle04
theorem check24_c (hX : CxOk (cx W G)) (u : UUnit) (hu : UOk u) (H : Hp) : CC Tryz.prog W 11 [.agg (unitC u)] H fun x H' => x = .ret (ci (errU u)) ∧ H' = H := by
  refine CC.shrink ?_
  refine CC.of_ev hX mixed d11 Tryz.func11 rfl rfl (Nat.le_of_ble_eq_true rfl) d11_ok ?_
  simp [Tryz.f11, d11, unitC]
  intro r1 n1
  have hf := find37_c hX u hu (H.set r1 (.cells (unitC u)))
  simp only [unitC] at hf
  refine hf.k ?_
  rintro x H' ⟨⟨b, a, rfl⟩, rfl⟩
  simp
  exact Le.set_new n1
theorem check24_f (hX : CxOk (cx W G)) {u : UUnit} (hu : UOk u) {H : Hp} {cs : List CV} (hf : Fz H (.agg cs) (.agg (unitC u))) : CC Tryz.prog W 11 [.agg cs] H fun x H' => x = .ret (ci (errU u)) ∧ H' = H := by
  refine (CC.freeze (args' := [.agg (unitC u)]) (R := fun v => v = ci (errU u)) (by rfl) (fz1 hf) (by rintro v rfl; simp [plainV]) fun w hw => ?_).mono ?_
  · exact (check24_c (W := w) (CxOk.later hX hw) u hu _).mono fun x H' ⟨h1, _⟩ => ⟨_, h1, rfl⟩
  · rintro x H' ⟨v, rfl, rfl, rfl⟩
    exact ⟨rfl, rfl⟩
end Go.Cl
