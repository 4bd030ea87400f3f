/- DERIVED HERE. The reference's small functions on operations and sets; behind, aside. DERIVED HERE. The reference's Live: behind, aside, Before. -/
import Derived.Test.YtdoifdjodafakaaGreatDoorRA
set_option linter.unusedSimpArgs false
set_option linter.unusedVariables false
namespace Go.Cl
open Go.Proofs Dd
variable {W : World} {G : Nat → CV}
set_option maxRecDepth 8000
set_option maxHeartbeats 4000000
theorem writes40_c (hX : CxOk (cx W G)) (o : UOp) (hk : isKind o.kind = true) (H : Hp) : CC Tryz.prog W 57 [.agg (opC o)] H fun x H' => x = .ret (.tuple [ci (if uBit o.kind 0 then o.dst else 0), .bool (uBit o.kind 0)]) ∧ H' = H := by
  obtain ⟨b0, _⟩ := has_bits2 hk
  refine CC.shrink ?_
  refine CC.of_ev hX mixed d57 Tryz.func57 rfl rfl (Nat.le_of_ble_eq_true rfl) d57_ok ?_
  simp [Tryz.f57, d57, opC]
  intro q hq
  have hle : Le H (H.set q (.cells (opC o))) := Le.set_new hq
  simp only [opC] at hle
  refine (hasDst64_c hX _ _).k ?_
  rintro x H' ⟨rfl, rfl⟩
  rw [b0]
  by_cases h : uBit o.kind 0 = true <;> simp [h, hle]
theorem endReads65_c (hX : CxOk (cx W G)) (e : UEnd) (H : Hp) : CC Tryz.prog W 33 [.agg (endC e)] H fun x H' => ∃ v, x = .ret v ∧ Own H H' v 1 (ints (if e.kind = 1 then [] else [e.a])) := by
  refine CC.of_ev hX mixed d33 Tryz.func33 rfl rfl (Nat.le_of_ble_eq_true rfl) d33_ok ?_
  simp [Tryz.f33, d33, endC]
  intro q hq
  have hle : Le H (H.set q (.cells (endC e))) := Le.set_new hq
  simp only [endC] at hle
  refine (endA_c hX _ _).k ?_
  rintro x H' ⟨rfl, rfl⟩
  by_cases h : e.kind = 1
  · simp [h]
    rw [h] at hle
    exact Own.nil hle
  · simp [h, cfill]
    intro r h1 h2 hr
    have hr' : (H.set q (.cells (endC e))) r = none := by rw [hset_ne h1]; exact hr
    simp only [endC] at hr'
    exact ⟨hle.trans (Le.set_new hr'), by simp [ints], .inr ⟨r, 1, [], rfl, hr, by simp [ints], by simp [ints], by simp [ints]⟩⟩
theorem mayEnd62_c (hX : CxOk (cx W G)) (e : UEnd) (n : Nat) (p : Nat → Bool) (hk : 1 ≤ e.kind ∧ e.kind ≤ 4) (ha : e.kind ≠ 1 → 0 ≤ e.a ∧ e.a < n) (H : Hp) : CC Tryz.prog W 61 [.agg (endC e), .sl 1 (boolS n p)] H fun x H' => x = .ret (.bool (mayEnd p e)) ∧ H' = H := by
  refine CC.shrink ?_
  refine CC.of_ev hX mixed d61 Tryz.func61 rfl rfl (Nat.le_of_ble_eq_true rfl) d61_ok ?_
  have hkk : e.kind = 1 ∨ e.kind = 2 ∨ e.kind = 3 ∨ e.kind = 4 := by omega
  rcases hkk with k | k | k | k
  · simp (config := {contextual := true}) [Tryz.f61, d61, endC, k, mayEnd]
    exact fun q hq => Le.set_new hq
  · have h1 := ha (by omega)
    have h2 : e.a.toNat < n := by omega
    simp (config := {contextual := true}) [Tryz.f61, d61, endC, k, mayEnd, h1.1, h2]
    exact fun q hq => Le.set_new hq
  · have h1 := ha (by omega)
    have h2 : e.a.toNat < n := by omega
    simp (config := {contextual := true}) [Tryz.f61, d61, endC, k, mayEnd, h1.1, h2]
    exact fun q hq => Le.set_new hq
  · simp (config := {contextual := true}) [Tryz.f61, d61, endC, k, mayEnd]
    exact fun q hq => Le.set_new hq
theorem may63_c (hX : CxOk (cx W G)) (o : UOp) (n : Nat) (p : Nat → Bool) (H : Hp) (hg : o.guard ≠ -1 → 0 ≤ o.guard ∧ o.guard < n) (ha : o.kind = 20 ∨ o.kind = 21 ∨ o.kind = 22 → 0 ≤ o.a ∧ o.a < n) : CC Tryz.prog W 63 [.agg (opC o), .sl 1 (boolS n p)] H fun x H' => x = .ret (.bool (mayTrap p o)) ∧ H' = H := by
  refine CC.at0 ?_ H
  refine CC.of_ev hX mixed d63 Tryz.func63 rfl rfl (Nat.le_of_ble_eq_true rfl) d63_ok ?_
  simp (config := {contextual := true, maxSteps := 2000000}) [Tryz.f63, d63, opC]
  have k20 : ∀ k, o.kind = k → (k = 20 ∨ k = 21 ∨ k = 22) → 0 ≤ o.a ∧ o.a.toNat < n := fun k h1 h2 => by have := ha (by omega); omega
  refine ⟨fun h => ⟨(hg h).1, by have := hg h; omega, fun hp => by simp [mayTrap, h, hp], fun hp => ?_⟩, fun h => ?_⟩
  all_goals
    refine ⟨fun h => by simp [mayTrap, h], fun k14 => ⟨fun h => by simp [mayTrap, h], fun k15 => ⟨fun h => by simp [mayTrap, h], fun k16 => ⟨fun h => by simp [mayTrap, h], fun k17 => ?_⟩⟩⟩⟩
    refine ⟨fun h20 => ⟨(k20 _ h20 (by omega)).1, (k20 _ h20 (by omega)).2, by simp [mayTrap, h20, h]; try simp [hp]⟩, fun h20 => ⟨fun h21 => ⟨(k20 _ h21 (by omega)).1, (k20 _ h21 (by omega)).2, by simp [mayTrap, h21, h]; try simp [hp]⟩, fun h21 => ⟨fun h22 => ⟨(k20 _ h22 (by omega)).1, (k20 _ h22 (by omega)).2, by simp [mayTrap, h22, h]; try simp [hp]⟩, fun h22 => ?_⟩⟩⟩
    simp [mayTrap, k14, k15, k16, k17, h20, h21, h22, h]
    try simp [hp]
theorem SlN.src {H0 H : Hp} {v : CV} {l : List Int} (h : SlN H0 H v l) : ∀ K' : Nat → List CV → Prop, K' (ints l).length (ints l).flatten → srcC H 1 v K' := by
  intro K' hK
  rcases h with ⟨rfl, rfl⟩ | ⟨q, c, cs, rfl, _, hq, hcs⟩
  · exact hK
  · have hl : l.length ≤ cs.length := by
      rcases Nat.lt_or_ge cs.length l.length with h | h
      · have h1 : cs.length < l.length := h
        have := hcs cs.length _ (List.getElem?_eq_getElem h1)
        have := (List.getElem?_eq_some_iff.1 this).1
        omega
      · exact h
    refine ⟨cs, hq, by omega, ?_⟩
    have ht : (cs.drop 0).take (l.length * 1) = (ints l).flatten := by
      rw [ints_flat, List.drop_zero, Nat.mul_one]
      apply List.ext_getElem?
      intro k
      rw [List.getElem?_take, List.getElem?_map]
      by_cases hk : k < l.length
      · rw [if_pos hk, hcs k _ (List.getElem?_eq_getElem hk), List.getElem?_eq_getElem hk]; rfl
      · rw [if_neg hk, List.getElem?_eq_none (by omega)]; rfl
    rw [ht]
    simpa [ints] using hK
structure rdM (H1 : Hp) (q1 : Nat) (L : List Int) (s' : CA) (H' : Hp) : Prop where
  ex : ∃ v, s'.env 1 = .ptr q1 0 ∧ s'.env 3 = v ∧ s'.ds = [] ∧ Own H1 H' v 1 (ints L)
theorem reads68_c (hX : CxOk (cx W G)) (o : UOp) (hk : isKind o.kind = true) (H : Hp) : CC Tryz.prog W 35 [.agg (opC o)] H fun x H' => ∃ v, x = .ret v ∧ Own H H' v 1 (ints (allReads o)) := by
  refine CC.of_cw hX Tryz.func35 rfl rfl (Nat.le_of_ble_eq_true rfl) ?_
  refine CW.walk hX mixed d35 rfl ?_
  simp [opC]
  intro q1 n1
  generalize hH1 : H.set q1 _ = H1
  have hle : Le H H1 := by rw [← hH1]; exact Le.set_new n1
  have m1 : H1 q1 = some (.cells (opC o)) := by rw [← hH1]; exact set_at
  clear hH1
  simp only [opC] at m1
  refine CW.walk hX mixed d35 rfl ?_
  simp
  refine CW.cut (rdM H1 q1 (if o.guard = -1 then [] else [o.guard])) ?_ ?_
  · refine CW.walk1 hX mixed d35 rfl ?_
    by_cases hg : o.guard = -1
    · simp [m1, hg]
      exact ⟨.nilsl, by simp, by simp, rfl, Own.nil (Le.refl _)⟩
    · simp [m1, hg, cfill, -vcAppend]
      intro r hr
      refine ((Own.nil (sz := 1) (Le.refl _)).more hr).append2 (ys := [[ci o.guard]]) (by simp) (by simp) (src_one set_at rfl) fun v' H4 how4 _ => ?_
      simp
      exact ⟨v', by simp, by simp, rfl, by simpa [ints, hg] using how4⟩
  rintro ⟨en, ds⟩ H2 ⟨v, e1, e3, rfl, how⟩
  dsimp only at e1 e3
  have m2 := how.le _ _ m1
  have hop := operands_c hX o hk H2
  simp only [opC] at hop
  refine CW.walk1 hX mixed d35 rfl ?_
  simp [e1, e3, m2, -vcAppend]
  refine hop.k ?_
  rintro x H3 ⟨w, rfl, hle3, hw⟩
  simp [e1, e3, -vcAppend]
  have hr3 := reads_len o
  refine (how.mono hle3).append2 (ys := ints (reads o)) (by simp [ints]) (by simp [ints]; split <;> simp <;> omega) hw.src fun v' H4 how4 _ => ?_
  simp
  have hl : (if o.guard = -1 then [] else [o.guard]) ++ reads o = allReads o := by
    simp only [allReads]
    split <;> rfl
  rw [← hl]
  exact (by simpa [ints] using how4 : Own H1 H4 v' 1 (ints ((if o.guard = -1 then [] else [o.guard]) ++ reads o))).base hle
theorem boolC_put {n i : Nat} (f : Nat → Bool) (b : Bool) (h : i < n) : (boolC n f).take i ++ .bool b :: (boolC n f).drop (i + 1) = boolC n (fun x => if x = i then b else f x) := by
  rw [take_drop_set (by rw [boolC_len]; exact h)]
  apply List.ext_getElem?
  intro j
  rw [List.getElem?_set]
  simp only [boolC, List.length_map, List.length_range, List.getElem?_map]
  by_cases hj : i = j
  · subst hj; simp [h]
  · rw [if_neg hj]
    rcases Nat.lt_or_ge j n with h2 | h2
    · rw [List.getElem?_range h2]; simp [Ne.symm hj]
    · rw [List.getElem?_eq_none (by simpa using h2)]; rfl
theorem boolC_congr {n : Nat} {f g : Nat → Bool} (h : ∀ x, x < n → f x = g x) : boolC n f = boolC n g := by
  simp only [boolC]
  exact List.map_congr_left fun x hx => by rw [h x (List.mem_range.1 hx)]
/-- A slice of truths: frozen, or in a block that is not r. -/
def SrcB (H : Hp) (r : Nat) (v : CV) (n : Nat) (g : Nat → Bool) : Prop := v = .sl 1 (boolS n g) ∨ ∃ q c, v = .ref q 0 n c ∧ H q = some (.cells (boolC n g)) ∧ q ≠ r
structure jnI (H : Hp) (n r : Nat) (f g : Nat → Bool) (but : Int) (v : CV) (d : Nat) (j : Nat) (s' : CA) (H' : Hp) : Prop where
  ex : ∃ i i6 : Nat, i ≤ n ∧ j = n - i ∧ s'.env 0 = .ref r 0 n n ∧ s'.env 1 = v ∧ s'.env 2 = ci but ∧ s'.env 6 = .int .i64 i6 ∧ i6 + d = i ∧ s'.ds = [] ∧ H' = H.set r (.cells (boolC n fun x => if x < i then f x || (g x && decide ((x : Int) ≠ but)) else f x))
theorem join66_c (hX : CxOk (cx W G)) (n r : Nat) (f g : Nat → Bool) (but : Int) (v : CV) {H : Hp} (hr : H r = some (.cells (boolC n f))) (hv : SrcB H r v n g) (hn : n ≤ 5000) :
    CC Tryz.prog W 36 [.ref r 0 n n, v, ci but] H fun x H' => x = .ret (.tuple []) ∧ H' = H.set r (.cells (boolC n fun x => f x || (g x && decide ((x : Int) ≠ but)))) := by
  refine CC.of_cw hX Tryz.func36 rfl rfl (Nat.le_of_ble_eq_true rfl) ?_
  refine CW.walk hX mixed d36 rfl ?_
  simp
  refine CW.block ?_
  refine CW.loop (jnI H n r f g but v 0) ?_ (m := n) ⟨0, 0, by omega, rfl, by simp, by simp, by simp, by simp, rfl, rfl, by simp; rw [hset_self hr]⟩
  rintro j ⟨en, ds⟩ H2 ⟨i, i6, hi, rfl, e0, e1, e2, e6, hi6, rfl, rfl⟩
  obtain rfl : i = i6 := by omega
  dsimp only at e0 e1 e2 e6
  by_cases hlt : i < n
  rotate_left
  · refine CW.walk hX mixed d36 rfl ?_
    simp [e0, e6, hlt]
    have hin : i = n := by omega
    subst hin
    congr 2
    refine boolC_congr fun x hx => ?_
    simp [hx]
  refine CW.walk hX mixed d36 rfl ?_
  simp [e0, e6, hlt]
  generalize hF : (fun x => if x < i then f x || g x && !decide ((x : Int) = but) else f x) = F
  have hFi : F i = f i := by rw [← hF]; simp
  have hput : ∀ b : Bool, b = (f i || (g i && !decide ((i : Int) = but))) → (boolC n F).take i ++ CV.bool b :: (boolC n F).drop (i + 1) = boolC n fun x => if x < i + 1 then f x || g x && decide ((x : Int) ≠ but) else f x := fun b hb => by
    rw [boolC_put F b hlt]
    refine boolC_congr fun x hx => ?_
    rw [← hF, hb]
    by_cases h1 : x = i
    · subst h1; simp
    · by_cases h2 : x < i
      · have h3 : x < i + 1 := by omega
        simp [h1, h2, h3]
      · have h3 : ¬ x < i + 1 := by omega
        simp [h1, h2, h3]
  have fin : ∀ (en : Env) (b : Bool) (H' : Hp), b = (f i || (g i && !decide ((i : Int) = but))) → en 0 = .ref r 0 n n → en 1 = v → en 2 = ci but → en 6 = .int .i64 i → H' = H.set r (.cells ((boolC n F).take i ++ CV.bool b :: (boolC n F).drop (i + 1))) → jnI H n r f g but v 1 (n - (i + 1)) ⟨en, []⟩ H' := fun en b H' hb g0 g1 g2 g6 hH => ⟨i + 1, i, hlt, rfl, g0, g1, g2, g6, rfl, rfl, by rw [hH, hput b hb]⟩
  have hFl : i < (boolC n F).length := by rw [boolC_len]; exact hlt
  refine CW.cut (jnI H n r f g but v 1 (n - (i + 1))) ?_ ?_
  · refine CW.block ?_
    refine CW.walk1 hX mixed d36 rfl ?_
    by_cases hf : f i = true
    · simp [e0, e6, hlt, boolC_get, hFi, hf]
      exact ⟨hlt, fin _ _ _ (by simp [hf]) (by simp [e0]) (by simp [e1]) (by simp [e2]) (by simp [e6]) rfl⟩
    · rcases hv with rfl | ⟨q, c, rfl, hq, hne⟩
      · by_cases hg : g i = true
        · simp [e0, e1, e2, e6, hlt, boolC_get, hFi, hf, hg]
          exact ⟨hlt, fin _ _ _ (by simp [hf, hg, decide_bne]) (by simp [e0]) (by simp [e1]) (by simp [e2]) (by simp [e6]) rfl⟩
        · simp [e0, e1, e2, e6, hlt, boolC_get, hFi, hf, hg]
          exact ⟨hlt, fin _ _ _ (by simp [hf, hg, decide_bne]) (by simp [e0]) (by simp [e1]) (by simp [e2]) (by simp [e6]) rfl⟩
      · by_cases hg : g i = true
        · simp [e0, e1, e2, e6, hlt, boolC_get, hFi, hf, hg, hq, hne]
          exact ⟨hlt, fin _ _ _ (by simp [hf, hg, decide_bne]) (by simp [e0]) (by simp [e1]) (by simp [e2]) (by simp [e6]) rfl⟩
        · simp [e0, e1, e2, e6, hlt, boolC_get, hFi, hf, hg, hq, hne]
          exact ⟨hlt, fin _ _ _ (by simp [hf, hg, decide_bne]) (by simp [e0]) (by simp [e1]) (by simp [e2]) (by simp [e6]) rfl⟩
  · rintro ⟨en, ds⟩ H3 ⟨i', i6, hi', hj', g0, g1, g2, g6, hi6, rfl, rfl⟩
    dsimp only at g0 g1 g2 g6
    refine CW.walk1 hX mixed d36 rfl ?_
    simp [g6]
    exact ⟨n - (i + 1), by omega, i', i', hi', hj', by simp [g0], by simp [g1], by simp [g2], by simp; rw [wrapI (by omega) (by omega)]; omega, rfl, rfl, by simp⟩
end Go.Cl
set_option linter.unusedSimpArgs false
set_option linter.unusedVariables false
namespace Go.Cl
open Go.Proofs Dd
variable {W : World} {G : Nat → CV}
set_option maxRecDepth 8000
set_option maxHeartbeats 4000000
def insS (m n : Nat) (I : Nat → Nat → Bool) : List (List CV) := (List.range m).map fun i => [.sl 1 (boolS n (I i))]
theorem insS_len {m n : Nat} {I : Nat → Nat → Bool} : (insS m n I).length = m := by simp [insS]
theorem insS_get {m n i : Nat} {I : Nat → Nat → Bool} (h : i < m) : (insS m n I)[i]? = some [.sl 1 (boolS n (I i))] := by simp [insS, h]
theorem insS_ex {m n i : Nat} {I : Nat → Nat → Bool} {P : List CV → Prop} : (∃ e, (insS m n I)[i]? = some e ∧ P e) = (i < m ∧ P [.sl 1 (boolS n (I i))]) := by
  simp only [insS, List.getElem?_map, eq_iff_iff]
  rcases Nat.lt_or_ge i m with h | h
  · rw [List.getElem?_range h]; simp [h]
  · rw [List.getElem?_eq_none (by simpa using h)]; simp; intro h2; omega
attribute [simp ↓] insS_ex
attribute [simp] insS_len
def refC (u : UUnit) (p : Nat → Bool) (I : Nat → Nat → Bool) : List CV := unitC u ++ [.sl 1 (boolS u.regs.toNat p), .sl 1 (insS u.blocks.length u.regs.toNat I)]
theorem zeroB (n : Nat) : (List.range n).map (fun i => ([CV.bool false][i % 1]?).getD CV.any) = boolC n fun _ => false := by
  simp only [boolC]
  exact List.map_congr_left fun x hx => by simp [Nat.mod_one]
/-- What is live where a block's End may go. -/
def behP (u : UUnit) (p : Nat → Bool) (I : Nat → Nat → Bool) (b : UBlk) : Nat → Bool := fun r => (goes b.en && I b.en.to.toNat r) || (branches b.en && I b.en.els.toNat r) || (mayEnd p b.en && catchP u I b r)
def asideP (u : UUnit) (p : Nat → Bool) (I : Nat → Nat → Bool) (b : UBlk) (o : UOp) : Nat → Bool := fun r => (decide (o.kind = 21) && I o.n.toNat r) || (mayTrap p o && catchP u I b r)
structure bhM (Hb : Hp) (cs : List CV) (b r5 r6 n : Nat) (f : Nat → Bool) (s' : CA) (H' : Hp) : Prop where
  ex : s'.env 0 = .iptr cs ∧ s'.env 1 = .int .i64 b ∧ s'.env 5 = .ptr r5 0 ∧ s'.env 6 = .ref r6 0 n n ∧ s'.ds = [] ∧ H' = Hb.set r6 (.cells (boolC n f))
theorem behind67_c (hX : CxOk (cx W G)) (u : UUnit) (hw : wfU u = true) (p : Nat → Bool) (I : Nat → Nat → Bool) (b : Nat) (k : UBlk) (hk : u.blocks[b]? = some k) (H : Hp) :
    CC Tryz.prog W 34 [.iptr (refC u p I), .int .i64 b] H fun x H' => ∃ r, H r = none ∧ x = .ret (.ref r 0 u.regs.toNat u.regs.toNat) ∧ H' = H.set r (.cells (boolC u.regs.toNat (behP u p I k))) := by
  obtain ⟨f1, f2, f3, f4, f5, f6, f7, f8, f9, f10, f11⟩ := wfU_facts hw
  obtain ⟨hct, _, _, hwe⟩ := wfB_facts hw hk
  obtain ⟨g1, g2, g3, g4, g5⟩ := wfE_facts hwe
  have hb := (List.getElem?_eq_some_iff.1 hk).1
  have hbe := (List.getElem?_eq_some_iff.1 hk).2
  refine CC.shrink ?_
  refine CC.of_cw hX Tryz.func34 rfl rfl (Nat.le_of_ble_eq_true rfl) ?_
  refine CW.walk hX mixed d34 rfl ?_
  simp
  refine CW.walk hX mixed d34 rfl ?_
  simp [d34, refC, unitC, hb, hbe, blkC]
  intro r5 n5
  refine CW.walk hX mixed d34 rfl ?_
  simp
  refine ⟨by omega, by omega, by omega, fun r6 q1 q2 n6 => ?_⟩
  rw [zeroB]
  generalize hHb : H.set r5 _ = Hb
  have hleb : Le H Hb := by rw [← hHb]; exact Le.set_new n5
  have m5 : Hb r5 = some (.cells (blkC k)) := by rw [← hHb]; exact set_at
  have n6b : Hb r6 = none := by rw [← hHb, hset_ne q1]; exact n6
  clear hHb
  simp only [blkC] at m5
  have jn : ∀ (f : Nat → Bool) (t : Nat) (but : Int), CC Tryz.prog W 36 [.ref r6 0 u.regs.toNat u.regs.toNat, .sl 1 (boolS u.regs.toNat (I t)), ci but] (Hb.set r6 (.cells (boolC u.regs.toNat f))) _ := fun f t but => join66_c hX u.regs.toNat r6 f (I t) but (.sl 1 (boolS u.regs.toNat (I t))) (H := Hb.set r6 (.cells (boolC u.regs.toNat f))) set_at (.inl rfl) (by omega)
  have hcs : refC u p I = [.sl 1 (u.sizes.map fun n => [ci n]), ci u.params, ci u.regs, ci u.code, ci u.spill, .sl 6 (u.blocks.map blkC), .sl 1 (boolS u.regs.toNat p), .sl 1 (insS u.blocks.length u.regs.toNat I)] := rfl
  have m5s : ∀ x, (Hb.set r6 x) r5 = some (.cells [.sl 7 (k.ops.map opC), ci k.en.kind, ci k.en.a, ci k.en.to, ci k.en.els, ci k.catch_]) := fun x => by rw [hset_ne q2]; exact m5
  refine CW.cut (bhM Hb (refC u p I) b r5 r6 u.regs.toNat (fun r => goes k.en && I k.en.to.toNat r)) ?_ ?_
  · refine CW.walk1 hX mixed d34 rfl ?_
    simp [m5s]
    refine (endTo_c hX _ _).k ?_
    rintro x H2 ⟨rfl, rfl⟩
    by_cases hg : goes k.en = true
    · have hg' : k.en.kind = 1 ∨ k.en.kind = 2 := by simpa [goes] using hg
      have h4 := g4 hg'
      have h4' : k.en.to.toNat < u.blocks.length := by omega
      simp [d34, hg', m5s, h4.1, h4']
      refine ⟨?_, fun h1 h2 => absurd hg' (by simp [h1, h2])⟩
      refine (jn _ _ _).k ?_
      rintro x H3 ⟨rfl, rfl⟩
      simp
      exact ⟨by simp [hcs], by simp, by simp, by simp, rfl, by congr 2; exact boolC_congr fun x _ => by simp [hg]⟩
    · have hg' : ¬ (k.en.kind = 1 ∨ k.en.kind = 2) := by simpa [goes] using hg
      simp [hg']
      exact fun _ _ => ⟨by simp [hcs], by simp, by simp, by simp, rfl, by congr 2; exact boolC_congr fun x _ => by simp [hg]⟩
  rintro ⟨en, ds⟩ H2 ⟨e0, e1, e5, e6, rfl, rfl⟩
  dsimp only at e0 e1 e5 e6
  rw [hcs] at e0
  refine CW.cut (bhM Hb (refC u p I) b r5 r6 u.regs.toNat (fun r => (goes k.en && I k.en.to.toNat r) || (branches k.en && I k.en.els.toNat r))) ?_ ?_
  · refine CW.walk1 hX mixed d34 rfl ?_
    simp [e5, m5s]
    refine (endElse_c hX _ _).k ?_
    rintro x H2 ⟨rfl, rfl⟩
    by_cases hg : branches k.en = true
    · have hg' : k.en.kind = 2 := by simpa [branches] using hg
      have h4 := g5 hg'
      have h4' : k.en.els.toNat < u.blocks.length := by omega
      simp [d34, e0, e5, e6, hg', m5s, h4.1, h4']
      refine (jn _ _ _).k ?_
      rintro x H3 ⟨rfl, rfl⟩
      simp
      exact ⟨by simp [e0, hcs], by simp [e1], by simp [e5], by simp [e6], rfl, by congr 2; exact boolC_congr fun x _ => by simp [hg]⟩
    · have hg' : ¬ (k.en.kind = 2) := by simpa [branches] using hg
      simp [hg']
      exact ⟨by simp [e0, hcs], by simp [e1], by simp [e5], by simp [e6], rfl, by congr 2; exact boolC_congr fun x _ => by simp [hg]⟩
  clear e0 e1 e5 e6
  rintro ⟨en, ds⟩ H2 ⟨e0, e1, e5, e6, rfl, rfl⟩
  dsimp only at e0 e1 e5 e6
  rw [hcs] at e0
  refine CW.cut (bhM Hb (refC u p I) b r5 r6 u.regs.toNat (behP u p I k)) ?_ ?_
  · refine CW.walk1 hX mixed d34 rfl ?_
    have hme := fun H => mayEnd62_c hX k.en u.regs.toNat p ⟨g1, g2⟩ (fun q => by have := g3 q; omega) H
    simp only [endC] at hme
    simp [d34, e0, e5, m5s]
    refine (hme _).k ?_
    rintro x H2 ⟨rfl, rfl⟩
    by_cases hm : mayEnd p k.en = true
    · by_cases hc : 0 ≤ k.catch_
      · have hcl : k.catch_.toNat < u.blocks.length := by omega
        simp [d34, hm, hc, e0, e5, e6, m5s, hcl]
        refine (jn _ _ _).k ?_
        rintro x H3 ⟨rfl, rfl⟩
        simp
        exact ⟨by simp [e0, hcs], by simp [e1], by simp [e5], by simp [e6], rfl, by
          congr 2
          exact boolC_congr fun x _ => by
            have : decide ((x : Int) = u.code) = (x == u.code.toNat) := by rw [Bool.eq_iff_iff]; simp; omega
            simp [behP, catchP, hm, hc, this, Bool.and_comm, bne]⟩
      · have hcf : ¬ 0 ≤ k.catch_ := hc
        simp [hm, hc, e5, m5s]
        exact ⟨by simp [e0, hcs], by simp [e1], by simp [e5], by simp [e6], rfl, by congr 2; exact boolC_congr fun x _ => by simp [behP, catchP, hc]⟩
    · simp [hm]
      exact ⟨by simp [e0, hcs], by simp [e1], by simp [e5], by simp [e6], rfl, by congr 2; exact boolC_congr fun x _ => by simp [behP, hm]⟩
  clear e0 e1 e5 e6
  rintro ⟨en, ds⟩ H2 ⟨e0, e1, e5, e6, rfl, rfl⟩
  dsimp only at e0 e1 e5 e6
  refine CW.walk1 hX mixed d34 rfl ?_
  simp [e6]
  exact ⟨_, hleb.set, r6, n6, rfl, rfl⟩
structure asM (Hb : Hp) (cs : List CV) (b t r7 r8 r9 n : Nat) (f : Nat → Bool) (s' : CA) (H' : Hp) : Prop where
  ex : s'.env 0 = .iptr cs ∧ s'.env 1 = .int .i64 b ∧ s'.env 2 = .int .i64 t ∧ s'.env 7 = .ptr r7 0 ∧ s'.env 8 = .ptr r8 0 ∧ s'.env 9 = .ref r9 0 n n ∧ s'.ds = [] ∧ H' = Hb.set r9 (.cells (boolC n f))
theorem aside69_c (hX : CxOk (cx W G)) (u : UUnit) (hw : wfU u = true) (p : Nat → Bool) (I : Nat → Nat → Bool) (b t : Nat) (k : UBlk) (hk : u.blocks[b]? = some k) (o : UOp) (ho : k.ops[t]? = some o) (H : Hp) :
    CC Tryz.prog W 37 [.iptr (refC u p I), .int .i64 b, .int .i64 t] H fun x H' => ∃ r, H r = none ∧ x = .ret (.ref r 0 u.regs.toNat u.regs.toNat) ∧ H' = H.set r (.cells (boolC u.regs.toNat (asideP u p I k o))) := by
  obtain ⟨f1, f2, f3, f4, f5, f6, f7, f8, f9, f10, f11⟩ := wfU_facts hw
  obtain ⟨hct, _, hwo, hwe⟩ := wfB_facts hw hk
  obtain ⟨w1, w2, w3, w4, w5, w6, w7, w8, w9⟩ := wfO_facts (hwo o (List.mem_of_getElem? ho)) f3
  have hb := (List.getElem?_eq_some_iff.1 hk).1
  have hbe := (List.getElem?_eq_some_iff.1 hk).2
  have htl := (List.getElem?_eq_some_iff.1 ho).1
  have hte := (List.getElem?_eq_some_iff.1 ho).2
  refine CC.shrink ?_
  refine CC.of_cw hX Tryz.func37 rfl rfl (Nat.le_of_ble_eq_true rfl) ?_
  refine CW.walk hX mixed d37 rfl ?_
  simp
  refine CW.walk hX mixed d37 rfl ?_
  simp [d37, refC, unitC, hb, hbe, blkC]
  intro r7 n7
  refine CW.walk hX mixed d37 rfl ?_
  simp [d37, htl, hte, opC]
  intro r8 p1 p2 n8
  generalize hHb : Hp.set _ r8 _ = Hb
  have hleb : Le H Hb := by rw [← hHb]; exact (Le.set_new n7).trans (Le.set_new (by rw [hset_ne p1]; exact n8))
  have m7 : Hb r7 = some (.cells (blkC k)) := by rw [← hHb]; simp [Hp.set, p2, blkC]
  have m8 : Hb r8 = some (.cells (opC o)) := by rw [← hHb]; exact set_at
  clear hHb n7 n8 p1 p2
  simp only [blkC, blkT] at m7
  simp only [opC] at m8
  refine CW.walk hX mixed d37 rfl ?_
  simp
  refine ⟨by omega, by omega, by omega, fun r9 n9 => ?_⟩
  rw [zeroB]
  have n9H := hleb.none n9
  have jn : ∀ (f : Nat → Bool) (t : Nat) (but : Int), CC Tryz.prog W 36 [.ref r9 0 u.regs.toNat u.regs.toNat, .sl 1 (boolS u.regs.toNat (I t)), ci but] (Hb.set r9 (.cells (boolC u.regs.toNat f))) _ := fun f t but => join66_c hX u.regs.toNat r9 f (I t) but (.sl 1 (boolS u.regs.toNat (I t))) (H := Hb.set r9 (.cells (boolC u.regs.toNat f))) set_at (.inl rfl) (by omega)
  have hcs : refC u p I = [.sl 1 (u.sizes.map fun n => [ci n]), ci u.params, ci u.regs, ci u.code, ci u.spill, .sl 6 (u.blocks.map blkC), .sl 1 (boolS u.regs.toNat p), .sl 1 (insS u.blocks.length u.regs.toNat I)] := rfl
  have m7s : ∀ x, (Hb.set r9 x) r7 = some (.cells [.sl 7 (k.ops.map opC), ci k.en.kind, ci k.en.a, ci k.en.to, ci k.en.els, ci k.catch_]) := fun x => by rw [hset_ne (fun q => by rw [q, n9] at m7; cases m7)]; exact m7
  have m8s : ∀ x, (Hb.set r9 x) r8 = some (.cells [ci o.kind, ci o.dst, ci o.a, ci o.b, ci o.c, ci o.n, ci o.guard]) := fun x => by rw [hset_ne (fun q => by rw [q, n9] at m8; cases m8)]; exact m8
  refine CW.cut (asM Hb (refC u p I) b t r7 r8 r9 u.regs.toNat (fun r => decide (o.kind = 21) && I o.n.toNat r)) ?_ ?_
  · refine CW.walk1 hX mixed d37 rfl ?_
    by_cases h21 : o.kind = 21
    · have h4 := w6 h21
      have h4' : o.n.toNat < u.blocks.length := by omega
      simp [d37, m8s, h21, h4.1, h4']
      refine (jn _ _ _).k ?_
      rintro x H3 ⟨rfl, rfl⟩
      simp
      exact ⟨by simp [hcs], by simp, by simp, by simp, by simp, by simp, rfl, by congr 2; exact boolC_congr fun x _ => by simp [h21]⟩
    · simp [d37, m8s, h21]
      exact ⟨by simp [hcs], by simp, by simp, by simp, by simp, by simp, rfl, by first | rfl | (congr 2; exact boolC_congr fun x _ => by simp [h21])⟩
  rintro ⟨en, ds⟩ H2 ⟨e0, e1, e2, e7, e8, e9, rfl, rfl⟩
  dsimp only at e0 e1 e2 e7 e8 e9
  rw [hcs] at e0
  refine CW.cut (asM Hb (refC u p I) b t r7 r8 r9 u.regs.toNat (asideP u p I k o)) ?_ ?_
  · refine CW.walk1 hX mixed d37 rfl ?_
    have hme := fun H => may63_c hX o u.regs.toNat p H (fun q => by have := w5 q; omega) (fun q => by have := w8 q; omega)
    simp only [opC] at hme
    simp [d37, e0, e7, e8, m8s]
    refine (hme _).k ?_
    rintro x H2 ⟨rfl, rfl⟩
    by_cases hm : mayTrap p o = true
    · by_cases hc : 0 ≤ k.catch_
      · have hcl : k.catch_.toNat < u.blocks.length := by omega
        simp [d37, hm, hc, e0, e7, e9, m7s, hcl]
        refine (jn _ _ _).k ?_
        rintro x H3 ⟨rfl, rfl⟩
        simp
        exact ⟨by simp [e0, hcs], by simp [e1], by simp [e2], by simp [e7], by simp [e8], by simp [e9], rfl, by
          congr 2
          exact boolC_congr fun x _ => by
            have : decide ((x : Int) = u.code) = (x == u.code.toNat) := by rw [Bool.eq_iff_iff]; simp; omega
            simp [asideP, catchP, hm, hc, this, Bool.and_comm, bne]⟩
      · simp [d37, hm, hc, e7, m7s]
        exact ⟨by simp [e0, hcs], by simp [e1], by simp [e2], by simp [e7], by simp [e8], by simp [e9], rfl, by congr 2; exact boolC_congr fun x _ => by simp [asideP, catchP, hc]⟩
    · simp [hm]
      exact ⟨by simp [e0, hcs], by simp [e1], by simp [e2], by simp [e7], by simp [e8], by simp [e9], rfl, by congr 2; exact boolC_congr fun x _ => by simp [asideP, hm]⟩
  clear e0 e1 e2 e7 e8 e9
  rintro ⟨en, ds⟩ H2 ⟨e0, e1, e2, e7, e8, e9, rfl, rfl⟩
  dsimp only at e0 e1 e2 e7 e8 e9
  refine CW.walk1 hX mixed d37 rfl ?_
  simp [e9]
  exact ⟨_, hleb.set, r9, n9H, rfl, rfl⟩
end Go.Cl
