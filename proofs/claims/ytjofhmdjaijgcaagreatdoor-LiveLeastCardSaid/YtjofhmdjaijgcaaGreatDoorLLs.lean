/- DERIVED HERE. live.At, In and Last of any place. -/
import Derived.Test.YtjofhmdjaijgcaaGreatDoorTC
import Derived.Test.YtjofhmdjaijgcaaGreatDoorLQ
import Derived.Test.YtjofhmdjaijgcaaGreatDoorLAf
set_option linter.unusedSimpArgs false
set_option linter.unusedVariables false
namespace Go.Cl
open Go.Proofs
variable {W : World} {G : Nat → CV}
set_option maxRecDepth 8000
/-- No such place. -/
def noPl (u : UUnit) (b i : Int) : Prop := b < 0 ∨ (u.blocks.length : Int) ≤ b ∨ i < 0 ∨ ∃ k, u.blocks[b.toNat]? = some k ∧ (k.ops.length : Int) < i
theorem notBad {u : UUnit} {b i : Int} (h : ¬ noPl u b i) : ∃ (bn n : Nat) (k : UBlk), b = bn ∧ i = n ∧ u.blocks[bn]? = some k ∧ n ≤ k.ops.length := by
  simp only [noPl, not_or, not_exists, not_and] at h
  obtain ⟨h1, h2, h3, h4⟩ := h
  have hb : b.toNat < u.blocks.length := by omega
  have h5 := h4 _ (List.getElem?_eq_getElem hb)
  exact ⟨b.toNat, i.toNat, _, by omega, by omega, List.getElem?_eq_getElem hb, by omega⟩
theorem placeBad_c (hX : CxOk (cx W G)) (u : UUnit) (b i : Int) (h : noPl u b i) (H : Hp) : CC Tryz.prog W 43 [.agg (unitC u), ci b, ci i] H fun x H' => x = .ret (ci 2) ∧ H' = H := by
  refine CC.shrink ?_
  refine CC.of_ev hX mixed d43 Tryz.func43 rfl rfl (Nat.le_of_ble_eq_true rfl) d43_ok ?_
  by_cases h1 : b < 0
  · simp (config := {maxSteps := 4000000}) [Tryz.f43, d43, unitC, h1]
    exact fun r hr => Le.set_new hr
  by_cases h2 : (u.blocks.length : Int) ≤ b
  · simp (config := {maxSteps := 4000000}) [Tryz.f43, d43, unitC, h1, h2]
    exact fun r hr => Le.set_new hr
  by_cases h3 : i < 0
  · simp (config := {maxSteps := 4000000}) [Tryz.f43, d43, unitC, h1, h2, h3]
    exact fun r hr => Le.set_new hr
  obtain ⟨k, hk, h4⟩ : ∃ k, u.blocks[b.toNat]? = some k ∧ (k.ops.length : Int) < i := by
    rcases h with h | h | h | h
    · exact absurd h h1
    · exact absurd h h2
    · exact absurd h h3
    · exact h
  simp (config := {maxSteps := 4000000}) [Tryz.f43, d43, unitC, h1, h2, h3, hk, blkC, h4]
  refine fun r hr => ⟨by omega, ?_⟩
  exact Le.set_new hr
theorem liveErr_c (hX : CxOk (cx W G)) (hG : G 0 = .iptr formsC) (u : UUnit) (hu : UOk u) (he : errU u ≠ 0) (H : Hp) : CC Tryz.prog W 28 [.agg (unitC u)] H fun x H' => x = .ret (.tuple [.nilptr, ci (errU u)]) ∧ H' = H := by
  refine CC.shrink ?_
  refine CC.of_ev hX mixed d28 Tryz.func28 rfl rfl (Nat.le_of_ble_eq_true rfl) d28_ok ?_
  simp [Tryz.f28, d28, unitC]
  intro q1 hq1
  have hc := check_e hX hG u hu (H.set q1 (.cells (unitC u)))
  simp only [unitC] at hc
  refine hc.k ?_
  rintro x H2 ⟨rfl, rfl⟩
  simp [he]
  exact Le.set_new hq1
theorem at13_e (hX : CxOk (cx W G)) (hG : G 0 = .iptr formsC) (u : UUnit) (hu : UOk u) (he : errU u ≠ 0) (b i : Int) (H : Hp) : CC Tryz.prog W 21 [.agg (unitC u), ci b, ci i] H fun x H' => x = .ret (.tuple [.nilsl, ci (errU u)]) ∧ H' = H := by
  refine CC.shrink ?_
  refine CC.of_cw hX Tryz.func21 rfl rfl (Nat.le_of_ble_eq_true rfl) ?_
  refine CW.walk hX mixed d21 rfl ?_
  simp
  intro q3 hq3
  refine CW.walk hX mixed d21 rfl ?_
  simp [unitC]
  have hc := liveErr_c hX hG u hu he (H.set q3 (.cells (unitC u)))
  simp only [unitC] at hc
  refine hc.k ?_
  rintro x H2 ⟨rfl, rfl⟩
  simp
  refine CW.walk hX mixed d21 rfl ?_
  simp [he]
  refine CW.walk hX mixed d21 rfl ?_
  simp [he]
  exact Le.set_new hq3
theorem at13_b (hX : CxOk (cx W G)) (hG : G 0 = .iptr formsC) (u : UUnit) (hu : wfU u = true) (b i : Int) (hb : noPl u b i) (H : Hp) : CC Tryz.prog W 21 [.agg (unitC u), ci b, ci i] H fun x H' => x = .ret (.tuple [.nilsl, ci 2]) ∧ H' = H := by
  refine CC.shrink ?_
  refine CC.of_cw hX Tryz.func21 rfl rfl (Nat.le_of_ble_eq_true rfl) ?_
  refine CW.walk hX mixed d21 rfl ?_
  simp
  intro q3 hq3
  refine CW.walk hX mixed d21 rfl ?_
  simp [unitC]
  have hc := liveOf_c hX hG u hu (H.set q3 (.cells (unitC u)))
  simp only [unitC] at hc
  refine hc.k ?_
  rintro x H2 ⟨lp, rr, rc, ri, ci', σ, ex, p, c, I, rfl, hle, hp, hl, hbd, hL⟩
  have m3 := hle q3 _ set_at
  simp
  refine CW.walk hX mixed d21 rfl ?_
  simp [m3]
  have hpl := placeBad_c hX u b i hb H2
  simp only [unitC] at hpl
  refine hpl.k ?_
  rintro x H3 ⟨rfl, rfl⟩
  simp
  refine CW.walk hX mixed d21 rfl ?_
  simp
  exact (Le.set_new hq3).trans hle
/-- What is said of a place: an error, or a list of numbers. -/
structure AtR (u : UUnit) (b i : Int) (L : (Nat → Bool) → (Nat → Nat → Bool) → UBlk → Nat → List Int) (x : CE) (H' : Hp) : Prop where
  er : errU u ≠ 0 → x = .ret (.tuple [.nilsl, ci (errU u)])
  no : errU u = 0 → noPl u b i → x = .ret (.tuple [.nilsl, ci 2])
  ok : errU u = 0 → ∀ (bn n : Nat) k, b = bn → i = n → u.blocks[bn]? = some k → n ≤ k.ops.length → ∃ p c I v, PLeast (opsOf u) p c ∧ LLeast u p I ∧ Bnd u I ∧ x = .ret (.tuple [v, ci 0]) ∧ SlF H' v (L p I k n)
theorem pl_notBad {u : UUnit} {bn n : Nat} {k : UBlk} (hk : u.blocks[bn]? = some k) (hn : n ≤ k.ops.length) : ¬ noPl u bn n := by
  have := (List.getElem?_eq_some_iff.1 hk).1
  simp only [noPl, Int.toNat_natCast]
  rintro (h | h | h | ⟨k', h1, h2⟩)
  · omega
  · omega
  · omega
  · rw [hk] at h1; injection h1 with h1; subst h1; omega
section
variable {u : UUnit} {b i : Int} {L : (Nat → Bool) → (Nat → Nat → Bool) → UBlk → Nat → List Int} {x : CE} {H' : Hp}
theorem atR_e (he : errU u ≠ 0) (h : x = .ret (.tuple [.nilsl, ci (errU u)])) : AtR u b i L x H' := ⟨fun _ => h, fun q => absurd q he, fun q => absurd q he⟩
theorem atR_b (he : errU u = 0) (hb : noPl u b i) (h : x = .ret (.tuple [.nilsl, ci 2])) : AtR u b i L x H' := ⟨fun q => absurd he q, fun _ _ => h, fun _ bn n k h1 h2 hk hn => by subst h1; subst h2; exact absurd hb (pl_notBad hk hn)⟩
theorem atR_ok {bn n : Nat} {k : UBlk} {p c : Nat → Bool} {I : Nat → Nat → Bool} {v : CV} (he : errU u = 0) (hk : u.blocks[bn]? = some k) (hn : n ≤ k.ops.length) (h1 : PLeast (opsOf u) p c) (h2 : LLeast u p I) (h3 : Bnd u I) (h4 : x = .ret (.tuple [v, ci 0])) (h5 : SlF H' v (L p I k n)) : AtR u bn n L x H' :=
  ⟨fun q => absurd he q, fun _ hb => absurd hb (pl_notBad hk hn), fun _ bn' n' k' e1 e2 hk' hn' => by
    obtain rfl : bn = bn' := by omega
    obtain rfl : n = n' := by omega
    rw [hk] at hk'; injection hk' with hk'; subst hk'
    exact ⟨p, c, I, v, h1, h2, h3, h4, h5⟩⟩
theorem tup2_free {v : CV} {n : Int} (h : Free v) : FreeEnd (.ret (.tuple [v, ci n])) := by
  simp only [FreeEnd]
  refine .tuple _ fun i x hx => ?_
  rcases i with _|_|i
  · simp at hx; subst hx; exact h
  · simp at hx; subst hx; constructor
  · simp at hx
theorem AtR.free (h : AtR u b i L x H') : FreeEnd x := by
  by_cases he : errU u = 0
  · by_cases hb : noPl u b i
    · rw [h.no he hb]; exact tup2_free .nilsl
    · obtain ⟨bn, n, k, rfl, rfl, hk, hn⟩ := notBad hb
      obtain ⟨p, c, I, v, _, _, _, rfl, h5⟩ := h.ok he bn n k rfl rfl hk hn
      exact tup2_free h5.free
  · rw [h.er he]; exact tup2_free .nilsl
theorem AtR.wkm {H2 : Hp} (h : AtR u b i L x H') (hl : Le (wkH H') H2) : AtR u b i L x H2 :=
  ⟨h.er, h.no, fun he bn n k h1 h2 hk hn => by
    obtain ⟨p, c, I, v, a1, a2, a3, a4, a5⟩ := h.ok he bn n k h1 h2 hk hn
    exact ⟨p, c, I, v, a1, a2, a3, a4, a5.wk.mono hl⟩⟩
end
/-- What is live before an operation, as a list. -/
def liveL (u : UUnit) (p : Nat → Bool) (I : Nat → Nat → Bool) (k : UBlk) (n : Nat) : List Int := upto (beforeP u p I k (k.ops.drop n)) (64 * mOf u)
theorem at13_g (hX : CxOk (cx W G)) (hG : G 0 = .iptr formsC) (u : UUnit) (hu : UOk u) (b i : Int) (H : Hp) : CC Tryz.prog W 21 [.agg (unitC u), ci b, ci i] H fun x H' => AtR u b i (liveL u) x H' ∧ Le H H' := by
  by_cases he : errU u = 0
  · have hw : wfU u = true := errU_wf.1 he
    by_cases hb : noPl u b i
    · exact (at13_b hX hG u hw b i hb H).mono fun x H' ⟨h1, h2⟩ => ⟨atR_b he hb h1, by rw [h2]; exact Le.refl _⟩
    · obtain ⟨bn, n, k, rfl, rfl, hk, hn⟩ := notBad hb
      exact (at13_c hX hG u hw bn n k hk hn H).mono fun x H' ⟨p, c, I, v, h1, h2, h3, h4, h5, h6⟩ => ⟨atR_ok he hk hn h1 h2 h3 h4 h6, h5⟩
  · exact (at13_e hX hG u hu he b i H).mono fun x H' ⟨h1, h2⟩ => ⟨atR_e he h1, by rw [h2]; exact Le.refl _⟩
theorem in18_g (hX : CxOk (cx W G)) (hG : G 0 = .iptr formsC) (u : UUnit) (hu : UOk u) (b : Int) (H : Hp) : CC Tryz.prog W 25 [.agg (unitC u), ci b] H fun x H' => AtR u b 0 (liveL u) x H' ∧ Le H H' := by
  refine CC.of_ev hX mixed d25 Tryz.func25 rfl rfl (Nat.le_of_ble_eq_true rfl) d25_ok ?_
  simp [Tryz.f25, d25, unitC]
  intro q2 hq2
  have hc := at13_g hX hG u hu b 0 (H.set q2 (.cells (unitC u)))
  simp only [unitC] at hc
  refine hc.k ?_
  rintro x H2 ⟨hR, hle⟩
  have hle := (Le.set_new hq2).trans hle
  by_cases he : errU u = 0
  · by_cases hb : noPl u b 0
    · obtain rfl := hR.no he hb
      simp
      exact ⟨atR_b he hb rfl, hle⟩
    · obtain ⟨bn, n, k, rfl, h0, hk, hn⟩ := notBad hb
      obtain rfl : n = 0 := by omega
      obtain ⟨p, c, I, v, h1, h2, h3, rfl, h5⟩ := hR.ok he bn 0 k rfl rfl hk hn
      simp
      exact ⟨atR_ok (n := 0) he hk hn h1 h2 h3 rfl h5, hle⟩
  · obtain rfl := hR.er he
    simp
    exact ⟨atR_e he rfl, hle⟩
theorem after_h (hX : CxOk (cx W G)) (hG : G 0 = .iptr formsC) (u : UUnit) (hu : wfU u = true) {H : Hp} {lp rr rc ri cci : Nat} {σ : Nat → Nat} {ex : List CV} {p c : Nat → Bool} {I : Nat → Nat → Bool} (hL : LH H lp rr rc ri cci σ ex u p c I) (b : Nat) (k : UBlk) (hb : u.blocks[b]? = some k) (i : Nat) (hi : i ≤ k.ops.length) :
    CC Tryz.prog W 47 [.ptr lp 0, .int .i64 b, .int .i64 i] H fun x H' => ∃ r, H r = none ∧ x = .ret (.ref r 0 (mOf u) (mOf u)) ∧ H' = H.set r (.cells (setC (mOf u) (afterP u p I k i))) := by
  refine (CC.freeze2 (args' := [.iptr (liveC u u.regs.toNat p u.spill.toNat c I), .int .i64 b, .int .i64 i]) (R := fun x H' => ∃ r, x = .ret (.ref r 0 (mOf u) (mOf u)) ∧ H' = Hp.set (fun _ => none) r (.cells (setC (mOf u) (afterP u p I k i)))) (by rfl) ?_ ?_ ?_).mono ?_
  · intro j x y hx hy
    rcases j with _|_|_|j
    · simp at hx hy; subst hx; subst hy; exact hL.fz
    · simp at hx hy; subst hx; subst hy; exact .same _
    · simp at hx hy; subst hx; subst hy; exact .same _
    · simp at hx
  · rintro x H' ⟨r, rfl, rfl⟩
    refine ⟨.ref _ _ _ _, fun q o hq => ?_⟩
    simp only [Hp.set] at hq
    split at hq
    · injection hq with hq
      subst hq
      intro j y hy
      rw [setC_gets] at hy
      rw [← hy.2]
      exact .int _ _
    · cases hq
  · intro w hw
    exact (after_c (W := w) (CxOk.later hX hw) hG u hu p u.spill.toNat c I b k hb i hi _).mono fun x H' ⟨r, _, h1, h2⟩ => ⟨r, h1, h2⟩
  · rintro x H2 ⟨H', ⟨r, rfl, rfl⟩, hnew, rfl⟩
    have hr := hnew r _ (by simp [Hp.set]; rfl)
    exact ⟨r, hr, rfl, hun_one hr⟩
end Go.Cl
