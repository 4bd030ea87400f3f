/- DERIVED HERE. LiveApart. -/
import Derived.Test.YtfkdjajpopocpaaDoorTM
import Derived.Test.YtfkdjajpopocpaaDoorCP
import Derived.Test.YtfkdjajpopocpaaDoorPB
import Derived.Test.YtfkdjajpopocpaaDoorRAp
set_option linter.unusedSimpArgs false
set_option linter.unusedVariables false
namespace Go.Cl
open Go.Proofs
variable {W : World} {G : Nat → CV}
set_option maxRecDepth 8000
theorem fzThree {H : Hp} {x y : CV} (h : Fz H x y) (a b : CV) : ∀ (i : Nat) p q, [x, a, b][i]? = some p → [y, a, b][i]? = some q → Fz H p q := by
  intro i p q hp hq
  rcases i with _|_|_|i
  · simp at hp hq; subst hp; subst hq; exact h
  · simp at hp hq; subst hp; subst hq; exact .same _
  · simp at hp hq; subst hp; subst hq; exact .same _
  · simp at hp
/-- What live.Apart says, told of the value alone. -/
structure LaV (u : UUnit) (a b : Int) (v : CV) : Prop where
  er : errU u ≠ 0 → v = .tuple [.bool false, ci (errU u)]
  no : errU u = 0 → notTwo u a b → v = .tuple [.bool false, ci 2]
  ok : errU u = 0 → ¬ notTwo u a b → ∃ p c I, PLeast (opsOf u) p c ∧ LLeast u p I ∧ v = .tuple [.bool (apartP u p I a b), ci 0]
theorem LaR.v {H H' : Hp} {u : UUnit} {a b : Int} {x : CE} (h : LaR H u a b x H') : ∃ v, x = .ret v ∧ LaV u a b v := by
  by_cases he : errU u = 0
  · by_cases hn : notTwo u a b
    · exact ⟨_, h.no he hn, fun q => absurd he q, fun _ _ => rfl, fun _ q => absurd hn q⟩
    · obtain ⟨p, c, I, h1, h2, h3⟩ := h.ok he hn
      exact ⟨_, h3, fun q => absurd he q, fun _ q => absurd q hn, fun _ _ => ⟨p, c, I, h1, h2, rfl⟩⟩
  · exact ⟨_, h.er he, fun _ => rfl, fun q => absurd q he, fun q => absurd q he⟩
theorem LaV.plain {u : UUnit} {a b : Int} {v : CV} (h : LaV u a b v) : plainV v = true := by
  by_cases he : errU u = 0
  · by_cases hn : notTwo u a b
    · rw [h.no he hn]; simp [plainV]
    · obtain ⟨p, c, I, h1, h2, rfl⟩ := h.ok he hn
      simp [plainV]
  · rw [h.er he]; simp [plainV]
theorem apart22_f (hX : CxOk (cx W G)) (hG : G 0 = .iptr formsC) {u : UUnit} (hu : UOk u) {H : Hp} {cs : List CV} (hf : Fz H (.agg cs) (.agg (unitC u))) (a b : Int) : CC Tryd.prog W 22 [.agg cs, ci a, ci b] H fun x H' => ∃ v, x = .ret v ∧ LaV u a b v ∧ H' = H := by
  refine (CC.freeze (args' := [.agg (unitC u), ci a, ci b]) (R := LaV u a b) (by rfl) (fzThree hf _ _) (fun v h => h.plain) fun w hw => ?_)
  exact (apart22_c (W := w) (CxOk.later hX hw) hG u hu a b _).mono fun x H' h => h.v
theorem rapart25_f (hX : CxOk (cx W G)) {u : UUnit} (hu : wfU u = true) {H : Hp} {cs : List CV} (hf : Fz H (.agg cs) (.agg (unitC u))) (a b : Int) (ha : 0 ≤ a ∧ a < u.regs) (hb : 0 ≤ b ∧ b < u.regs) (hab : a ≠ b) : CC Tryd.prog W 25 [.agg cs, ci a, ci b] H fun x H' => ∃ v, x = .ret v ∧ (∃ p c I, v = .bool (apartP u p I a b) ∧ PLeast (opsOf u) p c ∧ LLeast u p I) ∧ H' = H := by
  refine (CC.freeze (args' := [.agg (unitC u), ci a, ci b]) (R := fun v => ∃ p c I, v = .bool (apartP u p I a b) ∧ PLeast (opsOf u) p c ∧ LLeast u p I) (by rfl) (fzThree hf _ _) (by rintro v ⟨p, c, I, rfl, _⟩; simp [plainV]) fun w hw => ?_)
  exact (rapart25_c (W := w) (CxOk.later hX hw) u hu a b ha hb hab _).mono fun x H' ⟨p, c, I, h1, h2, h3, h4⟩ => ⟨_, h1, p, c, I, rfl, h3, h4⟩
theorem liveApart_c (hX : CxOk (cx W G)) (hG : G 0 = .iptr formsC) (u0 : UUnit) (a b : Int) (H : Hp) : CC Tryd.prog W 5 [.agg (unitC u0), ci a, ci b] H fun x H' => x = .ret (.bool true) ∧ H' = H := by
  refine CC.shrink ?_
  refine CC.of_cw hX Tryd.func5 rfl rfl (Nat.le_of_ble_eq_true rfl) ?_
  refine CW.walk hX mixed d5 rfl ?_
  simp
  intro q3 hq3
  refine CW.walk hX mixed d5 rfl ?_
  simp [unitC]
  have hc := small_c hX u0 (H.set q3 (.cells (unitC u0)))
  simp only [unitC] at hc
  refine hc.k ?_
  rintro x H1 ⟨cs, rfl, hle1, huv⟩
  obtain ⟨v0, v5, rfl, hb5⟩ := huv.b
  have hfz := huv.f
  have hok := small_ok u0
  clear huv hc hb5
  have m3 : H1 q3 = some (.cells (unitC u0)) := hle1 _ _ set_at
  have hle1 := (Le.set_new hq3).trans hle1
  generalize cutU u0 60 600 = u at hfz hok ⊢
  simp
  intro q7 hq7
  have k37 : q3 ≠ q7 := fun e => by rw [← e, m3] at hq7; cases hq7
  generalize hH2 : H1.set q7 _ = H2
  have hle2 : Le H1 H2 := by rw [← hH2]; exact Le.set_new hq7
  have m7 : H2 q7 = some (.cells [v0, ci u.params, ci u.regs, ci u.code, ci u.spill, v5]) := by rw [← hH2]; exact set_at
  have m32 := hle2 _ _ m3
  clear hH2
  have hfz2 := hfz.mono hle2
  have hle2 := hle1.trans hle2
  clear hfz hq7 m3 hq3
  simp only [unitC] at m32
  by_cases hsm : ¬ u0.regs ≤ 200 ∧ u0.regs ≤ 4096
  · obtain ⟨h1, h2⟩ := hsm
    refine CW.walk hX mixed d5 rfl ?_
    simp [h1, h2, m32]
    refine (alive_c hX hG _).k ?_
    rintro x H3 ⟨rfl, rfl⟩
    simp
    exact hle2
  refine CW.cut (fun s' H' => s'.env 1 = ci a ∧ s'.env 2 = ci b ∧ s'.env 7 = .ptr q7 0 ∧ s'.ds = [] ∧ H' = H2) ?_ ?_
  · refine CW.walk1 hX mixed d5 rfl ?_
    by_cases h1 : u0.regs ≤ 200
    · simp [h1]
    · have h2 : ¬ u0.regs ≤ 4096 := fun h => hsm ⟨h1, h⟩
      simp [h1, h2, m32]
  rintro ⟨e, ds⟩ H2' ⟨e1, e2, e7, rfl, rfl⟩
  dsimp only at e1 e2 e7
  clear hsm m32
  refine CW.walk hX mixed d5 rfl ?_
  simp [e1, e2, e7, m7]
  refine (copy_f hX hok hfz2).k ?_
  rintro x H3 ⟨cs', rfl, hle3, huv3⟩
  have hl6 := huv3.l
  simp [e1, e2, e7]
  refine (apart22_f hX hG (cutOk_uok hok) huv3.f a b).k ?_
  rintro x H4 ⟨va, rfl, hva, rfl⟩
  have m73 := hle3 _ _ m7
  have hfz3 := hfz2.mono hle3
  have hle3 := hle2.trans hle3
  clear huv3 hfz2 m7
  by_cases he : errU u = 0
  rotate_left
  · obtain rfl := hva.er he
    simp
    refine CW.walk hX mixed d5 rfl ?_
    simp [e7, m73]
    refine (check24_f hX (cutOk_uok hok) hfz3).k ?_
    rintro x H5 ⟨rfl, rfl⟩
    simp [he]
    refine (alive_c hX hG _).k ?_
    rintro x H6 ⟨rfl, rfl⟩
    simp
    exact hle3
  have hwf : wfU u = true := errU_wf.1 he
  by_cases hn : notTwo u a b
  · obtain rfl := hva.no he hn
    simp
    refine CW.walk hX mixed d5 rfl ?_
    simp [e7, m73]
    refine (check24_f hX (cutOk_uok hok) hfz3).k ?_
    rintro x H5 ⟨rfl, rfl⟩
    simp [he]
    have hal := (alive_c hX hG H5)
    refine CW.cut (fun s' H' => False) ?_ (fun _ _ h => h.elim)
    refine CW.walk1 hX mixed d5 rfl ?_
    by_cases h1 : a < 0
    · simp [d5, h1, e1, e2, e7, m73]
      refine hal.k ?_
      rintro x H6 ⟨rfl, rfl⟩
      simp
      exact hle3
    by_cases h2 : u.regs ≤ a
    · simp [d5, h1, h2, e1, e2, e7, m73]
      refine hal.k ?_
      rintro x H6 ⟨rfl, rfl⟩
      simp
      exact hle3
    by_cases h3 : b < 0
    · simp [d5, h1, h2, h3, e1, e2, e7, m73]
      refine hal.k ?_
      rintro x H6 ⟨rfl, rfl⟩
      simp
      exact hle3
    by_cases h4 : u.regs ≤ b
    · simp [d5, h1, h2, h3, h4, e1, e2, e7, m73]
      refine hal.k ?_
      rintro x H6 ⟨rfl, rfl⟩
      simp
      exact hle3
    have h5 : a = b := by rcases hn with h | h | h | h | h <;> first | contradiction | exact h
    subst h5
    simp [d5, h1, h2, e1, e2, e7, m73]
    refine hal.k ?_
    rintro x H6 ⟨rfl, rfl⟩
    simp
    exact hle3
  obtain ⟨p, c, I, hp, hl, rfl⟩ := hva.ok he hn
  have hnn : ¬ a < 0 ∧ ¬ b < 0 ∧ ¬ u.regs ≤ a ∧ ¬ u.regs ≤ b ∧ a ≠ b := by simpa [notTwo] using hn
  obtain ⟨n1, n2, n3, n4, n5⟩ := hnn
  simp
  refine CW.walk hX mixed d5 rfl ?_
  simp [e7, m73]
  refine (check24_f hX (cutOk_uok hok) hfz3).k ?_
  rintro x H5 ⟨rfl, rfl⟩
  simp [he]
  refine CW.cut (fun s' H' => s'.env 1 = ci a ∧ s'.env 2 = ci b ∧ s'.env 7 = .ptr q7 0 ∧ s'.env 9 = .bool (apartP u p I a b) ∧ s'.env 10 = ci 0 ∧ s'.ds = [] ∧ H' = H5) ?_ ?_
  · refine CW.walk1 hX mixed d5 rfl ?_
    simp [d5, n1, n2, n3, n4, n5, e1, e2, e7, m73]
  rintro ⟨e', ds⟩ H6 ⟨e1, e2, e7, e9, e10, rfl, rfl⟩
  dsimp only at e1 e2 e7 e9 e10
  refine CW.walk1 hX mixed d5 rfl ?_
  simp [e1, e2, e7, e9, e10, m73]
  refine (rapart25_f hX hwf hfz3 a b ⟨by omega, by omega⟩ ⟨by omega, by omega⟩ n5).k ?_
  rintro x H7 ⟨v, rfl, ⟨p', c', I', rfl, hp', hl'⟩, rfl⟩
  obtain ⟨rfl, rfl⟩ := hp.unique hp'
  obtain rfl := hl.unique hl'
  simp [e10]
  refine (alive_c hX hG _).k ?_
  rintro x H8 ⟨rfl, rfl⟩
  simp
  exact hle3
end Go.Cl
