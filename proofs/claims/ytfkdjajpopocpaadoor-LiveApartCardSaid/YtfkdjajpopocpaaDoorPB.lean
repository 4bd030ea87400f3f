/- DERIVED HERE. The program's Apart. -/
import Derived.Test.YtfkdjajpopocpaaDoorPA
import Derived.Test.YtfkdjajpopocpaaDoorTC
set_option linter.unusedSimpArgs false
set_option linter.unusedVariables false
namespace Go.Cl
open Go.Proofs
variable {W : World} {G : Nat → CV}
set_option maxRecDepth 8000
set_option maxHeartbeats 4000000
theorem apart36_h (hX : CxOk (cx W G)) (hG : G 0 = .iptr formsC) (u : UUnit) (hu : wfU u = true) {H : Hp} {lp rr rc ri cci : Nat} {σ : Nat → Nat} {ex : List CV} {p c : Nat → Bool} {I : Nat → Nat → Bool} (hL : LH H lp rr rc ri cci σ ex u p c I) (a b : Int) (ha : 0 ≤ a ∧ a < u.regs) (hb : 0 ≤ b ∧ b < u.regs) (hab : a ≠ b) :
    CC Tryd.prog W 36 [.ptr lp 0, ci a, ci b] H fun x H' => x = .ret (.bool (apartP u p I a b)) ∧ H' = H := by
  refine (CC.freeze (args' := [.iptr (liveC u u.regs.toNat p u.spill.toNat c I), ci a, ci b]) (R := fun v => v = .bool (apartP u p I a b)) (by rfl) ?_ ?_ ?_).mono ?_
  · intro j x y hx hy
    rcases j with _|_|_|j
    · simp at hx hy; subst hx; subst hy; exact hL.fz
    · simp at hx hy; subst hx; subst hy; exact .same _
    · simp at hx hy; subst hx; subst hy; exact .same _
    · simp at hx
  · rintro v rfl; simp [plainV]
  · intro w hw
    exact (apart36_c (W := w) (CxOk.later hX hw) hG u hu p _ c I a b ha hb hab _).mono fun x H' h1 => ⟨_, h1, rfl⟩
  · rintro x H2 ⟨v, rfl, rfl, rfl⟩
    exact ⟨rfl, rfl⟩
def notTwo (u : UUnit) (a b : Int) : Prop := a < 0 ∨ b < 0 ∨ u.regs ≤ a ∨ u.regs ≤ b ∨ a = b
/-- What live.Apart says. -/
structure LaR (H : Hp) (u : UUnit) (a b : Int) (x : CE) (H' : Hp) : Prop where
  le : Le H H'
  er : errU u ≠ 0 → x = .ret (.tuple [.bool false, ci (errU u)])
  no : errU u = 0 → notTwo u a b → x = .ret (.tuple [.bool false, ci 2])
  ok : errU u = 0 → ¬ notTwo u a b → ∃ p c I, PLeast (opsOf u) p c ∧ LLeast u p I ∧ x = .ret (.tuple [.bool (apartP u p I a b), ci 0])
theorem liveE_c (hX : CxOk (cx W G)) (hG : G 0 = .iptr formsC) (u : UUnit) (hu : UOk u) (he : errU u ≠ 0) (H : Hp) : CC Tryd.prog W 32 [.agg (unitC u)] H fun x H' => x = .ret (.tuple [.nilptr, ci (errU u)]) ∧ H' = H := by
  refine CC.shrink ?_
  refine CC.of_ev hX mixed d32 Tryd.func32 rfl rfl (Nat.le_of_ble_eq_true rfl) d32_ok ?_
  simp [Tryd.f32, d32, unitC]
  intro q1 hq1
  have hc := check_e hX hG u hu (H.set q1 (.cells (unitC u)))
  simp only [unitC] at hc
  refine hc.k ?_
  rintro x H2 ⟨rfl, rfl⟩
  simp [he]
  exact Le.set_new hq1
theorem apart22_c (hX : CxOk (cx W G)) (hG : G 0 = .iptr formsC) (u : UUnit) (hu : UOk u) (a b : Int) (H : Hp) : CC Tryd.prog W 22 [.agg (unitC u), ci a, ci b] H (LaR H u a b) := by
  refine CC.of_cw hX Tryd.func22 rfl rfl (Nat.le_of_ble_eq_true rfl) ?_
  refine CW.walk hX mixed d22 rfl ?_
  simp
  intro q3 n3
  have m3 : (H.set q3 (.cells (unitC u))) q3 = some (.cells (unitC u)) := set_at
  have l3 : Le H (H.set q3 (.cells (unitC u))) := Le.set_new n3
  generalize H.set q3 (.cells (unitC u)) = H1 at m3 l3 ⊢
  have m3' := m3
  simp only [unitC] at m3'
  by_cases he : errU u = 0
  rotate_left
  · have h32 := liveE_c hX hG u hu he H1
    simp only [unitC] at h32
    refine CW.walk hX mixed d22 rfl ?_
    simp [m3']
    refine h32.k ?_
    rintro x H2 ⟨rfl, rfl⟩
    simp
    refine CW.walk1 hX mixed d22 rfl ?_
    simp [he]
    exact ⟨l3, fun _ => rfl, fun h => absurd h he, fun h => absurd h he⟩
  have hwf : wfU u = true := errU_wf.1 he
  have h32 := liveOf_c hX hG u hwf H1
  simp only [unitC] at h32
  refine CW.walk hX mixed d22 rfl ?_
  simp [m3']
  refine h32.k ?_
  rintro x H2 ⟨lp, rr, rc, ri, cci, σ, ex, p, c, I, rfl, hle, hpl, hll, hbd, hL⟩
  simp
  have m32 := hle _ _ m3'
  have hl2 := l3.trans hle
  have no : notTwo u a b → LaR H u a b (.ret (.tuple [.bool false, ci 2])) H2 := fun h => ⟨hl2, fun q => absurd he q, fun _ _ => rfl, fun _ q => absurd h q⟩
  refine CW.cut (fun s' H' => ¬ notTwo u a b ∧ s'.env 1 = ci a ∧ s'.env 2 = ci b ∧ s'.env 8 = .ptr lp 0 ∧ s'.ds = [] ∧ H' = H2) ?_ ?_
  · refine CW.walk1 hX mixed d22 rfl ?_
    by_cases h1 : a < 0
    · simp [d22, h1]
      exact no (.inl h1)
    by_cases h2 : b < 0
    · simp [d22, h1, h2]
      exact no (.inr (.inl h2))
    by_cases h3 : u.regs ≤ a
    · simp [d22, h1, h2, h3, m32]
      exact no (.inr (.inr (.inl h3)))
    by_cases h4 : u.regs ≤ b
    · simp [d22, h1, h2, h3, h4, m32]
      exact no (.inr (.inr (.inr (.inl h4))))
    by_cases h5 : a = b
    · simp [d22, h1, h2, h3, h4, h5, m32]
      have := no (.inr (.inr (.inr (.inr h5))))
      simp [h5] at this
      exact this
    · simp [d22, h1, h2, h3, h4, h5, m32]
      exact fun h => by rcases h with h | h | h | h | h <;> contradiction
  rintro ⟨e, ds⟩ H3 ⟨hn, e1, e2, e8, rfl, rfl⟩
  dsimp only at e1 e2 e8
  have hnn : ¬ a < 0 ∧ ¬ b < 0 ∧ ¬ u.regs ≤ a ∧ ¬ u.regs ≤ b ∧ a ≠ b := by simpa [notTwo] using hn
  refine CW.walk1 hX mixed d22 rfl ?_
  simp [e1, e2, e8]
  refine (apart36_h hX hG u hwf hL a b ⟨by omega, by omega⟩ ⟨by omega, by omega⟩ hnn.2.2.2.2).k ?_
  rintro x H4 ⟨rfl, rfl⟩
  simp
  exact ⟨hl2, fun q => absurd he q, fun _ q => absurd q hn, fun _ _ => ⟨p, c, I, hpl, hll, rfl⟩⟩
end Go.Cl
