/- DERIVED HERE. Plain: both ways to the greatest number of live registers are one. DERIVED HERE. Most and All, where the unit lies in blocks; where it is not right. DERIVED HERE. The reference's Of, where the unit lies in blocks. DERIVED HERE. LiveAll. -/
import Derived.Test.YtoophlkbngagcaaGreatDoorRQ
import Derived.Test.YtoophlkbngagcaaGreatDoorMQ
import Derived.Test.YtoophlkbngagcaaGreatDoorLLs
import Derived.Test.YtoophlkbngagcaaGreatDoorTAq
import Derived.Test.YtoophlkbngagcaaGreatDoorRF
import Derived.Test.YtoophlkbngagcaaGreatDoorCP
set_option linter.unusedSimpArgs false
set_option linter.unusedVariables false
namespace Go.Cl.Gd
end Go.Cl.Gd
set_option linter.unusedSimpArgs false
set_option linter.unusedVariables false
namespace Go.Cl.Gd
open Go.Proofs
variable {W : World} {G : Nat → CV}
set_option maxRecDepth 8000
end Go.Cl.Gd
set_option linter.unusedSimpArgs false
set_option linter.unusedVariables false
namespace Go.Cl.Gd
open Go.Proofs
variable {W : World} {G : Nat → CV}
set_option maxRecDepth 8000
/-- What of a reference's Live is looked at from outside: its sets. -/
structure LRw (H : Hp) (u : UUnit) (p : Nat → Bool) (I : Nat → Nat → Bool) (lp ri ci : Nat) (σ : Nat → Nat) : Prop where
  l : ∃ cs, H lp = some (.cells cs) ∧ cs.length = 8 ∧ cs[7]? = some (.ref ri 0 u.blocks.length ci)
  n : u.blocks.length ≤ ci
  i : ∃ xs, H ri = some (.cells xs) ∧ ∀ b, b < u.blocks.length → xs[b]? = some (.ref (σ b) 0 u.regs.toNat u.regs.toNat)
  s : ∀ b, b < u.blocks.length → H (σ b) = some (.cells (boolC u.regs.toNat (I b)))
theorem boolC_wk {n : Nat} {f : Nat → Bool} : (boolC n f).map wkC = boolC n f := by
  simp only [boolC, List.map_map]
  exact List.map_congr_left fun x _ => rfl
theorem LRw.wk {H : Hp} {u : UUnit} {p : Nat → Bool} {I : Nat → Nat → Bool} {lp ri ci : Nat} {σ : Nat → Nat} (h : LRw H u p I lp ri ci σ) : LRw (wkH H) u p I lp ri ci σ := by
  obtain ⟨cs, h1, h2, h3⟩ := h.l
  obtain ⟨xs, g1, g2⟩ := h.i
  refine ⟨⟨_, wkH_at h1, by simpa using h2, by rw [List.getElem?_map, h3]; rfl⟩, h.n, ⟨_, wkH_at g1, fun b hb => by rw [List.getElem?_map, g2 b hb]; rfl⟩, fun b hb => ?_⟩
  rw [wkH_at (h.s b hb), boolC_wk]
theorem LRw.mono {H H' : Hp} {u : UUnit} {p : Nat → Bool} {I : Nat → Nat → Bool} {lp ri ci : Nat} {σ : Nat → Nat} (h : LRw H u p I lp ri ci σ) (hl : Le H H') : LRw H' u p I lp ri ci σ := by
  obtain ⟨cs, h1, h2, h3⟩ := h.l
  obtain ⟨xs, g1, g2⟩ := h.i
  exact ⟨⟨cs, hl _ _ h1, h2, h3⟩, h.n, ⟨xs, hl _ _ g1, g2⟩, fun b hb => hl _ _ (h.s b hb)⟩
theorem LR.w {H : Hp} {lp rp ri ci : Nat} {σ : Nat → Nat} {ex : List CV} {u : UUnit} {p : Nat → Bool} {I : Nat → Nat → Bool} (h : LR H lp rp ri ci σ ex u p I) : LRw H u p I lp ri ci σ :=
  ⟨⟨_, h.l, by simp [unitC], by simp [unitC]⟩, h.n, ⟨_, h.i, fun b hb => by rw [List.getElem?_append_left (by simp [refsC]; exact hb), refsC_get hb]⟩, h.s⟩
end Go.Cl.Gd
set_option linter.unusedSimpArgs false
set_option linter.unusedVariables false
namespace Go.Cl.Gd
open Go.Proofs
variable {W : World} {G : Nat → CV}
set_option maxRecDepth 8000
end Go.Cl.Gd
