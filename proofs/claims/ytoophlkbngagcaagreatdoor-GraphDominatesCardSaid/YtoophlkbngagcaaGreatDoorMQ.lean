/- DERIVED HERE. A code whose variables are frozen. DERIVED HERE. The program's Points, where the rounds write a block that was there before. DERIVED HERE. The program's Most. -/
import Derived.Test.YtoophlkbngagcaaGreatDoorRec
import Derived.Test.YtoophlkbngagcaaGreatDoorPT
import Derived.Test.YtoophlkbngagcaaGreatDoorGR
import Derived.Test.YtoophlkbngagcaaGreatDoorTAq
set_option linter.unusedSimpArgs false
set_option linter.unusedVariables false
namespace Go.Cl
open Go.Proofs Go.RowKit
section
variable {P : Program} {W : World} {N : Nat} {ρ : Option Nat} {Q : CP} {s : CA} {H : Hp}
/-- What of a frame's variables says the same wherever. -/
def plE (e : Env) : Env := fun t => if plainV (e t) then e t else .any
/-- The marks of a frame, alone. -/
def mkH : List CD → Hp
  | [] => fun _ => none
  | .mark r :: ds => (mkH ds).set r .dfr
  | .call _ _ _ :: ds => mkH ds
theorem mkH_in : ∀ {ds : List CD} {H : Hp}, MarksOk ds H (fun _ => none) → ∀ r o, mkH ds r = some o → o = .dfr ∧ H r = some .dfr
  | [], H, h, r, o, hr => by cases hr
  | .mark q :: ds, H, h, r, o, hr => by
    simp only [mkH, Hp.set] at hr
    split at hr
    · rename_i e
      subst e
      injection hr with hr
      exact ⟨hr.symm, h.1⟩
    · obtain ⟨h1, h2⟩ := mkH_in h.2 r o hr
      refine ⟨h1, ?_⟩
      simp only [cutH] at h2
      split at h2
      · cases h2
      · exact h2
  | .call _ _ _ :: _, _, h, _, _, _ => h.elim
theorem mkH_marks {H0 : Hp} : ∀ {ds : List CD} {H : Hp}, MarksOk ds H (fun _ => none) → (∀ r o, mkH ds r = some o → H0 r = none) → MarksOk ds (hun H0 (mkH ds)) H0
  | [], H, h, hn => fun i o hi => by simp [hun, hi]
  | .mark q :: ds, H, h, hn => by
    have hq0 : H0 q = none := hn q .dfr (by simp [mkH, Hp.set])
    have hq1 : mkH ds q = none := by
      cases hc : mkH ds q with
      | none => rfl
      | some o =>
        have := (mkH_in h.2 q o hc).2
        simp [cutH] at this
    have hc : cutH (hun H0 (mkH (.mark q :: ds))) q = hun H0 (mkH ds) := by
      funext i
      simp only [cutH, hun, mkH, Hp.set]
      by_cases e : i = q
      · subst e; simp [hq0, hq1]
      · simp [e]
    refine ⟨by simp [hun, hq0, mkH, Hp.set], ?_⟩
    rw [hc]
    refine mkH_marks h.2 fun r o hr => hn r .dfr ?_
    have hrq : r ≠ q := fun e => by rw [e, hq1] at hr; cases hr
    simp only [mkH, Hp.set, if_neg hrq, hr, (mkH_in h.2 r o hr).1]
  | .call _ _ _ :: _, _, h, _ => h.elim
theorem RepDs.later' {W' : World} : ∀ {ds : List CD} {H B : Hp} {dv : List Deferred}, MarksOk ds H B → RepDs W' ds dv → RepDs W ds dv
  | [], _, _, [], _, _ => trivial
  | [], _, _, _ :: _, _, h => h.elim
  | .mark _ :: _, _, _, [], _, h => h.elim
  | .mark q :: ds, H, B, d :: dv, hm, h => ⟨h.1, RepDs.later' hm.2 h.2⟩
  | .call _ _ _ :: _, _, _, _, hm, _ => hm.elim
/-- **A code whose variables are frozen**: it is known at whatever world, holding nothing; of what it leaves only plain values count. -/
theorem CW.freeze {c : Code} {e' : Env} {R : Env → Prop} (he : ∀ t, Fz H (s.env t) (e' t)) (hds : s.ds = [])
    (h : ∀ w, Below W.heap.size W w → CW P w N ρ c (hold fun x s2 H2 => (x = .normal ∨ x = .ret) ∧ MarksOk s2.ds H2 (fun _ => none) ∧ R s2.env) ⟨e', []⟩ (fun _ => none))
    (hq : ∀ x e2 ds H', (x = .normal ∨ x = .ret) → R e2 → MarksOk ds H' H → Q x ⟨plE e2, ds⟩ H') : CW P W N ρ c Q s H := by
  refine ⟨fun F a w hd hr hh => ?_⟩
  have hdef : a.defers = [] := by
    have := hr.2
    rw [hds] at this
    cases hdd : a.defers with
    | nil => rfl
    | cons d ds => rw [hdd] at this; exact this.elim
  have hr' : RepA w N ⟨e', []⟩ a := ⟨⟨hr.1.1, fun t ht => (he t).rep hd hh (hr.1.2 t ht)⟩, by rw [hdef]; trivial⟩
  refine wpIn_mono ((h w hh.below).out (fun _ => none) a w (fun i => .inl rfl) hr' (held_self w)) ?_
  rintro e a' w' ⟨x, s2, H2, hx, hr2, hd2, hh2, hxe, hmk, hR⟩
  have h0 : ∀ r, hun H2 (fun _ => none) r = H2 r := fun r => by simp [hun]
  have hin := fun r o hr => mkH_in hmk r o hr
  have hnew : ∀ r o, mkH s2.ds r = some o → w.heap.size ≤ r := fun r o hr => (hh2.at_ r .dfr (by rw [h0]; exact (hin r o hr).2)).1
  have hold' : Held W (hun H F) w' := held_through hh hh2.below
  have hno : ∀ r o, mkH s2.ds r = some o → hun H F r = none := fun r o hr => by
    cases hc : hun H F r with
    | none => rfl
    | some o' => exact absurd (hh.lt hc) (by have := hnew r o hr; omega)
  refine ⟨x, ⟨plE s2.env, s2.ds⟩, hun H (mkH s2.ds), ?_, ⟨⟨hr2.1.1, fun t ht => ?_⟩, RepDs.later' hmk hr2.2⟩, ?_, ⟨hold'.below, fun r o hr => ?_⟩, hq x _ _ _ hxe hR (mkH_marks hmk fun r o hr => (hun_none.1 (hno r o hr)).1)⟩
  · rcases hxe with rfl | rfl <;> cases e <;> simp only [RepX] at hx ⊢
  · simp only [plE]
    split
    · rename_i hp; exact (hr2.1.2 t ht).plain hp
    · exact .any _
  · intro r
    rcases hd r with d | d
    · cases hc : mkH s2.ds r with
      | none => exact .inl (by simp [hun, d, hc])
      | some o => exact .inr (hun_none.1 (hno r o hc)).2
    · exact .inr d
  · by_cases hc : hun H F r = some o
    · exact hold'.at_ r o hc
    · have hn : mkH s2.ds r = some o := by
        simp only [hun] at hr hc
        cases hH : H r with
        | some o' => rw [hH] at hr hc; simp at hr hc; exact absurd hr hc
        | none =>
          rw [hH] at hr hc
          simp at hr hc
          cases hH' : mkH s2.ds r with
          | none => rw [hH'] at hr; simp at hr; exact absurd hr hc
          | some o' => rw [hH'] at hr; simpa using hr
      obtain ⟨rfl, hn2⟩ := hin r o hn
      obtain ⟨h1, ob, h2, h3⟩ := hh2.at_ r .dfr (by rw [h0]; exact hn2)
      have hb := hh.below.size
      exact ⟨by omega, ob, h2, h3.free trivial⟩
end
end Go.Cl
set_option linter.unusedSimpArgs false
set_option linter.unusedVariables false
namespace Go.Cl
open Go.Proofs Go.RowKit
section
variable {X : Cx} {N : Nat} {ρ : Option Nat} {Q : CP} {s : CA} {H : Hp}
end
variable {W : World} {G : Nat → CV}
set_option maxRecDepth 8000
set_option maxHeartbeats 4000000
end Go.Cl
set_option linter.unusedSimpArgs false
set_option linter.unusedVariables false
namespace Go.Cl.Gd
open Go.Proofs Go.RowKit
variable {W : World} {G : Nat → CV}
set_option maxRecDepth 8000
set_option maxHeartbeats 4000000
end Go.Cl.Gd
