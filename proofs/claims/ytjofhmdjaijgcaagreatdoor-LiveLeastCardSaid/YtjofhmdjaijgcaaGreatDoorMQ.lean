/- DERIVED HERE. A code whose variables are frozen. DERIVED HERE. The program's Points, where the rounds write a block that was there before. DERIVED HERE. The program's Most. -/
import Derived.Test.YtjofhmdjaijgcaaGreatDoorRec
import Derived.Test.YtjofhmdjaijgcaaGreatDoorPT
import Derived.Test.YtjofhmdjaijgcaaGreatDoorGR
import Derived.Test.YtjofhmdjaijgcaaGreatDoorTC
set_option linter.unusedSimpArgs false
set_option linter.unusedVariables false
namespace Go.Cl
open Go.Proofs Go.RowKit
section
variable {P : Program} {W : World} {N : Nat} {ρ : Option Nat} {Q : CP} {s : CA} {H : Hp}
/-- What of a frame's variables says the same wherever. -/
def plE (e : Env) : Env := fun t => if plainV (e t) then e t else .any
/-- The marks of a frame, alone. -/
def mkH : List CD → Hp
  | [] => fun _ => none
  | .mark r :: ds => (mkH ds).set r .dfr
  | .call _ _ _ :: ds => mkH ds
theorem mkH_in : ∀ {ds : List CD} {H : Hp}, MarksOk ds H (fun _ => none) → ∀ r o, mkH ds r = some o → o = .dfr ∧ H r = some .dfr
  | [], H, h, r, o, hr => by cases hr
  | .mark q :: ds, H, h, r, o, hr => by
    simp only [mkH, Hp.set] at hr
    split at hr
    · rename_i e
      subst e
      injection hr with hr
      exact ⟨hr.symm, h.1⟩
    · obtain ⟨h1, h2⟩ := mkH_in h.2 r o hr
      refine ⟨h1, ?_⟩
      simp only [cutH] at h2
      split at h2
      · cases h2
      · exact h2
  | .call _ _ _ :: _, _, h, _, _, _ => h.elim
theorem mkH_marks {H0 : Hp} : ∀ {ds : List CD} {H : Hp}, MarksOk ds H (fun _ => none) → (∀ r o, mkH ds r = some o → H0 r = none) → MarksOk ds (hun H0 (mkH ds)) H0
  | [], H, h, hn => fun i o hi => by simp [hun, hi]
  | .mark q :: ds, H, h, hn => by
    have hq0 : H0 q = none := hn q .dfr (by simp [mkH, Hp.set])
    have hq1 : mkH ds q = none := by
      cases hc : mkH ds q with
      | none => rfl
      | some o =>
        have := (mkH_in h.2 q o hc).2
        simp [cutH] at this
    have hc : cutH (hun H0 (mkH (.mark q :: ds))) q = hun H0 (mkH ds) := by
      funext i
      simp only [cutH, hun, mkH, Hp.set]
      by_cases e : i = q
      · subst e; simp [hq0, hq1]
      · simp [e]
    refine ⟨by simp [hun, hq0, mkH, Hp.set], ?_⟩
    rw [hc]
    refine mkH_marks h.2 fun r o hr => hn r .dfr ?_
    have hrq : r ≠ q := fun e => by rw [e, hq1] at hr; cases hr
    simp only [mkH, Hp.set, if_neg hrq, hr, (mkH_in h.2 r o hr).1]
  | .call _ _ _ :: _, _, h, _ => h.elim
theorem RepDs.later' {W' : World} : ∀ {ds : List CD} {H B : Hp} {dv : List Deferred}, MarksOk ds H B → RepDs W' ds dv → RepDs W ds dv
  | [], _, _, [], _, _ => trivial
  | [], _, _, _ :: _, _, h => h.elim
  | .mark _ :: _, _, _, [], _, h => h.elim
  | .mark q :: ds, H, B, d :: dv, hm, h => ⟨h.1, RepDs.later' hm.2 h.2⟩
  | .call _ _ _ :: _, _, _, _, hm, _ => hm.elim
/-- **A code whose variables are frozen**: it is known at whatever world, holding nothing; of what it leaves only plain values count. -/
theorem CW.freeze {c : Code} {e' : Env} {R : Env → Prop} (he : ∀ t, Fz H (s.env t) (e' t)) (hds : s.ds = [])
    (h : ∀ w, Below W.heap.size W w → CW P w N ρ c (hold fun x s2 H2 => (x = .normal ∨ x = .ret) ∧ MarksOk s2.ds H2 (fun _ => none) ∧ R s2.env) ⟨e', []⟩ (fun _ => none))
    (hq : ∀ x e2 ds H', (x = .normal ∨ x = .ret) → R e2 → MarksOk ds H' H → Q x ⟨plE e2, ds⟩ H') : CW P W N ρ c Q s H := by
  refine ⟨fun F a w hd hr hh => ?_⟩
  have hdef : a.defers = [] := by
    have := hr.2
    rw [hds] at this
    cases hdd : a.defers with
    | nil => rfl
    | cons d ds => rw [hdd] at this; exact this.elim
  have hr' : RepA w N ⟨e', []⟩ a := ⟨⟨hr.1.1, fun t ht => (he t).rep hd hh (hr.1.2 t ht)⟩, by rw [hdef]; trivial⟩
  refine wpIn_mono ((h w hh.below).out (fun _ => none) a w (fun i => .inl rfl) hr' (held_self w)) ?_
  rintro e a' w' ⟨x, s2, H2, hx, hr2, hd2, hh2, hxe, hmk, hR⟩
  have h0 : ∀ r, hun H2 (fun _ => none) r = H2 r := fun r => by simp [hun]
  have hin := fun r o hr => mkH_in hmk r o hr
  have hnew : ∀ r o, mkH s2.ds r = some o → w.heap.size ≤ r := fun r o hr => (hh2.at_ r .dfr (by rw [h0]; exact (hin r o hr).2)).1
  have hold' : Held W (hun H F) w' := held_through hh hh2.below
  have hno : ∀ r o, mkH s2.ds r = some o → hun H F r = none := fun r o hr => by
    cases hc : hun H F r with
    | none => rfl
    | some o' => exact absurd (hh.lt hc) (by have := hnew r o hr; omega)
  refine ⟨x, ⟨plE s2.env, s2.ds⟩, hun H (mkH s2.ds), ?_, ⟨⟨hr2.1.1, fun t ht => ?_⟩, RepDs.later' hmk hr2.2⟩, ?_, ⟨hold'.below, fun r o hr => ?_⟩, hq x _ _ _ hxe hR (mkH_marks hmk fun r o hr => (hun_none.1 (hno r o hr)).1)⟩
  · rcases hxe with rfl | rfl <;> cases e <;> simp only [RepX] at hx ⊢
  · simp only [plE]
    split
    · rename_i hp; exact (hr2.1.2 t ht).plain hp
    · exact .any _
  · intro r
    rcases hd r with d | d
    · cases hc : mkH s2.ds r with
      | none => exact .inl (by simp [hun, d, hc])
      | some o => exact .inr (hun_none.1 (hno r o hc)).2
    · exact .inr d
  · by_cases hc : hun H F r = some o
    · exact hold'.at_ r o hc
    · have hn : mkH s2.ds r = some o := by
        simp only [hun] at hr hc
        cases hH : H r with
        | some o' => rw [hH] at hr hc; simp at hr hc; exact absurd hr hc
        | none =>
          rw [hH] at hr hc
          simp at hr hc
          cases hH' : mkH s2.ds r with
          | none => rw [hH'] at hr; simp at hr; exact absurd hr hc
          | some o' => rw [hH'] at hr; simpa using hr
      obtain ⟨rfl, hn2⟩ := hin r o hn
      obtain ⟨h1, ob, h2, h3⟩ := hh2.at_ r .dfr (by rw [h0]; exact hn2)
      have hb := hh.below.size
      exact ⟨by omega, ob, h2, h3.free trivial⟩
end
end Go.Cl
set_option linter.unusedSimpArgs false
set_option linter.unusedVariables false
namespace Go.Cl
open Go.Proofs Go.RowKit
section
variable {X : Cx} {N : Nat} {ρ : Option Nat} {Q : CP} {s : CA} {H : Hp}
/-- What an iterator does that keeps a block of its own: A0 lies still, A says which blocks were there. -/
def IterQ (P : Program) (W : World) (f : FuncId) (fs cap : List CV) (n : Nat) (args : Nat → Nat → List CV) (cel : Nat → List CV) (InvA : Hp → Prop) : Prop :=
  ∀ (l : Nat) (A0 A : Hp) (J : Nat → Hp → Prop) (E : Hp → Prop) (H0 : Hp), InvA A0 → (∀ k H, J k H → Le A0 H) → (∀ k H r, J k H → H r = none → A r = none) → (∀ k H r o, J k H → A r = none → J k (H.set r o)) → (∀ H r o, E H → A r = none → E (H.set r o)) → J 0 H0 →
    (∀ k r H, k < n → J k H → A r = none → H r = some (.cells (cel k)) → CY P W l (args k r) H (fun b H' => H' r = some (.cells (cel k)) ∧ if b = true then J (k + 1) H' else E H')) →
    CC P W f (fs ++ [.func (.yield l) [] []] ++ cap) H0 (fun x H' => (∃ v, x = .ret v) ∧ (J n H' ∨ E H'))
theorem CW.rangeQ (hX : CxOk X) {g : Operand} {ps : Array Tmp} {asg body : Code} {f : FuncId} {fs cap : List CV} {n : Nat} {args : Nat → Nat → List CV} {cel : Nat → List CV} (hg : evC X N s.env g = .func (.func f) fs cap) {InvA : Hp → Prop} (hit : IterQ X.P X.W f fs cap n args cel InvA) (hup : ∀ (H : Hp) r o, H r = none → InvA H → InvA (H.set r o)) (hps : ∀ p ∈ ps.toList, p < N)
    (hlen : ∀ k r, (args k r).length = ps.size) (A0 A : Hp) (J : Nat → Hp → Prop) (Ex : Code → Hp → Prop) (hinv : InvA A0) (hJA : ∀ k H, J k H → Le A0 H) (hJN : ∀ k H r, J k H → H r = none → A r = none) (hJs : ∀ k H r o, J k H → A r = none → J k (H.set r o)) (hEs : ∀ c H r o, Ex c H → A r = none → Ex c (H.set r o)) (h0 : J 0 H)
    (hround : ∀ l k r H1, k < n → J k H1 → A r = none → H1 r = some (.cells (cel k)) → CW X.P X.W N (some l) asg (nextX fun s1 H2 => CW X.P X.W N (some l) body (roundX (fun H3 => J (k + 1) H3 ∧ H3 r = some (.cells (cel k))) (fun c H3 => Ex c H3 ∧ H3 r = some (.cells (cel k)))) s1 H2) ⟨setps s.env ps.toList (args k r), []⟩ H1)
    (hdone : ∀ d H1, J n H1 → H1 d = none → Q .normal ⟨s.env, .mark d :: s.ds⟩ (H1.set d .dfr))
    (hexit : ∀ c d H1, Ex c H1 → H1 d = none → CW X.P X.W N none c Q ⟨s.env, .mark d :: s.ds⟩ (H1.set d .dfr)) : CW X.P X.W N none (.rangeFunc g ps asg body) Q s H := by
  refine CW.rangeG hX hg (JN := J n) (Ex := Ex) (fun fn d l hdl h0d h0l => ?_) hdone hexit
  have hneq : l ≠ d := Ne.symm hdl
  have hA0 := hJA 0 H h0
  have hAd : A0 d = none := by
    cases h : A0 d with
    | none => rfl
    | some o => rw [hA0 _ _ h] at h0d; cases h0d
  have hAl : A0 l = none := by
    cases h : A0 l with
    | none => rfl
    | some o => rw [hA0 _ _ h] at h0l; cases h0l
  have hset : ∀ {G : Hp} {r : Nat} {o : Ob} {lo : Ob}, r ≠ d → r ≠ l → ((G.set d .dfr).set l lo).set r o = ((G.set r o).set d .dfr).set l lo := fun {G r o lo} h1 h2 => by
    funext i
    simp only [Hp.set]
    by_cases e1 : i = r
    · subst e1; simp [h1, h2]
    · simp [e1]
  have hr : ∀ {r : Nat} {lo : Ob}, ((A.set d .dfr).set l lo) r = none → r ≠ d ∧ r ≠ l ∧ A r = none := fun {r lo} h => by
    simp only [Hp.set] at h
    split at h
    · cases h
    · split at h
      · cases h
      · rename_i h1 h2; exact ⟨h2, h1, h⟩
  refine hit l ((A0.set d .dfr).set l (.loop N .ready none fn s.env ps asg body d)) ((A.set d .dfr).set l (.loop N .ready none fn s.env ps asg body d)) (fun k H' => ∃ H1, J k H1 ∧ H1 d = none ∧ H1 l = none ∧ H' = (H1.set d .dfr).set l (.loop N .ready none fn s.env ps asg body d))
    (fun H' => ∃ c H1, Ex c H1 ∧ H1 d = none ∧ H1 l = none ∧ H' = (H1.set d .dfr).set l (.loop N .done (some c) fn s.env ps asg body d)) _ ?_ ?_ ?_ ?_ ?_ ⟨H, h0, h0d, h0l, rfl⟩ ?_
  · exact hup _ _ _ (set_none hAl hneq) (hup _ _ _ hAd hinv)
  · rintro k H' ⟨H1, hJ, k1, k2, rfl⟩
    have := hJA k H1 hJ
    intro i x hx
    simp only [Hp.set] at hx ⊢
    split
    · rename_i e; rw [if_pos e] at hx; exact hx
    · rename_i e
      rw [if_neg e] at hx
      split
      · rename_i e; rw [if_pos e] at hx; exact hx
      · rename_i e; rw [if_neg e] at hx; exact this i x hx
  · rintro k H' r ⟨H1, hJ, k1, k2, rfl⟩ hn
    simp only [Hp.set] at hn ⊢
    split at hn
    · cases hn
    · split at hn
      · cases hn
      · rename_i h1 h2
        rw [if_neg h1, if_neg h2]
        exact hJN k H1 r hJ hn
  · rintro k H' r o ⟨H1, hJ, k1, k2, rfl⟩ hA
    obtain ⟨r1, r2, r3⟩ := hr hA
    exact ⟨H1.set r o, hJs k H1 r o hJ r3, set_none k1 (Ne.symm r1), set_none k2 (Ne.symm r2), hset r1 r2⟩
  · rintro H' r o ⟨c, H1, hE, k1, k2, rfl⟩ hA
    obtain ⟨r1, r2, r3⟩ := hr hA
    exact ⟨c, H1.set r o, hEs c H1 r o hE r3, set_none k1 (Ne.symm r1), set_none k2 (Ne.symm r2), hset r1 r2⟩
  · rintro k r H' hk ⟨H1, hJ, k1, k2, rfl⟩ hA hcr
    obtain ⟨r1, r2, r3⟩ := hr hA
    have hcr1 : H1 r = some (.cells (cel k)) := by
      simp only [Hp.set] at hcr
      rw [if_neg r2, if_neg r1] at hcr
      exact hcr
    have hy := CY.of_round (R := fun b H' => ∃ H1, ((b = true → (J (k + 1) H1 ∧ H1 r = some (.cells (cel k))) ∧ H' = H1.set l (.loop N .ready none fn s.env ps asg body d)) ∧ (b = false → ∃ c, (Ex c H1 ∧ H1 r = some (.cells (cel k))) ∧ H' = H1.set l (.loop N .done (some c) fn s.env ps asg body d))) ∧ H1 l = none)
      (d := d) (fn := fn) hps (hlen k r) k2 (hround l k r H1 hk hJ r3 hcr1) (fun H2 h1 h2 => ⟨H2, ⟨fun _ => ⟨h2, rfl⟩, fun e => (by cases e)⟩, h1⟩) (fun c H2 h1 h2 => ⟨H2, ⟨fun e => (by cases e), fun _ => ⟨c, h2, rfl⟩⟩, h1⟩)
    have hy2 := hy.frame (r := d) (ob := .dfr) (set_none k1 hdl)
    rw [set_comm hneq] at hy2
    refine hy2.mono ?_
    rintro b G ⟨H2, q1, rfl, H3, q2, q3⟩
    cases b with
    | true =>
      obtain ⟨⟨q4, q5⟩, rfl⟩ := q2.1 rfl
      refine ⟨by simp [Hp.set, r1, r2, q5], ?_⟩
      rw [if_pos rfl]
      exact ⟨H3, q4, by simpa [Hp.set, hdl] using q1, q3, set_comm hneq⟩
    | false =>
      obtain ⟨c, ⟨q4, q5⟩, rfl⟩ := q2.2 rfl
      refine ⟨by simp [Hp.set, r1, r2, q5], ?_⟩
      rw [if_neg (by simp)]
      exact ⟨c, H3, q4, by simpa [Hp.set, hdl] using q1, q3, set_comm hneq⟩
end
variable {W : World} {G : Nat → CV}
set_option maxRecDepth 8000
set_option maxHeartbeats 4000000
theorem points_itQ (hX : CxOk (cx W G)) (hG : G 0 = .iptr formsC) (u : UUnit) (hu : wfU u = true) (p : Nat → Bool) (cn : Nat) (c : Nat → Bool) (I : Nat → Nat → Bool) (b : Nat) (k : UBlk) (hb : u.blocks[b]? = some k) (q2 q3 : Nat) :
    IterQ Tryz.prog W 68 [] [.ptr q2 0, .ptr q3 0] (k.ops.length + 1) (ptA (mOf u) k.ops.length) (ptC u p I k) (fun A => A q2 = some (.cells [.iptr (liveC u u.regs.toNat p cn c I)]) ∧ A q3 = some (.cells [.int .i64 b])) := by
  obtain ⟨f1, f2, f3, f4, f5, f6, f7, f8, f9, f10, f11⟩ := wfU_facts hu
  obtain ⟨g1, g2, g3, g4⟩ := wfB_facts hu hb
  have hbl := (List.getElem?_eq_some_iff.1 hb).1
  have hbe := (List.getElem?_eq_some_iff.1 hb).2
  intro l A0 A J E H0 hA hJA hJN hJs hEs h0 hy
  have mA := fun {j H} (h : J j H) => hJA j H h
  have mN := fun {j H r} (h : J j H) (hr : H r = none) => hJN j H r h hr
  refine CC.of_cw hX Tryz.func68 rfl rfl (Nat.le_of_ble_eq_true rfl) ?_
  refine CW.walk hX mixed d68 rfl ?_
  simp [boxK, CV.stor, CV.cells]
  intro qy ny
  have a2 := mA h0 _ _ hA.1
  have a3 := mA h0 _ _ hA.2
  have y2 : qy ≠ q2 := fun e => by rw [e, a2] at ny; cases ny
  have y3 : qy ≠ q3 := fun e => by rw [e, a3] at ny; cases ny
  refine CW.walk hX mixed d68 rfl ?_
  simp [a2, a3, Ne.symm y2, Ne.symm y3]
  refine (end_c hX u hu p cn c I b k hb _).k ?_
  rintro x H1 ⟨r, hr, rfl, rfl⟩
  simp
  rw [hset_none_iff] at hr
  intro q4 h4r hr4 h4y hy4 n4
  have hy4' : q4 ≠ qy := h4y
  have hrA : A r = none := mN h0 hr.2
  obtain ⟨H1, hH1⟩ : ∃ H1, H1 = H0.set r (.cells (setC (mOf u) (endP u p I k))) := ⟨_, rfl⟩
  have hJ1 : J 0 H1 := by rw [hH1]; exact hJs 0 H0 r _ h0 hrA
  have h1r : H1 r = some (.cells (setC (mOf u) (endP u p I k))) := by rw [hH1]; exact set_at
  have h1y : H1 qy = none := by rw [hH1, hset_ne (Ne.symm hr.1)]; exact ny
  have h14 : H1 q4 = none := by rw [hH1, hset_ne h4r]; exact n4
  have hHe : ((H0.set qy (.cells [.func (.yield l) [] []])).set r (.cells (setC (mOf u) (endP u p I k)))).set q4 (.cells [.ref r 0 (mOf u) (mOf u)]) = (H1.set qy (.cells [.func (.yield l) [] []])).set q4 (.cells [.ref r 0 (mOf u) (mOf u)]) := by
    rw [hH1, set_comm (Ne.symm hr.1)]
  rw [hHe]
  clear hHe
  have a2 := mA hJ1 _ _ hA.1
  have a3 := mA hJ1 _ _ hA.2
  have h42 : q4 ≠ q2 := fun e => by rw [e, a2] at h14; cases h14
  have h43 : q4 ≠ q3 := fun e => by rw [e, a3] at h14; cases h14
  refine CW.walk hX mixed d68 rfl ?_
  simp [d68, a2, a3, Ne.symm y2, Ne.symm y3, Ne.symm h42, Ne.symm h43, hy4, liveC, unitC, mayC, hbl, hbe, blkC]
  refine CW.walk hX mixed d68 rfl ?_
  simp [d68, Ne.symm y2, Ne.symm y3, Ne.symm h42, Ne.symm h43, hy4]
  have yl : ∀ j (H1 : Hp), j < k.ops.length + 1 → J j H1 → H1 r = some (.cells (ptC u p I k j)) → H1 qy = none → H1 q4 = none → CY Tryz.prog W l (ptA (mOf u) k.ops.length j r) ((H1.set qy (.cells [.func (.yield l) [] []])).set q4 (.cells [.ref r 0 (mOf u) (mOf u)])) fun b H' => ∃ H2, H2 qy = none ∧ H2 q4 = none ∧ H' = (H2.set qy (.cells [.func (.yield l) [] []])).set q4 (.cells [.ref r 0 (mOf u) (mOf u)]) ∧ H2 r = some (.cells (ptC u p I k j)) ∧ if b = true then J (j + 1) H2 else E H2 := by
    intro j H1 hj hJ h1 h2 h3
    have hc := (((hy j r H1 hj hJ hrA h1).frame (r := qy) (ob := .cells [.func (.yield l) [] []]) h2).frame (r := q4) (ob := .cells [.ref r 0 (mOf u) (mOf u)]) (by rw [hset_none_iff]; exact ⟨hy4', h3⟩))
    refine hc.mono ?_
    rintro b H' ⟨H2, e1, rfl, H3, e2, rfl, e3, e4⟩
    rw [hset_none_iff] at e1
    exact ⟨H3, e2, e1.2, rfl, e3, e4⟩
  have hyA : A qy = none := by
    have := mN hJ1 h1y
    exact this
  have h4A : A q4 = none := mN hJ1 h14
  have fE : ∀ H2, E H2 → E ((H2.set qy (.cells [.func (.yield l) [] []])).set q4 (.cells [.ref r 0 (mOf u) (mOf u)])) := fun H2 h => hEs _ _ _ (hEs _ _ _ h hyA) h4A
  have h1r' : H1 r = some (.cells (ptC u p I k 0)) := by rw [h1r]; simp [ptC, beforeP]
  have y0 := yl 0 H1 (by omega) hJ1 h1r' h1y h14
  rw [show ptA (mOf u) k.ops.length 0 r = [.int .i64 (k.ops.length : Nat), .ref r 0 (mOf u) (mOf u)] by simp [ptA]] at y0
  refine y0.k ?_
  clear y0 h1r h1r' h1y h14 hJ1 a2 a3 hH1
  rintro b1 H' ⟨H2, k1, k2, rfl, k3, k4⟩
  cases b1 with
  | false =>
    simp
    exact .inr (fE _ k4)
  | true =>
  simp at k4
  simp
  refine CW.walk hX mixed d68 rfl ?_
  simp
  refine (backward_ops hX _ _).k ?_
  rintro x H3 ⟨qb, hqb, rfl, rfl⟩
  simp
  rw [hset_none_iff, hset_none_iff] at hqb
  refine CW.walk1 hX mixed d68 rfl ?_
  simp
  have hdis : qb ≠ q4 ∧ qb ≠ qy ∧ H2 qb = none := ⟨hqb.1, hqb.2.1, hqb.2.2⟩
  obtain ⟨b4, by', hbn⟩ := hdis
  have hbA : A qb = none := mN k4 hbn
  obtain ⟨Z, hZ⟩ : ∃ Z : Hp → Hp, Z = fun H1 => ((H1.set qy (.cells [.func (.yield l) [] []])).set q4 (.cells [.ref r 0 (mOf u) (mOf u)])).set qb (.cells [.sl 7 (k.ops.map opC)]) := ⟨_, rfl⟩
  have hZi : ∀ H1, ((H1.set qy (.cells [.func (.yield l) [] []])).set q4 (.cells [.ref r 0 (mOf u) (mOf u)])).set qb (.cells [.sl 7 (k.ops.map opC)]) = Z H1 := fun H1 => by rw [hZ]
  have zy : ∀ H1, Z H1 qy = some (.cells [.func (.yield l) [] []]) := fun H1 => by rw [hZ]; simp [Hp.set, Ne.symm by', Ne.symm hy4']
  have z4 : ∀ H1, Z H1 q4 = some (.cells [.ref r 0 (mOf u) (mOf u)]) := fun H1 => by rw [hZ]; simp [Hp.set, Ne.symm b4]
  have zb : ∀ H1, Z H1 qb = some (.cells [.sl 7 (k.ops.map opC)]) := fun H1 => by rw [hZ]; simp [Hp.set]
  have zo : ∀ H1 i, i ≠ qy → i ≠ q4 → i ≠ qb → Z H1 i = H1 i := fun H1 i h1 h2 h3 => by rw [hZ]; simp [Hp.set, h1, h2, h3]
  have zset : ∀ H1 i o, i ≠ qy → i ≠ q4 → i ≠ qb → (Z H1).set i o = Z (H1.set i o) := fun H1 i o h1 h2 h3 => by
    rw [hZ]
    funext z
    simp only [Hp.set]
    by_cases e : z = i
    · subst e; simp [h1, h2, h3]
    · simp [e]
  have zE : ∀ H1, E H1 → E (Z H1) := fun H1 h => by rw [hZ]; exact hEs _ _ _ (fE _ h) hbA
  have zJ : ∀ j H1, J j H1 → J j (Z H1) := fun j H1 h => by rw [hZ]; exact hJs _ _ _ _ (hJs _ _ _ _ (hJs _ _ _ _ h hyA) h4A) hbA
  have yl2 : ∀ j (H1 : Hp), j < k.ops.length + 1 → J j H1 → H1 r = some (.cells (ptC u p I k j)) → H1 qy = none → H1 q4 = none → H1 qb = none → CY Tryz.prog W l (ptA (mOf u) k.ops.length j r) (Z H1) fun b H' => ∃ H2, H2 qy = none ∧ H2 q4 = none ∧ H2 qb = none ∧ H' = Z H2 ∧ H2 r = some (.cells (ptC u p I k j)) ∧ if b = true then J (j + 1) H2 else E H2 := by
    intro j H1 hj hJ h1 h2 h3 h4
    have hc := (yl j H1 hj hJ h1 h2 h3).frame (r := qb) (ob := .cells [.sl 7 (k.ops.map opC)]) (by rw [hset_none_iff, hset_none_iff]; exact ⟨b4, by', h4⟩)
    rw [hZi] at hc
    refine hc.mono ?_
    rintro b H' ⟨H2, e1, rfl, H3, e2, e3, rfl, e4, e5⟩
    rw [hset_none_iff, hset_none_iff] at e1
    exact ⟨H3, e2, e3, e1.2.2, hZi _, e4, e5⟩
  rw [hZi]
  have hun : ∀ (B : Hp) d o, B d = none → (fun i => if i = d then none else (B.set d o) i) = B := fun B d o h => by
    funext i
    by_cases e : i = d
    · subst e; simp [h]
    · simp [e, Hp.set]
  refine CW.range hX (X := cx W G) (f := 104) (fs := []) (cap := [.ptr qb 0]) (ys := backYs (k.ops.map opC)) (by simp) (back_ops hX qb _ (by simp [opC]) (by simp; omega)) boxed_up (by simp) (by simp [backYs]) (fun j H' => ∃ H1, J (j + 1) H1 ∧ H1 r = some (.cells (ptC u p I k j)) ∧ H1 qy = none ∧ H1 q4 = none ∧ H1 qb = none ∧ H' = Z H1) (fun cd H' => cd = .ret ∧ ∃ H1, E H1 ∧ H' = Z H1) ?_ ?_ ?_ ?_ ?_
  · rintro j H' ⟨H1, _, _, _, _, _, rfl⟩
    exact zb H1
  · exact ⟨H2, k4, k3, k1, k2, hbn, rfl⟩
  · rintro l' j args H' hj ⟨H1, hJ, m1, m2, m3, m4, rfl⟩
    have hjl : j < k.ops.length := by have := (List.getElem?_eq_some_iff.1 hj).1; simpa [backYs] using this
    rw [backYs_get (by simpa using hjl)] at hj
    injection hj with hj
    subst hj
    have hx : k.ops[k.ops.length - 1 - j]? = some k.ops[k.ops.length - 1 - j] := List.getElem?_eq_getElem (by omega)
    have hdr : k.ops.drop (k.ops.length - (j + 1)) = k.ops[k.ops.length - 1 - j] :: k.ops.drop (k.ops.length - j) := by
      rw [show k.ops.length - (j + 1) = k.ops.length - 1 - j by omega, List.drop_eq_getElem_cons (by omega)]
      congr 2
      omega
    have hom : k.ops[k.ops.length - 1 - j] ∈ k.ops := List.getElem_mem _
    generalize k.ops[k.ops.length - 1 - j] = o at hx hdr hom
    have hgd : (k.ops.map opC).getD ((k.ops.map opC).length - 1 - j) [] = opC o := by rw [List.length_map, List.getD_eq_getElem?_getD, List.getElem?_map, hx]; rfl
    rw [hgd]
    refine CW.walk1 hX mixed d68 rfl ?_
    simp [opC]
    intro q9 hq9
    have q9y : q9 ≠ qy := fun e => by rw [e, zy] at hq9; cases hq9
    have q94 : q9 ≠ q4 := fun e => by rw [e, z4] at hq9; cases hq9
    have q9b : q9 ≠ qb := fun e => by rw [e, zb] at hq9; cases hq9
    rw [zo _ _ q9y q94 q9b] at hq9
    have q9A : A q9 = none := mN hJ hq9
    have q9r : q9 ≠ r := fun e => by rw [e, m1] at hq9; cases hq9
    rw [zset _ _ _ q9y q94 q9b]
    have ry : r ≠ qy := fun e => by rw [e, m2] at m1; cases m1
    have r4 : r ≠ q4 := fun e => by rw [e, m3] at m1; cases m1
    have rb : r ≠ qb := fun e => by rw [e, m4] at m1; cases m1
    have hJ9 := hJs _ _ q9 (.cells (opC o)) hJ q9A
    have n1 := (Le.set_new (o := .cells (opC o)) hq9) _ _ m1
    have n9 : (H1.set q9 (.cells (opC o))) q9 = some (.cells (opC o)) := set_at
    have n2 : (H1.set q9 (.cells (opC o))) qy = none := by rw [hset_ne (Ne.symm q9y)]; exact m2
    have n3 : (H1.set q9 (.cells (opC o))) q4 = none := by rw [hset_ne (Ne.symm q94)]; exact m3
    have n4 : (H1.set q9 (.cells (opC o))) qb = none := by rw [hset_ne (Ne.symm q9b)]; exact m4
    change CW _ _ _ _ _ _ _ (Z (H1.set q9 (.cells (opC o))))
    generalize H1.set q9 _ = H5 at hJ9 n1 n9 n2 n3 n4 ⊢
    simp only [opC] at n9
    clear hJ m1 m2 m3 m4 hq9
    have c2 := mA hJ9 _ _ hA.1
    have c3 := mA hJ9 _ _ hA.2
    have d2 : Z H5 q2 = H5 q2 := zo _ _ (Ne.symm y2) (Ne.symm h42) (fun e => by rw [e, n4] at c2; cases c2)
    have d900003 : Z H5 q3 = H5 q3 := zo _ _ (Ne.symm y3) (Ne.symm h43) (fun e => by rw [e, n4] at c3; cases c3)
    have d900009 : Z H5 q9 = H5 q9 := zo _ _ q9y q94 q9b
    have dr : Z H5 r = H5 r := zo _ _ ry r4 rb
    rw [c2] at d2
    rw [c3] at d900003
    rw [n9] at d900009
    rw [n1] at dr
    refine CW.block ?_
    refine CW.walk hX mixed d68 rfl ?_
    simp [d2, d900003, d900009, z4]
    have hbf := before_c hX hG u hu p cn c I b k hb o (g3 o hom) r (mOf u) _ (Z H5) dr
    simp only [opC] at hbf
    refine hbf.k ?_
    rintro x H6 ⟨rfl, rfl⟩
    simp
    rw [zset _ _ _ ry r4 rb]
    have hst : setC (mOf u) (stepP u p I k o (beforeP u p I k (k.ops.drop (k.ops.length - j)))) = ptC u p I k (j + 1) := by
      simp only [ptC, hdr]
      rfl
    rw [hst]
    have hJ6 := hJs _ _ r (.cells (ptC u p I k (j + 1))) hJ9 hrA
    have w1 : (H5.set r (.cells (ptC u p I k (j + 1)))) r = some (.cells (ptC u p I k (j + 1))) := set_at
    have w2 : (H5.set r (.cells (ptC u p I k (j + 1)))) qy = none := by rw [hset_ne (Ne.symm ry)]; exact n2
    have w3 : (H5.set r (.cells (ptC u p I k (j + 1)))) q4 = none := by rw [hset_ne (Ne.symm r4)]; exact n3
    have w4 : (H5.set r (.cells (ptC u p I k (j + 1)))) qb = none := by rw [hset_ne (Ne.symm rb)]; exact n4
    generalize H5.set r _ = H6 at hJ6 w1 w2 w3 w4 ⊢
    have hy2 := yl2 (j + 1) H6 (by omega) hJ6 w1 w2 w3 w4
    rw [show ptA (mOf u) k.ops.length (j + 1) r = [.int .i64 (((k.ops.map opC).length : Int) - 1 - (j : Nat)), .ref r 0 (mOf u) (mOf u)] by simp [ptA]; omega] at hy2
    simp only [List.length_map] at hy2
    refine CW.walk1 hX mixed d68 rfl ?_
    simp [zy, z4]
    refine hy2.k ?_
    rintro b2 H7 ⟨H8, s1, s2, s3, rfl, s4, s5⟩
    cases b2 with
    | true =>
      simp at s5
      simp
      exact ⟨H8, s5, s4, s1, s2, s3, rfl⟩
    | false =>
      simp at s5
      simp
      exact ⟨H8, s5, rfl⟩
  · rintro d H' ⟨H3, s1, s2, s3, s4, s5, rfl⟩ hd
    simp
    rw [hun _ _ _ hd]
    exact .inl (zJ _ _ (by simpa [backYs] using s1))
  · rintro cd d H' ⟨rfl, H3, s1, rfl⟩ hd
    refine CW.walk1 hX mixed d68 rfl ?_
    simp
    rw [hun _ _ _ hd]
    exact .inr (zE _ s1)
end Go.Cl
set_option linter.unusedSimpArgs false
set_option linter.unusedVariables false
namespace Go.Cl.Gd
open Go.Proofs Go.RowKit
variable {W : World} {G : Nat → CV}
set_option maxRecDepth 8000
set_option maxHeartbeats 4000000
/-- How many live at the points of a block, from its end on. -/
def mostB (u : UUnit) (p : Nat → Bool) (I : Nat → Nat → Bool) (k : UBlk) : List Nat := (List.range (k.ops.length + 1)).map fun kk => (upto (beforeP u p I k (k.ops.drop (k.ops.length - kk))) (64 * mOf u)).length
def mostL (u : UUnit) (p : Nat → Bool) (I : Nat → Nat → Bool) (l : List Nat) : List Nat := l.flatMap fun b => match u.blocks[b]? with | some k => mostB u p I k | none => []
/-- In the loops: B lies still, the greatest number so far is in q6. -/
structure moQ (B : Hp) (q6 m : Nat) (H : Hp) : Prop where
  le : Le B H
  q : H q6 = some (.cells [.int .i64 m])
structure moI (lv : List CV) (B : Hp) (q6 ro co : Nat) (order : List Nat) (M : Nat → Nat) (d : Nat) (m : Nat) (s' : CA) (H' : Hp) : Prop where
  ex : ∃ (i i25 : Nat) (H2 : Hp), m = order.length - i ∧ i ≤ order.length ∧ s'.env 4 = .iptr lv ∧ s'.env 6 = .ptr q6 0 ∧ s'.env 23 = .ref ro 0 order.length co ∧ s'.env 24 = .int .i64 order.length ∧ s'.env 25 = .int .i64 i25 ∧ i25 + d = i ∧ MarksOk s'.ds H' H2 ∧ moQ B q6 (M i) H2
theorem mostOk_c (hX : CxOk (cx W G)) (hG : G 0 = .iptr formsC) (u : UUnit) (hu : wfU u = true) (H : Hp) :
    CC Tryz.prog W 15 [.agg (unitC u)] H fun x H' => Le H H' ∧ ∃ p c I p2 c2, PLeast (opsOf u) p c ∧ LLeast u p I ∧ PLeast (opsOf u) p2 c2 ∧ x = .ret (.tuple [ci (maxL (mostL u p I (ordL (nextN u p2) u.blocks.length))), ci 0]) := by
  obtain ⟨f1, f2, f3, f4, f5, f6, f7, f8, f9, f10, f11⟩ := wfU_facts hu
  refine CC.of_cw hX Tryz.func15 rfl rfl (Nat.le_of_ble_eq_true rfl) ?_
  refine CW.walk hX mixed d15 rfl ?_
  simp
  intro q1 hq1
  have h32 := liveOf_c hX hG u hu (H.set q1 (.cells (unitC u)))
  refine CW.walk hX mixed d15 rfl ?_
  simp [unitC]
  simp only [unitC] at h32
  refine h32.k ?_
  rintro x H2 ⟨lp, rr, rc, ri, cci, σ, ex, p, c, I, rfl, hle, hpl, hll, hbd, hL⟩
  simp
  have hH : Le H H2 := (Le.set_new hq1).trans hle
  have m1 := hle q1 (.cells (unitC u)) set_at
  refine CW.cut (fun s' H' => s'.env 1 = .ptr q1 0 ∧ s'.env 4 = .ptr lp 0 ∧ s'.ds = [] ∧ H' = H2) ?_ ?_
  · refine CW.walk1 hX mixed d15 rfl ?_
    simp
  rintro ⟨e, ds⟩ H3 ⟨e1, e4, rfl, rfl⟩
  dsimp only at e1 e4
  refine CW.freeze (e' := (e.set 1 (.iptr (unitC u))).set 4 (.iptr (liveC u u.regs.toNat p u.spill.toNat c I))) (R := fun e2 => ∃ p2 c2, PLeast (opsOf u) p2 c2 ∧ e2 2 = ci (maxL (mostL u p I (ordL (nextN u p2) u.blocks.length))) ∧ e2 3 = ci 0) ?_ rfl (fun w hw => ?_) ?_
  · intro t
    by_cases h4 : t = 4
    · subst h4; show Fz H3 (e 4) _; rw [e4]; simpa using hL.fz
    · by_cases h1 : t = 1
      · subst h1
        show Fz H3 (e 1) _
        rw [e1]
        simp
        exact .ptr q1 0 (unitC u) (unitC u) m1 (fun j => ((unitC u)[j]?).getD .any) (fun j hj => by rw [Nat.zero_add, List.getElem?_eq_getElem hj]; rfl) (fun j x hx => by rw [hx]; exact .same _)
      · simp [h1, h4]
        exact .same _
  · have hXw : CxOk (cx w G) := CxOk.later hX hw
    clear hX hL m1 hle hH e1 e4 h32
    refine CW.walk hXw mixed d15 rfl ?_
    simp
    intro q6
    have m6 : (Hp.set (fun _ => none) q6 (.cells [.int .i64 0])) q6 = some (.cells [.int .i64 0]) := set_at
    generalize Hp.set (fun _ => none) q6 _ = H4 at m6 ⊢
    have hgn := gnew_c hXw hG u hu H4
    have hun : (CV.iptr (unitC u)) = .iptr [.sl 1 (u.sizes.map fun n => [ci n]), ci u.params, ci u.regs, ci u.code, ci u.spill, .sl 6 (u.blocks.map blkC)] := rfl
    simp only [unitC] at hgn
    refine CW.cut (fun s' H' => ∃ p2 c2, PLeast (opsOf u) p2 c2 ∧ s'.env 6 = .ptr q6 0 ∧ ∃ B, MarksOk s'.ds H' B ∧ B q6 = some (.cells [ci (maxL (mostL u p I (ordL (nextN u p2) u.blocks.length)))])) ?_ ?_
    · refine CW.walk hXw mixed d15 rfl ?_
      simp [hun]
      refine hgn.k ?_
      rintro x H5 ⟨gp, p2, c2, rn, rb, ro, ri2, rk, co, ns, bs, ex2, I2, rfl, hp2, hg⟩
      have mg := hg.g
      have mo := hg.o
      have hco := hg.co
      have m65 := hg.le _ _ m6
      have hro0 := hg.o0
      have hrq : ro ≠ q6 := fun e => by rw [e, m6] at hro0; cases hro0
      have hNb : ∀ b, b < u.blocks.length → ∀ k ∈ nextN u p2 b, k < u.blocks.length := nextN_lt
      have hO := ord_of (by omega : 0 < u.blocks.length) hNb (f := u.blocks.length) (Nat.le_refl _)
      have hlt := hO.lt
      have hnl := nodup_le _ _ hO.nd hlt
      change ∀ b ∈ ordL (nextN u p2) u.blocks.length, b < u.blocks.length at hlt
      change (ordL (nextN u p2) u.blocks.length).length ≤ _ at hnl
      clear hO
      simp [d15, mg]
      obtain ⟨order, hord⟩ : ∃ order, ordL (nextN u p2) u.blocks.length = order := ⟨_, rfl⟩
      rw [hord] at mo hco hlt hnl
      simp only [hord]
      have mB : (hole H5 q6) ro = some (.cells (nums (natL order) ex2)) := by simp only [hole, if_neg hrq]; exact mo
      have hBq : (hole H5 q6) q6 = none := by simp [hole]
      have hq0 : moQ (hole H5 q6) q6 0 H5 := ⟨hole_le, m65⟩
      generalize hole H5 q6 = B at mB hBq hq0
      clear mo mg m65 hro0 hg
      obtain ⟨lv, hlv⟩ : ∃ lv, liveC u u.regs.toNat p u.spill.toNat c I = lv := ⟨_, rfl⟩
      rw [hlv]
      refine CW.block ?_
      refine CW.loop (moI lv B q6 ro co order (fun i => maxL (mostL u p I (order.take i))) 0) ?_ (m := order.length) ⟨0, 0, H5, rfl, by omega, by simp, by simp, by simp [hord], by simp [hord], by simp, rfl, Le.refl _, by simpa [mostL, maxL] using hq0⟩
      clear hq0 m6 hgn
      clear H4 H5 e
      rintro m ⟨e, ds⟩ H5 ⟨i, i25, H2, rfl, hi, e4, e6, e23, e24, e25, hi25, hmk, hmq⟩
      obtain rfl : i = i25 := by omega
      dsimp only at e4 e6 e23 e24 e25 hmk
      by_cases hio : i < order.length
      rotate_left
      · refine CW.walk hXw mixed d15 rfl ?_
        simp [e24, e25, hio]
        refine CW.walk hXw mixed d15 rfl ?_
        simp
        obtain rfl : i = order.length := by omega
        refine ⟨p2, ⟨c2, hp2⟩, by simp [e6], H2, hmk, ?_⟩
        have := hmq.q
        rw [List.take_length] at this
        rw [this, hord]
      obtain ⟨b, hb⟩ : ∃ b, order[i]? = some b := ⟨_, List.getElem?_eq_getElem hio⟩
      have hbn := hlt b (List.mem_of_getElem? hb)
      obtain ⟨k, hke⟩ : ∃ k, u.blocks[b] = k := ⟨_, rfl⟩
      have hk : u.blocks[b]? = some k := by rw [List.getElem?_eq_getElem hbn, hke]
      have gb : (nums (natL order) ex2)[i]? = some (ci (b : Int)) := by
        simp only [nums]
        rw [List.getElem?_append_left (by simp [natL]; omega), List.getElem?_map, natL, List.getElem?_map, hb]
        rfl
      have go := hmk.get (hmq.le _ _ mB)
      refine CW.walk hXw mixed d15 rfl ?_
      simp [e24, e25, hio]
      refine CW.walk hXw mixed d15 rfl ?_
      simp
      refine CW.cut (moI lv B q6 ro co order (fun i => maxL (mostL u p I (order.take i))) 1 (order.length - (i + 1))) ?_ ?_
      rotate_left
      · clear e4 e6 e23 e24 e25 hmk hmq go
        clear e H5 H2
        rintro ⟨e, ds⟩ H5 ⟨i2, i25, H2, hm, hi2, e4, e6, e23, e24, e25, hi25, hmk, hmq⟩
        dsimp only at e4 e6 e23 e24 e25 hmk
        obtain rfl : i2 = i + 1 := by omega
        obtain rfl : i = i25 := by omega
        refine CW.walk1 hXw mixed d15 rfl ?_
        simp [e25]
        exact ⟨order.length - (i + 1), by omega, i + 1, i + 1, H2, rfl, hi2, by simp [e4], by simp [e6], by simp [e23], by simp [e24], by simp; rw [wrapI (by omega) (by omega)], rfl, hmk, hmq⟩
      refine CW.block ?_
      refine CW.walk hXw mixed d15 rfl ?_
      simp [e23, e25, hio, go, gb]
      refine CW.walk hXw mixed d15 rfl ?_
      simp [e4]
      refine (points56_c hXw lv b H5).k ?_
      rintro x H6 ⟨q2, q3, h23, n2, n3, rfl, rfl⟩
      simp
      refine CW.block ?_
      have l6 : Le H5 ((H5.set q2 (.cells [.iptr lv])).set q3 (.cells [.int .i64 b])) := (Le.set_new n2).trans (Le.set_new (by rw [hset_none_iff]; exact ⟨Ne.symm h23, n3⟩))
      have m2 : ((H5.set q2 (.cells [.iptr lv])).set q3 (.cells [.int .i64 b])) q2 = some (.cells [.iptr lv]) := by rw [hset_ne h23]; exact set_at
      have m3 : ((H5.set q2 (.cells [.iptr lv])).set q3 (.cells [.int .i64 b])) q3 = some (.cells [.int .i64 b]) := set_at
      generalize (H5.set q2 (.cells [.iptr lv])).set q3 (.cells [.int .i64 b]) = A at l6 m2 m3 ⊢
      have mq5 := hmk.get hmq.q
      have hq2 : q2 ≠ q6 := fun e => by rw [e, mq5] at n2; cases n2
      have hq3 : q3 ≠ q6 := fun e => by rw [e, mq5] at n3; cases n3
      clear mq5
      replace hmk := hmk.mono l6
      have mq := hmk.get hmq.q
      clear l6 n2 n3 go
      clear H5
      obtain ⟨M0, hM0⟩ : ∃ M0, maxL (mostL u p I (order.take i)) = M0 := ⟨_, rfl⟩
      rw [hM0] at mq
      have hit := points_itQ hXw hG u hu p u.spill.toNat c I b k hk q2 q3
      rw [hlv] at hit
      have hM1 : maxL (mostL u p I (order.take (i + 1))) = max M0 (maxL (mostB u p I k)) := by
        have : order.take (i + 1) = order.take i ++ [b] := by
          rw [List.take_succ_eq_append_getElem hio]
          rw [List.getElem?_eq_getElem hio] at hb
          injection hb with hb
          rw [hb]
        rw [this, mostL, List.flatMap_append, maxL_append]
        rw [← hM0]
        simp [mostL, hk]
      have hBl : (mostB u p I k).length = k.ops.length + 1 := by simp [mostB]
      have hAq : A q6 ≠ none := by rw [mq]; simp
      refine CW.rangeQ hXw (X := cx w G) (f := 68) (fs := []) (cap := [.ptr q2 0, .ptr q3 0]) (by simp) hit (fun H r o h hA => ⟨Le.set_new h _ _ hA.1, Le.set_new h _ _ hA.2⟩) (by simp) (by simp [ptA]) (hole A q6) A (fun kk H' => Le (hole A q6) H' ∧ H' q6 = some (.cells [.int .i64 ((max M0 (maxL ((mostB u p I k).take kk)) : Nat) : Int)])) (fun cd H' => False) ⟨by simp only [hole, if_neg hq2]; exact m2, by simp only [hole, if_neg hq3]; exact m3⟩ (fun kk H' h => h.1) ?_ ?_ (fun cd H r o h => h.elim) ⟨hole_le, by simpa [maxL] using mq⟩ ?_ ?_ (fun cd d H1 h => h.elim)
      · intro kk H' r hJ hr
        cases h : A r with
        | none => rfl
        | some o =>
          exfalso
          by_cases e1 : r = q6
          · rw [e1, hJ.2] at hr; cases hr
          · have := hJ.1 r o (by simp only [hole, if_neg e1]; exact h)
            rw [hr] at this; cases this
      · intro kk H' r o hJ hr
        have e1 : r ≠ q6 := fun e => hAq (e ▸ hr)
        exact ⟨hJ.1.put (by simp only [hole, if_neg e1]; exact hr), by rw [hset_ne (Ne.symm e1)]; exact hJ.2⟩
      · rintro l kk r H5 hkk ⟨hl5, h6⟩ hrA hr5
        have e1 : r ≠ q6 := fun e => hAq (e ▸ hrA)
        refine CW.walk1 hXw mixed d15 rfl ?_
        simp [ptA, setps]
        refine CW.block ?_
        refine CW.walk1 hXw mixed d15 rfl ?_
        simp [d15, e6, h6]
        rw [Go.Cl.ptC] at hr5
        refine (list_h hXw (mOf u) r (mOf u) _ f10 (Nat.le_refl _) hr5).k ?_
        rintro x H6 ⟨v, rfl, hle6, hsn⟩
        have h66 := hle6 _ _ h6
        simp [d15, e6, h6, h66]
        obtain ⟨x, hx⟩ : ∃ x, (upto (beforeP u p I k (k.ops.drop (k.ops.length - kk))) (64 * mOf u)).length = x := ⟨_, rfl⟩
        have hlen : (v = .nilsl ∧ x = 0) ∨ ∃ r c, v = .ref r 0 x c := by
          rcases hsn with ⟨g1, g2⟩ | ⟨r2, c2', cs2, g1, _⟩
          · exact .inl ⟨g1, by rw [← hx, g2]; rfl⟩
          · exact .inr ⟨r2, _, by rw [← hx]; exact g1⟩
        have hmx : max M0 (maxL ((mostB u p I k).take (kk + 1))) = max (max M0 (maxL ((mostB u p I k).take kk))) x := by
          have : (mostB u p I k).take (kk + 1) = (mostB u p I k).take kk ++ [x] := by
            rw [List.take_succ_eq_append_getElem (by omega)]
            congr 2
            simp [mostB, hx]
          rw [this, maxL_append, maxL_one]
          omega
        refine ⟨stabI_le rfl hle6, lenK_of hlen ?_⟩
        simp [d15, e6, h6, h66]
        rw [hmx]
        refine ⟨⟨(hl5.trans hle6).put (by simp [hole]), by split <;> omega⟩, ?_⟩
        rw [hset_ne e1]
        exact hle6 _ _ hr5
      · rintro d H5 ⟨hl5, h6⟩ hd5
        simp
        have hBn : H2 q6 ≠ none := by rw [hmq.q]; simp
        have hm2 := hmk.set (q := q6) (o := .cells [.int .i64 ((max M0 (maxL (mostB u p I k)) : Nat) : Int)]) (.inr hBn)
        rw [List.take_of_length_le (by omega)] at h6
        have hl7 : Le (A.set q6 (.cells [.int .i64 ((max M0 (maxL (mostB u p I k)) : Nat) : Int)])) H5 := by
          intro r o hr
          by_cases e1 : r = q6
          · subst e1; rw [set_at] at hr; rw [h6, hr]
          · rw [hset_ne e1] at hr
            exact hl5 r o (by simp only [hole, if_neg e1]; exact hr)
        refine ⟨i + 1, i, H2.set q6 (.cells [.int .i64 ((max M0 (maxL (mostB u p I k)) : Nat) : Int)]), rfl, by omega, by simp [e4], by simp [e6], by simp [e23], by simp [e24], by simp [e25], rfl, (hm2.mono hl7).push hd5, ⟨hmq.le.put hBq, ?_⟩⟩
        rw [hM1]
        exact set_at
    · rintro ⟨e', ds⟩ H5 ⟨p2, c2, hp2, e6, B, hmk, hB⟩
      dsimp only at e6 hmk
      have h6 := hmk.get hB
      refine CW.walk1 hXw mixed d15 rfl ?_
      simp [e6, h6]
      refine ⟨hmk.less (fun i o h => by cases h), p2, ⟨c2, hp2⟩, rfl⟩
  · rintro x e2 ds H' hx ⟨p2, c2, hp2, g2, g3⟩ hmk
    have hfin : leaveQ (cx W G) Tryz.f15.ntmps Tryz.f15.results.toList (fun x H' => Le H H' ∧ ∃ p c I p2 c2, PLeast (opsOf u) p c ∧ LLeast u p I ∧ PLeast (opsOf u) p2 c2 ∧ x = .ret (.tuple [ci (maxL (mostL u p I (ordL (nextN u p2) u.blocks.length))), ci 0])) ds ⟨plE e2, ds⟩ H' := by
      refine leave_marks ?_ hmk
      intro H5 hle5
      simp [Tryz.f15, plE, g2, g3, plainV]
      exact ⟨hH.trans hle5, p, ⟨c, hpl⟩, I, hll, p2, ⟨c2, hp2⟩, rfl⟩
    rcases hx with rfl | rfl
    · exact hfin
    · exact hfin
end Go.Cl.Gd
