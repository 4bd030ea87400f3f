/- DERIVED HERE. The clean layer: in whatever order a region is drawn. -/
import Derived.Test.YtfkdjajpopocpaaDoorCl11
set_option linter.unusedSimpArgs false
set_option linter.unusedVariables false
namespace Go.Cl
open Go.RowKit

/-- A step, with what it owes to loads that stand ahead of it and may be drawn behind it: they stay. -/
def Sp (X : Cx) (N : Nat) (ops : Array Oper) (Q : CP) (ys : List Nat) (i : Nat) (K : CA → Hp → Prop) (s : CA) (H : Hp) : Prop :=
  ∃ o, ops[i]? = some o ∧ stp X N ops o Q (fun s' H' => (∀ z ∈ ys, ∀ oz, ops[z]? = some oz → Stab X N oz s H H') ∧ K s' H') s H
def runD (X : Cx) (N : Nat) (ops : Array Oper) (Q : CP) (Y : Nat → List Nat) : List Nat → CA → Hp → Prop
  | [], s, H => Q .normal s H
  | i :: l, s, H => Sp X N ops Q (Y i) i (fun s' H' => runD X N ops Q Y l s' H') s H

def noRd (d : Option Nat) (l : List Nat) : Bool := match d with | some t => !l.contains t | none => true
def dsNe (a b : Option Nat) : Bool := match a, b with | some x, some y => x != y | _, _ => true
def noRdI (ops : Array Oper) (a z : Nat) : Bool := match ops[a]?, ops[z]? with | some oa, some oz => noRd oa.dst (rdG ops oz) | _, _ => false
/-- Two operations that no edge orders, the first of them the earlier one of the order walked. -/
structure PairP (ops : Array Oper) (Y : Nat → List Nat) (y x : Nat) (oy ox : Oper) : Prop where
  r1 : noRd oy.dst (rdG ops ox) = true
  r2 : noRd ox.dst (rdG ops oy) = true
  ne : dsNe oy.dst ox.dst = true
  off : ∀ z ∈ Y y, noRdI ops x z = true
  np : isPanic ox.op = false
  cls : clsO oy.op = .pure ∨ (clsO oy.op = .load) ∨ ((clsO oy.op = .alloc ∨ isCallV oy.op = true) ∧ clsO ox.op = .alloc)
  yl : isCallV oy.op = true ∨ clsO oy.op ≠ .eff
  ld : ∀ z ∈ Y y, ∀ oz, ops[z]? = some oz → clsO oz.op = .load

section
variable {X : Cx} {N : Nat} {ρ : Option Nat} {Q : CP} {s : CA} {H : Hp} {ops : Array Oper} {Y : Nat → List Nat} {ys : List Nat}
theorem Sp_mono {i : Nat} {o : Oper} {K K' : CA → Hp → Prop} (ho : ops[i]? = some o) (h : Sp X N ops Q ys i K s H) (hk : ∀ c H, K (s.put o.dst c) H → K' (s.put o.dst c) H) : Sp X N ops Q ys i K' s H := by
  obtain ⟨o', h1, h2⟩ := h
  rw [ho] at h1; injection h1 with h1; subst h1
  obtain ⟨h3, w, h4, h5⟩ := h2
  exact ⟨o, ho, h3, w, h4, vcG_mono h5 fun c H' h => ⟨h.1, hk _ _ h.2⟩⟩
theorem noRd_env {d : Option Nat} {l : List Nat} (h : noRd d l = true) {c : CV} : ∀ t ∈ l, s.env t = (s.put d c).env t := by
  intro t ht
  refine (put_env_ne ?_).symm
  rintro rfl
  simp only [noRd, Bool.not_eq_true', List.contains_eq_mem, decide_eq_false_iff_not] at h
  exact h ht
theorem noRdI_env {a z : Nat} {oa oz : Oper} (h : noRdI ops a z = true) (ha : ops[a]? = some oa) (hz : ops[z]? = some oz) {c : CV} : ∀ t ∈ rdG ops oz, s.env t = (s.put oa.dst c).env t := by
  simp only [noRdI, ha, hz] at h
  exact noRd_env h
theorem dsNe_or {a b : Option Nat} (h : dsNe a b = true) : a ≠ b ∨ a = none := by
  cases a with
  | none => exact .inr rfl
  | some x =>
    cases b with
    | none => exact .inl (by simp)
    | some y => exact .inl (by simpa [dsNe] using h)
/-- What is held grows, or stays, by what is no effect. -/
theorem vcG_grows {w : Bool} {o : Oper} {K : CV → Hp → Prop} (hc : clsO o.op ≠ .eff) (h : vcG X N w o s H Q K) : vcG X N w o s H Q fun c H' => (∀ r ob, H r = some ob → H' r = some ob) ∧ K c H' := by
  cases hcc : clsO o.op with
  | eff => exact absurd hcc hc
  | pure =>
    obtain ⟨c, h1, h2⟩ := vcG_exact (.inl hcc) h
    exact vcG_mono (h2 H (.inl hcc)) fun c' H' e => by obtain ⟨rfl, rfl⟩ := e; exact ⟨fun _ _ h => h, h1⟩
  | load =>
    obtain ⟨c, h1, h2⟩ := vcG_exact (.inr (.inl hcc)) h
    exact vcG_mono (h2 H (.inr (.inr (.inl fun _ _ h => h)))) fun c' H' e => by obtain ⟨rfl, rfl⟩ := e; exact ⟨fun _ _ h => h, h1⟩
  | alloc =>
    cases w with
    | false => exact ⟨fun _ _ h => h, h⟩
    | true =>
      have h : vcDo X N o s H (Qo Q o) K := h
      show vcDo X N o s H (Qo Q o) _
      rw [vcDo_alloc hcc] at h ⊢
      obtain ⟨ob, mk, nf⟩ := alloc_nf hcc h
      rw [nf] at h ⊢
      exact fun r hr => ⟨fun q oq hq => by simp only [Hp.set]; rw [if_neg (fun e => by rw [e, hr] at hq; cases hq)]; exact hq, h r hr⟩
/-- What an operation still owes behind one that it has passed. -/
def still (ops : Array Oper) (y : Nat) (ys : List Nat) : List Nat := ys.filter fun z => noRdI ops y z
theorem comm_D {y x : Nat} {oy ox : Oper} {K : CA → Hp → Prop} (hoy : ops[y]? = some oy) (hox : ops[x]? = some ox) (hp : PairP ops Y y x oy ox) (hpy : isPanic oy.op = false)
    (hD : clsO oy.op = .pure ∨ (clsO oy.op = .load ∧ (clsO ox.op ≠ .eff ∨ y ∈ still ops y ys)) ∨ wantC N s.env ops oy = some false)
    (h : Sp X N ops Q (Y y) y (Sp X N ops Q ys x K) s H) : Sp X N ops Q (still ops y ys) x (Sp X N ops Q (Y y) y K) s H := by
  have hpx : isPanic ox.op = false := hp.np
  obtain ⟨oy', e1, hdy, wy, hwy, hy⟩ := h
  rw [hoy] at e1; injection e1 with e1; subst e1
  have hcc : clsO oy.op = .pure ∨ clsO oy.op = .load ∨ wy = false := by
    rcases hD with hD | hD | hD
    · exact .inl hD
    · exact .inr (.inl hD.1)
    · rw [hwy] at hD; injection hD with hD; exact .inr (.inr hD)
  obtain ⟨c, ⟨_, hx⟩, hre⟩ := vcG_exact hcc hy
  obtain ⟨ox', e2, hdx, wx, hwx, hx⟩ := hx
  rw [hox] at e2; injection e2 with e2; subst e2
  have r1 := fun t ht => noRd_env (s := s) hp.r1 (c := c) t ht
  have hwx' : wantC N s.env ops ox = some wx := by
    rw [← hwx]; exact wantC_congr fun t ht => r1 t (by simp [rdG, ht])
  refine ⟨ox, hox, hdx, wx, hwx', ?_⟩
  rw [vcG_congr (s := s) (s' := s.put oy.dst c) hpx (fun t ht => r1 t (by simp [rdG, ht]))]
  have hx2 : vcG X N wx ox (s.put oy.dst c) H Q fun v H' => ((clsO ox.op ≠ .eff → ∀ r ob, H r = some ob → H' r = some ob)) ∧ (∀ z ∈ ys, ∀ oz, ops[z]? = some oz → Stab X N oz (s.put oy.dst c) H H') ∧ K ((s.put oy.dst c).put ox.dst v) H' := by
    by_cases he : clsO ox.op = .eff
    · exact vcG_mono hx fun v H' h => ⟨fun q => absurd he q, h⟩
    · exact vcG_mono (vcG_grows he hx) fun v H' h => ⟨fun _ => h.1, h.2⟩
  refine vcG_mono hx2 fun v H' ⟨hg, hst, hK⟩ => ?_
  have hst' : ∀ z ∈ still ops y ys, ∀ oz, ops[z]? = some oz → Stab X N oz s H H' := fun z hz oz hoz => by
    obtain ⟨hz1, hz2⟩ := List.mem_filter.1 hz
    exact stab_move (hst z hz1 oz hoz) fun t ht => (noRdI_env hz2 hoy hoz t (by simp [rdG, ht])).symm
  refine ⟨hst', oy, hoy, hdy, wy, ?_, ?_⟩
  · rw [← hwy]; exact (wantC_congr fun t ht => noRd_env hp.r2 t (by simp [rdG, ht])).symm
  · rw [← vcG_congr (s := s) (s' := s.put ox.dst v) hpy (fun t ht => noRd_env hp.r2 t (by simp [rdG, ht]))]
    refine vcG_mono (hre H' ?_) fun c' H'' e => ?_
    · rcases hD with hD | hD | hD
      · exact .inl hD
      · rcases hD.2 with hD2 | hD2
        · exact .inr (.inr (.inl (hg hD2)))
        · exact .inr (.inr (.inr (hst' y hD2 oy hoy)))
      · rw [hwy] at hD; injection hD with hD; exact .inr (.inl hD)
    · obtain ⟨rfl, rfl⟩ := e
      refine ⟨fun z hz oz hoz c h => h, ?_⟩
      rw [put_comm (dsNe_or hp.ne)] at hK
      exact hK
/-- The second is an allocation that goes through already here; the first one is one too, or a call. -/
theorem comm_A {y x : Nat} {oy ox : Oper} {K : CA → Hp → Prop} (hoy : ops[y]? = some oy) (hox : ops[x]? = some ox) (hp : PairP ops Y y x oy ox) (hpx : pre X N ops ox s H) (hwy : wantC N s.env ops oy = some true)
    (hD : clsO oy.op = .alloc ∨ isCallV oy.op = true)
    (h : Sp X N ops Q (Y y) y (Sp X N ops Q [] x K) s H) : Sp X N ops Q [] x (Sp X N ops Q (Y y) y K) s H := by
  obtain ⟨oy', e1, hdy, wy, hwy', hy⟩ := h
  rw [hoy] at e1; injection e1 with e1; subst e1
  rw [hwy] at hwy'; injection hwy' with hwy'; subst hwy'
  have hy : vcDo X N oy s H (Qo Q oy) fun c H' => (∀ z ∈ Y y, ∀ oz, ops[z]? = some oz → Stab X N oz s H H') ∧ Sp X N ops Q [] x K (s.put oy.dst c) H' := hy
  obtain ⟨hcx, hdx, wx, hwx, hpx⟩ := hpx
  have rx := fun (c : CV) t ht => noRd_env (s := s) hp.r1 (c := c) t ht
  have ry := fun (c : CV) t ht => noRd_env (s := s) hp.r2 (c := c) t ht
  have hYz : ∀ z ∈ Y y, ∀ oz, ops[z]? = some oz → ∀ (c : CV), ∀ t ∈ rdG ops oz, s.env t = (s.put ox.dst c).env t := fun z hz oz hoz c => noRdI_env (hp.off z hz) hox hoz
  have hwx' : ∀ c, wantC N (s.put oy.dst c).env ops ox = some wx := fun c => by rw [← hwx]; exact (wantC_congr fun t ht => rx c t (by simp [rdG, ht])).symm
  have hwy' : ∀ c, wantC N (s.put ox.dst c).env ops oy = some true := fun c => by rw [← hwy]; exact (wantC_congr fun t ht => ry c t (by simp [rdG, ht])).symm
  have hnf : ∃ (ob : Ob) (mk : Nat → CV), ∀ (s' : CA) (H : Hp) (K : CV → Hp → Prop), (∀ t ∈ rdG ops ox, s.env t = s'.env t) → wx = true → (vcG X N wx ox s' H Q K ↔ ∀ r, H r = none → K (mk r) (H.set r ob)) := by
    cases wx with
    | false => exact ⟨.dfr, fun _ => .any, fun _ _ _ _ e => by cases e⟩
    | true =>
      obtain ⟨ob, mk, nf⟩ := alloc_nf hcx (hpx rfl)
      refine ⟨ob, mk, fun s' H K hr _ => ?_⟩
      show vcDo X N ox s' H (Qo Q ox) K ↔ _
      rw [vcDo_alloc hcx, ← vcOp_congr (evC_agree (fun t ht => hr t (by simp [rdG, ht])))]
      exact nf H K
  obtain ⟨ob, mk, nf⟩ := hnf
  have hpy0 : isPanic oy.op = false := by
    rcases hD with hD | hD
    · exact isPanic_of (by rw [hD]; simp)
    · exact isCallV_np hD
  have hpy := isPanic_ne hpy0
  have hQo : Qo Q oy = noP Q := by
    unfold Qo
    rw [hpy0]
  cases wx with
  | false =>
    refine ⟨ox, hox, hdx, false, hwx, fun z hz => by simp at hz, oy, hoy, hdy, true, hwy' _, ?_⟩
    show vcDo X N oy (s.put ox.dst (.tuple [])) H (Qo Q oy) _
    rw [hQo, ← vcDo_congr (s := s) hpy fun t ht => ry _ t (by simp [rdG, ht]), ← hQo]
    refine vcDo_mono hy (fun _ _ _ h => h) fun c H' ⟨hst, hk⟩ => ⟨fun z hz oz hoz => stab_move (hst z hz oz hoz) fun t ht => hYz z hz oz hoz _ t (by simp [rdG, ht]), ?_⟩
    obtain ⟨ox', e2, _, w', hw', hk⟩ := hk
    rw [hox] at e2; injection e2 with e2; subst e2
    rw [hwx' c] at hw'; injection hw' with hw'; subst hw'
    have hk2 := hk.2
    rw [put_comm (dsNe_or hp.ne)] at hk2
    exact hk2
  | true =>
    have inner : ∀ c H', Sp X N ops Q [] x K (s.put oy.dst c) H' → ∀ r, H' r = none → K ((s.put ox.dst (mk r)).put oy.dst c) (H'.set r ob) := by
      rintro c H' ⟨ox', e2, hdx, w', hw', hk⟩
      rw [hox] at e2; injection e2 with e2; subst e2
      rw [hwx' c] at hw'; injection hw' with hw'; subst hw'
      intro r hr
      have := (((nf (s.put oy.dst c) H' _ (rx c) rfl).1 hk) r hr).2
      rwa [put_comm (dsNe_or hp.ne)] at this
    refine ⟨ox, hox, hdx, true, hwx, (nf s H _ (fun _ _ => rfl) rfl).2 fun r hr => ⟨fun z hz => by simp at hz, oy, hoy, hdy, true, hwy' _, ?_⟩⟩
    show vcDo X N oy (s.put ox.dst (mk r)) (H.set r ob) (Qo Q oy) _
    rw [hQo, ← vcDo_congr (s := s) hpy fun t ht => ry _ t (by simp [rdG, ht]), ← hQo]
    have hfr : ∀ c H1, H1 r = none → ((∀ z ∈ Y y, ∀ oz, ops[z]? = some oz → Stab X N oz s H H1) ∧ Sp X N ops Q [] x K (s.put oy.dst c) H1) →
        (∀ z ∈ Y y, ∀ oz, ops[z]? = some oz → Stab X N oz (s.put ox.dst (mk r)) (H.set r ob) (H1.set r ob)) ∧ K ((s.put ox.dst (mk r)).put oy.dst c) (H1.set r ob) :=
      fun c H1 h1 ⟨hst, hk⟩ => ⟨fun z hz oz hoz => stab_move (stab_frame (hp.ld z hz oz hoz) (hst z hz oz hoz) hr h1) fun t ht => hYz z hz oz hoz _ t (by simp [rdG, ht]), inner c H1 hk r h1⟩
    rcases hD with hD | hD
    · rw [vcDo_alloc hD] at hy ⊢
      obtain ⟨ob1, mk1, nf1⟩ := alloc_nf hD hy
      rw [nf1] at hy ⊢
      intro r1 hr1
      have hne : r1 ≠ r := fun e => by subst e; simp [Hp.set] at hr1
      have hr1' : H r1 = none := by simpa [Hp.set, hne] using hr1
      have := hfr (mk1 r1) (H.set r1 ob1) (by simp [Hp.set, Ne.symm hne, hr]) (hy r1 hr1')
      rwa [set_comm hne] at this
    · cases hop : oy.op <;> simp only [hop, isCallV, Bool.false_eq_true] at hD
      rename_i cl
      cases hcl : cl.callee <;> simp only [hcl, Bool.false_eq_true] at hD
      rename_i fv
      simp only [vcDo, hop, vcCall, hcl] at hy ⊢
      cases hfv : evC X N s.env fv <;> simp only [hfv] at hy ⊢
      rename_i fn first cap
      cases fn <;> simp only at hy ⊢
      · refine (hy.frame hr).mono fun x' G ⟨H1, h1, hG, hR⟩ => ?_
        subst hG
        cases x' with
        | ret v => exact hfr v H1 h1 hR
        | panic v => rw [hQo] at hR; exact hR.elim
      · refine (hy.frame hr).mono fun b G ⟨H1, h1, hG, hR⟩ => ?_
        subst hG
        exact hfr _ H1 h1 hR
theorem comm {y x : Nat} {oy ox : Oper} {K : CA → Hp → Prop} (hoy : ops[y]? = some oy) (hox : ops[x]? = some ox) (hp : PairP ops Y y x oy ox) (hpx : clsO ox.op = .alloc → pre X N ops ox s H) (hys : clsO ox.op = .alloc → ys = [])
    (hl : clsO oy.op = .load → clsO ox.op = .eff → y ∈ still ops y ys) (h : Sp X N ops Q (Y y) y (Sp X N ops Q ys x K) s H) : Sp X N ops Q (still ops y ys) x (Sp X N ops Q (Y y) y K) s H := by
  have npy : isPanic oy.op = false := by
    rcases hp.cls with h | h | ⟨h | h, _⟩
    · exact isPanic_of (by rw [h]; simp)
    · exact isPanic_of (by rw [h]; simp)
    · exact isPanic_of (by rw [h]; simp)
    · exact isCallV_np h
  rcases hp.cls with hc | hc | ⟨hc, hx⟩
  · exact comm_D hoy hox hp npy (.inl hc) h
  · refine comm_D hoy hox hp npy (.inr (.inl ⟨hc, ?_⟩)) h
    by_cases he : clsO ox.op = .eff
    · exact .inr (hl hc he)
    · exact .inl he
  · obtain ⟨oy', e1, _, wy, hwy, _⟩ := id h
    rw [hoy] at e1; injection e1 with e1; subst e1
    cases wy with
    | false => exact comm_D hoy hox hp npy (.inr (.inr hwy)) h
    | true =>
      have := hys hx
      subst this
      exact comm_A hoy hox hp (hpx hx) hwy hc h
/-- What is left of what is owed, behind a row of operations that were passed. -/
def sieve (ops : Array Oper) : List Nat → List Nat → List Nat
  | [], ys => ys
  | a :: A, ys => still ops a (sieve ops A ys)
theorem sieve_nil : ∀ A : List Nat, sieve ops A [] = []
  | [] => rfl
  | a :: A => by simp [sieve, sieve_nil A, still]
/-- An operation may be done first, if it may be done ahead of each that stands before it. -/
theorem bubble {i : Nat} {oi : Oper} {B : List Nat} (hoi : ops[i]? = some oi) : ∀ (A : List Nat) (s : CA) (H : Hp), (∀ A1 a A2, A = A1 ++ a :: A2 → ∃ oa, ops[a]? = some oa ∧ PairP ops Y a i oa oi ∧ (clsO oa.op = .load → clsO oi.op = .eff → a ∈ sieve ops (a :: A2) (Y i))) →
    (clsO oi.op = .alloc → pre X N ops oi s H ∧ Y i = []) → runD X N ops Q Y (A ++ i :: B) s H → Sp X N ops Q (sieve ops A (Y i)) i (fun s H => runD X N ops Q Y (A ++ B) s H) s H
  | [], s, H, _, _, h => h
  | a :: A, s, H, ha, hpre, h => by
    have h : Sp X N ops Q (Y a) a (fun s H => runD X N ops Q Y (A ++ i :: B) s H) s H := h
    obtain ⟨oa, hoa, hp, hl⟩ := ha [] a A rfl
    refine comm hoa hoi hp (fun e => (hpre e).1) (fun e => by rw [(hpre e).2, sieve_nil]) hl (Sp_mono hoa h fun c H' h => ?_)
    refine bubble hoi A _ H' (fun A1 b A2 e => ha (a :: A1) b A2 (by rw [e]; rfl)) (fun e => ⟨pre_move (hpre e).1 (noRd_env hp.r1), (hpre e).2⟩) h
theorem vcStep_of_Sp {i : Nat} {K : CA → Hp → Prop} (h : Sp X N ops Q ys i K s H) : vcStep X N ops i Q K s H := by
  obtain ⟨o, h1, h2⟩ := h
  exact step_of_stp h1 (stp_mono h2 fun _ _ h => h.2)
end
end Go.Cl
