/- DERIVED HERE. The clean layer: regions that draw their order, walked in one order. -/
import Derived.Test.YtfkdjajpopocpaaDoorPan
set_option linter.unusedSimpArgs false
set_option linter.unusedVariables false
namespace Go.Cl
open Go.RowKit

def wantC (N : Nat) (e : Env) (ops : Array Oper) (o : Oper) : Option Bool :=
  match o.guard with
  | none => some true
  | some (j, want) => match (ops[j]?).bind (·.dst) with
    | some d => match (if d < N then e d else .any) with
      | .bool b => some (b == want)
      | .tuple [] => some false
      | _ => none
    | none => none
def gsl (ops : Array Oper) (o : Oper) : List Nat :=
  match o.guard with
  | none => []
  | some (j, _) => ((ops[j]?).bind (·.dst)).toList
/-- The temporaries that an operation reads, its guard's too. -/
def rdG (ops : Array Oper) (o : Oper) : List Nat := rdT o.op ++ gsl ops o
def Qo (Q : CP) (o : Oper) : CP := match isPanic o.op with | true => Q | false => noP Q
/-- An operation that is wanted, or passed over. -/
def vcG (X : Cx) (N : Nat) (w : Bool) (o : Oper) (s : CA) (H : Hp) (Q : CP) (K : CV → Hp → Prop) : Prop :=
  if w = true then vcDo X N o s H (Qo Q o) K else K (.tuple []) H
def stp (X : Cx) (N : Nat) (ops : Array Oper) (o : Oper) (Q : CP) (K : CA → Hp → Prop) (s : CA) (H : Hp) : Prop :=
  dstOk N o.dst = true ∧ ∃ w, wantC N s.env ops o = some w ∧ vcG X N w o s H Q fun c H' => K (s.put o.dst c) H'

section
variable {X : Cx} {N : Nat} {ρ : Option Nat} {Q : CP} {s : CA} {H : Hp} {T : Tab} {ops : Array Oper}
theorem vcCall_mono {c : Call} {Q Q' : CP} {K K' : CV → Hp → Prop} (h : vcCall X N c s H Q K) (hq : ∀ v s H, Q (.panic v) s H → Q' (.panic v) s H) (hk : ∀ c H', K c H' → K' c H') : vcCall X N c s H Q' K' := by
  unfold vcCall at h ⊢
  split at h
  · split at h
    · exact h.mono fun x H' hx => by cases x <;> first | exact hk _ _ hx | exact hq _ _ _ hx
    · exact h.mono fun b H' hx => hk _ _ hx
    · exact h
  · exact vcBuiltin_mono h hk
  · exact h
theorem vcDo_mono {o : Oper} {Q Q' : CP} {K K' : CV → Hp → Prop} (h : vcDo X N o s H Q K) (hq : ∀ v s H, Q (.panic v) s H → Q' (.panic v) s H) (hk : ∀ c H', K c H' → K' c H') : vcDo X N o s H Q' K' := by
  unfold vcDo at h ⊢
  split at h
  · exact vcCall_mono h hq hk
  · split at h
    · exact hq _ _ _ h
    · exact h
  · exact vcOp_mono h hk
theorem vcG_mono {w : Bool} {o : Oper} {K K' : CV → Hp → Prop} (h : vcG X N w o s H Q K) (hk : ∀ c H', K c H' → K' c H') : vcG X N w o s H Q K' := by
  unfold vcG at h ⊢
  split
  · rename_i hw; rw [if_pos hw] at h; exact vcDo_mono h (fun _ _ _ h => h) hk
  · rename_i hw; rw [if_neg hw] at h; exact hk _ _ h
theorem stp_mono {o : Oper} {K K' : CA → Hp → Prop} (h : stp X N ops o Q K s H) (hk : ∀ s H, K s H → K' s H) : stp X N ops o Q K' s H := by
  obtain ⟨h1, w, h2, h3⟩ := h
  exact ⟨h1, w, h2, vcG_mono h3 fun c H' => hk _ _⟩
theorem Qo_le {o : Oper} (v : CV) (s : CA) (H : Hp) (h : Qo Q o (.panic v) s H) : Q (.panic v) s H := by
  unfold Qo at h
  cases hp : isPanic o.op <;> simp only [hp] at h
  · exact h.elim
  · exact h
/-- The region's own step, from it. -/
theorem step_of_stp {i : Nat} {o : Oper} {K : CA → Hp → Prop} (ho : ops[i]? = some o) (h : stp X N ops o Q K s H) : vcStep X N ops i Q K s H := by
  obtain ⟨hd, w, hw, h⟩ := h
  unfold vcStep vcStepO
  rw [ho]
  simp only [hd, if_true]
  unfold wantC at hw
  unfold vcG at h
  split
  · rename_i hg
    simp only [hg, Option.some.injEq] at hw
    subst hw
    exact vcDo_mono h (fun v s H => Qo_le v s H) fun _ _ h => h
  · rename_i j want hg
    simp only [hg] at hw
    split
    · rename_i d hjd
      simp only [hjd] at hw
      simp only [evC]
      split at hw
      · rename_i b hb
        simp only [hb]
        injection hw with hw
        have hN : d < N := by
          split at hb
          · assumption
          · cases hb
        have he : s.env d = .bool b := by simpa [hN] using hb
        refine splitB_of (fun e => ?_) (fun e => ?_)
        all_goals
          subst e
          rw [setv_self he]
          split
          · rename_i e2
            subst e2
            simp only [beq_self_eq_true] at hw
            subst hw
            exact vcDo_mono h (fun v s H => Qo_le v s H) fun _ _ h => h
          · rename_i e2
            have : w = false := by rw [← hw]; simpa using e2
            subst this
            exact h
      · rename_i hb
        simp only [hb]
        injection hw with hw
        subst hw
        exact h
      · cases hw
    · rename_i hjd
      simp only [hjd] at hw
      cases hw
theorem stp_of_stepO {o : Oper} {K : CA → Hp → Prop} (h : vcStepO X N ops o (Qo Q o) K s H) : stp X N ops o Q K s H := by
  unfold vcStepO at h
  split at h
  case isFalse => exact h.elim
  rename_i hd
  refine ⟨hd, ?_⟩
  split at h
  · rename_i hg
    exact ⟨true, by simp [wantC, hg], h⟩
  · rename_i j want hg
    split at h
    · rename_i d hjd
      split at h
      · rename_i b hb
        have hN : d < N := by
          simp only [evC] at hb
          split at hb
          · assumption
          · cases hb
        have he : s.env d = .bool b := by simpa [evC, hN] using hb
        have h2 := splitB_elim h
        rw [setv_self he] at h2
        refine ⟨b == want, by simp [wantC, hg, hjd, hN, he], ?_⟩
        unfold vcG
        clear h
        by_cases e : b = want
        · rw [if_pos (by simpa using e)]; rw [if_pos e] at h2; exact h2
        · rw [if_neg (by simpa using e)]; rw [if_neg e] at h2; exact h2
      · rename_i hb
        have hN : d < N := by
          simp only [evC] at hb
          split at hb
          · assumption
          · cases hb
        have he : s.env d = .tuple [] := by simpa [evC, hN] using hb
        exact ⟨false, by simp [wantC, hg, hjd, hN, he], h⟩
      · exact h.elim
    · exact h.elim
theorem wantC_congr {o : Oper} {e e' : Env} (h : ∀ t ∈ gsl ops o, e t = e' t) : wantC N e ops o = wantC N e' ops o := by
  unfold wantC
  unfold gsl at h
  split
  · rfl
  · rename_i j want hg
    simp only [hg] at h
    split
    · rename_i d hd
      rw [hd] at h
      rw [h d (by simp)]
    · rfl
theorem vcG_congr {w : Bool} {o : Oper} {s s' : CA} {K : CV → Hp → Prop} (hp : isPanic o.op = false) (h : ∀ t ∈ rdT o.op, s.env t = s'.env t) : vcG X N w o s H Q K = vcG X N w o s' H Q K := by
  unfold vcG
  have e : Qo Q o = noP Q := by
    unfold Qo
    rw [hp]
  rw [e, vcDo_congr (isPanic_ne hp) h]
theorem put_env_ne {d : Option Nat} {c : CV} {t : Nat} (h : d ≠ some t) : (s.put d c).env t = s.env t := by
  cases d with
  | none => rfl
  | some d => simp only [CA.put, Env.put, Env.set]; rw [if_neg (fun e => h (by rw [e]))]
theorem put_comm {d e : Option Nat} {c v : CV} (h : d ≠ e ∨ d = none) : (s.put d c).put e v = (s.put e v).put d c := by
  cases d with
  | none => cases e <;> rfl
  | some d =>
    cases e with
    | none => rfl
    | some e =>
      have hne : d ≠ e := by rcases h with h | h; exact fun q => h (by rw [q]); cases h
      simp only [CA.put, Env.put]
      congr 1
      funext i
      simp only [Env.set]
      by_cases h1 : i = d
      · subst h1; simp [hne]
      · by_cases h2 : i = e <;> simp [h1, h2, hne, Ne.symm hne]
/-- A load has at H' what it has at H. -/
def Stab (X : Cx) (N : Nat) (o : Oper) (s : CA) (H H' : Hp) : Prop := ∀ c, vcOp X.T o.op (evC X N s.env) H (IsV c H) → vcOp X.T o.op (evC X N s.env) H' (IsV c H')
def pre (X : Cx) (N : Nat) (ops : Array Oper) (o : Oper) (s : CA) (H : Hp) : Prop := clsO o.op = .alloc ∧ dstOk N o.dst = true ∧ ∃ w, wantC N s.env ops o = some w ∧ (w = true → vcOp X.T o.op (evC X N s.env) H fun _ _ => True)
theorem small_exact {b : Builtin} {ts : Array TypeId} {xs : List CV} {K : CV → Hp → Prop} (hb : smallB (.builtin b) = true) (h : vcBuiltin T b ts xs H K) : ∃ c, K c H ∧ ∀ H', vcBuiltin T b ts xs H' (IsV c H') := by
  unfold vcBuiltin at h ⊢
  split at h
  · split at h
    · split at h <;> first | exact ⟨_, h, fun _ => IsV.mk⟩ | exact h.elim
    · exact h.elim
  · cases hb
  · exact ⟨_, h, fun _ => IsV.mk⟩
  · exact ⟨_, h, fun _ => IsV.mk⟩
  · split at h
    · split at h
      · exact ⟨_, h, fun _ => IsV.mk⟩
      · exact h.elim
    · exact h.elim
  · exact h.elim
/-- Pure operations and loads, wanted or not: one value. -/
theorem vcG_exact {w : Bool} {o : Oper} {K : CV → Hp → Prop} (hc : clsO o.op = .pure ∨ clsO o.op = .load ∨ w = false) (h : vcG X N w o s H Q K) :
    ∃ c, K c H ∧ ∀ H', (clsO o.op = .pure ∨ w = false ∨ (∀ r ob, H r = some ob → H' r = some ob) ∨ Stab X N o s H H') → vcG X N w o s H' Q (IsV c H') := by
  unfold vcG at h ⊢
  split at h
  · rename_i hw
    have hc : clsO o.op = .pure ∨ clsO o.op = .load := by rcases hc with h | h | h; exact .inl h; exact .inr h; rw [h] at hw; cases hw
    by_cases hcall : ∃ c, o.op = .call c
    · obtain ⟨c, hop⟩ := hcall
      have hsm : smallB c.callee = true := by
        rw [hop] at hc
        simp only [clsO] at hc
        by_cases e : smallB c.callee = true
        · exact e
        · rw [if_neg e] at hc; rcases hc with hc | hc <;> cases hc
      cases hcal : c.callee with
      | builtin b =>
        rw [hcal] at hsm
        have hd : ∀ (Q : CP) (H : Hp) (K : CV → Hp → Prop), vcDo X N o s H Q K = vcBuiltin X.T b c.argTypes (evs X N s.env c.args.toList) H K := by
          intro Q H K
          simp only [vcDo, hop, vcCall, hcal]
        rw [hd] at h
        obtain ⟨v, h1, h2⟩ := small_exact hsm h
        exact ⟨v, h1, fun H' _ => by rw [if_pos hw, hd]; exact h2 H'⟩
      | value f => rw [hcal] at hsm; cases hsm
      | invoke a b => rw [hcal] at hsm; cases hsm
    have hd : ∀ (Q : CP) (H : Hp) (K : CV → Hp → Prop), vcDo X N o s H Q K = vcOp X.T o.op (evC X N s.env) H K := by
      intro Q H K
      unfold vcDo
      split
      · rename_i hh; exact absurd ⟨_, hh⟩ hcall
      · rename_i hh; rw [hh] at hc; simp [clsO] at hc
      · rfl
    rw [hd] at h
    rcases hc with hc | hc
    · obtain ⟨c, h1, h2⟩ := pure_exact hc h
      exact ⟨c, h1, fun H' _ => by rw [if_pos hw, hd]; exact h2 H'⟩
    · obtain ⟨c, h1, h2⟩ := load_exact hc h
      refine ⟨c, h1, fun H' hh => ?_⟩
      rw [if_pos hw, hd]
      rcases hh with hh | hh | hh | hh
      · rw [hc] at hh; cases hh
      · rw [hh] at hw; cases hw
      · exact h2 H' hh
      · exact hh c (h2 H fun _ _ h => h)
  · rename_i hw
    exact ⟨.tuple [], h, fun H' _ => by rw [if_neg hw]; exact IsV.mk⟩
/-- An allocation, in one form. -/
theorem alloc_nf {o : Op} {ev : Operand → CV} {H0 : Hp} {K0 : CV → Hp → Prop} (hc : clsO o = .alloc) (h : vcOp T o ev H0 K0) :
    ∃ (ob : Ob) (mk : Nat → CV), ∀ (H : Hp) (K : CV → Hp → Prop), vcOp T o ev H K ↔ ∀ r, H r = none → K (mk r) (H.set r ob) := by
  cases o <;> simp only [clsO, reduceCtorEq] at hc
  case call => split at hc <;> cases hc
  case alloc e =>
    simp only [vcOp] at h ⊢
    split at h
    · exact ⟨_, _, fun H K => Iff.rfl⟩
    · exact h.elim
  case box e x =>
    obtain ⟨h1, _⟩ := h
    exact ⟨_, _, fun H K => ⟨fun h => h.2, fun h => ⟨h1, h⟩⟩⟩
  case buildSlice t n ps =>
    simp only [vcOp] at h ⊢
    split at h
    · split at h
      · split at h
        · obtain ⟨h0, cs, h1, _⟩ := h
          refine ⟨.cells cs, fun r => .ref r 0 n n, fun H K => ⟨fun h => ?_, fun h => ⟨h0, cs, h1, h⟩⟩⟩
          obtain ⟨_, cs', h1', h2'⟩ := h
          rw [h1] at h1'
          injection h1' with h1'
          subst h1'
          exact h2'
        · exact h.elim
      · exact h.elim
    · exact h.elim
  case makeSlice t l c =>
    simp only [vcOp] at h ⊢
    split at h
    · split at h
      · split at h
        · split at h
          · obtain ⟨h1, h2, h3, h4, _⟩ := h
            exact ⟨_, _, fun H K => ⟨fun h => h.2.2.2.2, fun h => ⟨h1, h2, h3, h4, h⟩⟩⟩
          · exact h.elim
        · exact h.elim
      · exact h.elim
    · exact h.elim
theorem vcDo_alloc {o : Oper} (hc : clsO o.op = .alloc) (Q : CP) (s : CA) (H : Hp) (K : CV → Hp → Prop) : vcDo X N o s H Q K = vcOp X.T o.op (evC X N s.env) H K := by
  unfold vcDo
  split
  · rename_i hh; rw [hh] at hc; simp only [clsO] at hc; split at hc <;> cases hc
  · rename_i hh; rw [hh] at hc; simp [clsO] at hc
  · rfl
theorem notPanic_of {o : Oper} (hc : clsO o.op ≠ .eff) : ∀ x, o.op ≠ .panic x := by intro x hx; rw [hx] at hc; simp [clsO] at hc
/-- An allocation that will go through goes through elsewhere too. -/
theorem pre_move {o : Oper} {s s' : CA} {H H' : Hp} (h : pre X N ops o s H) (hr : ∀ t ∈ rdG ops o, s.env t = s'.env t) : pre X N ops o s' H' := by
  obtain ⟨hc, hdo, w, hw, h⟩ := h
  refine ⟨hc, hdo, w, by rw [← wantC_congr (fun t ht => hr t (by simp [rdG, ht]))]; exact hw, fun e => ?_⟩
  have h := h e
  obtain ⟨ob, mk, nf⟩ := alloc_nf hc h
  have := (nf H' fun _ _ => True).2 (fun _ _ => trivial)
  rwa [vcOp_congr (evC_agree (fun t ht => hr t (by simp [rdG, ht])))] at this
theorem stab_move {o : Oper} {s s' : CA} {H H' : Hp} (h : Stab X N o s H H') (hr : ∀ t ∈ rdT o.op, s.env t = s'.env t) : Stab X N o s' H H' := by
  intro c hc
  rw [← vcOp_congr (evC_agree hr)] at hc ⊢
  exact h c hc
/-- A load that stays, beside what else is held. -/
theorem stab_frame {o : Oper} {s : CA} {H H1 : Hp} {r : Nat} {ob : Ob} (hc : clsO o.op = .load) (h : Stab X N o s H H1) (hr : H r = none) (hr1 : H1 r = none) : Stab X N o s (H.set r ob) (H1.set r ob) := by
  intro c hv
  have up : vcOp X.T o.op (evC X N s.env) H (IsV c H) → vcOp X.T o.op (evC X N s.env) (H1.set r ob) (IsV c (H1.set r ob)) := by
    intro h0
    obtain ⟨c', e, h2⟩ := load_exact hc (h c h0)
    obtain ⟨rfl, _⟩ := e
    exact h2 _ fun q oq hq => by simp only [Hp.set]; rw [if_neg (fun e => by rw [e, hr1] at hq; cases hq)]; exact hq
  cases ho : o.op <;> simp only [ho, clsO, reduceCtorEq] at hc
  case call => split at hc <;> cases hc
  case load t a =>
    rw [ho] at hv up
    simp only [vcOp] at hv up ⊢
    cases ht : X.T t with
    | none => simp [ht] at hv
    | some ti =>
      cases ha : evC X N s.env a <;> simp only [ht, ha] at hv up ⊢
      case ptr q off =>
        obtain ⟨cs, h1, h2⟩ := hv
        by_cases e : q = r
        · subst e
          refine ⟨cs, by simpa [Hp.set] using h1, vcLoad_mono h2 fun c' e => ?_⟩
          obtain ⟨rfl, _⟩ := e; exact IsV.mk
        · exact up ⟨cs, by simpa [Hp.set, e] using h1, vcLoad_mono h2 fun c' e => by obtain ⟨rfl, _⟩ := e; exact IsV.mk⟩
      case iptr cs =>
        exact up (vcLoad_mono hv fun c' e => by obtain ⟨rfl, _⟩ := e; exact IsV.mk)
theorem set_comm {H : Hp} {r r' : Nat} {o o' : Ob} (h : r ≠ r') : (H.set r o).set r' o' = (H.set r' o').set r o := by
  funext i
  simp only [Hp.set]
  by_cases h1 : i = r'
  · subst h1; have h2 : ¬ i = r := fun e => h e.symm; simp [h2]
  · simp [h1]
/-- What is held beside goes through a call. -/
theorem CC.frame {P : Program} {W : World} {f : FuncId} {args : List CV} {R : CE → Hp → Prop} (h : CC P W f args H R) {r : Nat} {ob : Ob} (hr : H r = none) : CC P W f args (H.set r ob) fun x G => ∃ H1, H1 r = none ∧ G = H1.set r ob ∧ R x H1 := by
  refine ⟨h.ent, fun F av w hd hl hh => ?_⟩
  have hFr : F r = none := (hd r).resolve_left (by simp [Hp.set])
  have hd' : Disj H (F.set r ob) := by
    intro i
    by_cases e : i = r
    · subst e; exact .inl hr
    · rcases hd i with h | h
      · exact .inl (by simpa [Hp.set, e] using h)
      · exact .inr (by simp [Hp.set, e, h])
  have hu : ∀ {H1 : Hp}, H1 r = none → hun H1 (F.set r ob) = hun (H1.set r ob) F := by
    intro H1 h1
    funext i
    by_cases e : i = r
    · subst e; simp [hun, Hp.set, h1]
    · simp [hun, Hp.set, e]
  refine (h.out (F.set r ob) av w hd' hl (by rw [hu hr]; exact hh)).mono fun e w' ⟨x, H1, h1, h2, h3, h4⟩ => ?_
  have h1r : H1 r = none := (h2 r).resolve_right (by simp [Hp.set])
  exact ⟨x, H1.set r ob, h1, fun i => by
    by_cases e : i = r
    · subst e; exact .inr hFr
    · rcases h2 i with h | h
      · exact .inl (by simp [Hp.set, e, h])
      · exact .inr (by simpa [Hp.set, e] using h), by rw [← hu h1r]; exact h3, H1, h1r, rfl, h4⟩
theorem CY.frame {P : Program} {W : World} {l : Nat} {args : List CV} {R : Bool → Hp → Prop} (h : CY P W l args H R) {r : Nat} {ob : Ob} (hr : H r = none) : CY P W l args (H.set r ob) fun x G => ∃ H1, H1 r = none ∧ G = H1.set r ob ∧ R x H1 := by
  refine ⟨fun F av w hd hl hh => ?_⟩
  have hFr : F r = none := (hd r).resolve_left (by simp [Hp.set])
  have hd' : Disj H (F.set r ob) := by
    intro i
    by_cases e : i = r
    · subst e; exact .inl hr
    · rcases hd i with h | h
      · exact .inl (by simpa [Hp.set, e] using h)
      · exact .inr (by simp [Hp.set, e, h])
  have hu : ∀ {H1 : Hp}, H1 r = none → hun H1 (F.set r ob) = hun (H1.set r ob) F := by
    intro H1 h1
    funext i
    by_cases e : i = r
    · subst e; simp [hun, Hp.set, h1]
    · simp [hun, Hp.set, e]
  obtain ⟨fn, ts, asg, body, hy, hround⟩ := h.out (F.set r ob) av w hd' hl (by rw [hu hr]; exact hh)
  refine ⟨fn, ts, asg, body, hy, hround.mono fun e w' ⟨x, H1, h1, h2, h3, h4⟩ => ?_⟩
  have h1r : H1 r = none := (h2 r).resolve_right (by simp [Hp.set])
  exact ⟨x, H1.set r ob, h1, fun i => by
    by_cases e : i = r
    · subst e; exact .inr hFr
    · rcases h2 i with h | h
      · exact .inl (by simp [Hp.set, e, h])
      · exact .inr (by simpa [Hp.set, e] using h), by rw [← hu h1r]; exact h3, H1, h1r, rfl, h4⟩
end
end Go.Cl
