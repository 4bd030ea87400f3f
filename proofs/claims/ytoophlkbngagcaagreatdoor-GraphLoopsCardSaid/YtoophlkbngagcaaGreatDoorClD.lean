/- DERIVED HERE. The clean layer: regions that draw their order, walked in one order. DERIVED HERE. The clean layer: in whatever order a region is drawn. DERIVED HERE. The clean layer: a region that draws its order, walked in one order that was looked through. -/
import Derived.Test.YtoophlkbngagcaaGreatDoorPan
set_option linter.unusedSimpArgs false
set_option linter.unusedVariables false
namespace Go.Cl
open Go.RowKit

def wantC (N : Nat) (e : Env) (ops : Array Oper) (o : Oper) : Option Bool :=
  match o.guard with
  | none => some true
  | some (j, want) => match (ops[j]?).bind (·.dst) with
    | some d => match (if d < N then e d else .any) with
      | .bool b => some (b == want)
      | .tuple [] => some false
      | _ => none
    | none => none
def gsl (ops : Array Oper) (o : Oper) : List Nat :=
  match o.guard with
  | none => []
  | some (j, _) => ((ops[j]?).bind (·.dst)).toList
/-- The temporaries that an operation reads, its guard's too. -/
def rdG (ops : Array Oper) (o : Oper) : List Nat := rdT o.op ++ gsl ops o
def Qo (Q : CP) (o : Oper) : CP := match isPanic o.op with | true => Q | false => noP Q
/-- An operation that is wanted, or passed over. -/
def vcG (X : Cx) (N : Nat) (w : Bool) (o : Oper) (s : CA) (H : Hp) (Q : CP) (K : CV → Hp → Prop) : Prop :=
  if w = true then vcDo X N o s H (Qo Q o) K else K (.tuple []) H
def stp (X : Cx) (N : Nat) (ops : Array Oper) (o : Oper) (Q : CP) (K : CA → Hp → Prop) (s : CA) (H : Hp) : Prop :=
  dstOk N o.dst = true ∧ ∃ w, wantC N s.env ops o = some w ∧ vcG X N w o s H Q fun c H' => K (s.put o.dst c) H'

section
variable {X : Cx} {N : Nat} {ρ : Option Nat} {Q : CP} {s : CA} {H : Hp} {T : Tab} {ops : Array Oper}
theorem vcCall_mono {c : Call} {Q Q' : CP} {K K' : CV → Hp → Prop} (h : vcCall X N c s H Q K) (hq : ∀ v s H, Q (.panic v) s H → Q' (.panic v) s H) (hk : ∀ c H', K c H' → K' c H') : vcCall X N c s H Q' K' := by
  unfold vcCall at h ⊢
  split at h
  · split at h
    · exact h.mono fun x H' hx => by cases x <;> first | exact hk _ _ hx | exact hq _ _ _ hx
    · exact h.mono fun b H' hx => hk _ _ hx
    · exact h
  · exact vcBuiltin_mono h hk
  · exact h
theorem vcDo_mono {o : Oper} {Q Q' : CP} {K K' : CV → Hp → Prop} (h : vcDo X N o s H Q K) (hq : ∀ v s H, Q (.panic v) s H → Q' (.panic v) s H) (hk : ∀ c H', K c H' → K' c H') : vcDo X N o s H Q' K' := by
  unfold vcDo at h ⊢
  split at h
  · exact vcCall_mono h hq hk
  · split at h
    · exact hq _ _ _ h
    · exact h
  · exact vcOp_mono h hk
theorem vcG_mono {w : Bool} {o : Oper} {K K' : CV → Hp → Prop} (h : vcG X N w o s H Q K) (hk : ∀ c H', K c H' → K' c H') : vcG X N w o s H Q K' := by
  unfold vcG at h ⊢
  split
  · rename_i hw; rw [if_pos hw] at h; exact vcDo_mono h (fun _ _ _ h => h) hk
  · rename_i hw; rw [if_neg hw] at h; exact hk _ _ h
theorem stp_mono {o : Oper} {K K' : CA → Hp → Prop} (h : stp X N ops o Q K s H) (hk : ∀ s H, K s H → K' s H) : stp X N ops o Q K' s H := by
  obtain ⟨h1, w, h2, h3⟩ := h
  exact ⟨h1, w, h2, vcG_mono h3 fun c H' => hk _ _⟩
theorem Qo_le {o : Oper} (v : CV) (s : CA) (H : Hp) (h : Qo Q o (.panic v) s H) : Q (.panic v) s H := by
  unfold Qo at h
  cases hp : isPanic o.op <;> simp only [hp] at h
  · exact h.elim
  · exact h
/-- The region's own step, from it. -/
theorem step_of_stp {i : Nat} {o : Oper} {K : CA → Hp → Prop} (ho : ops[i]? = some o) (h : stp X N ops o Q K s H) : vcStep X N ops i Q K s H := by
  obtain ⟨hd, w, hw, h⟩ := h
  unfold vcStep vcStepO
  rw [ho]
  simp only [hd, if_true]
  unfold wantC at hw
  unfold vcG at h
  split
  · rename_i hg
    simp only [hg, Option.some.injEq] at hw
    subst hw
    exact vcDo_mono h (fun v s H => Qo_le v s H) fun _ _ h => h
  · rename_i j want hg
    simp only [hg] at hw
    split
    · rename_i d hjd
      simp only [hjd] at hw
      simp only [evC]
      split at hw
      · rename_i b hb
        simp only [hb]
        injection hw with hw
        have hN : d < N := by
          split at hb
          · assumption
          · cases hb
        have he : s.env d = .bool b := by simpa [hN] using hb
        refine splitB_of (fun e => ?_) (fun e => ?_)
        all_goals
          subst e
          rw [setv_self he]
          split
          · rename_i e2
            subst e2
            simp only [beq_self_eq_true] at hw
            subst hw
            exact vcDo_mono h (fun v s H => Qo_le v s H) fun _ _ h => h
          · rename_i e2
            have : w = false := by rw [← hw]; simpa using e2
            subst this
            exact h
      · rename_i hb
        simp only [hb]
        injection hw with hw
        subst hw
        exact h
      · cases hw
    · rename_i hjd
      simp only [hjd] at hw
      cases hw
theorem stp_of_stepO {o : Oper} {K : CA → Hp → Prop} (h : vcStepO X N ops o (Qo Q o) K s H) : stp X N ops o Q K s H := by
  unfold vcStepO at h
  split at h
  case isFalse => exact h.elim
  rename_i hd
  refine ⟨hd, ?_⟩
  split at h
  · rename_i hg
    exact ⟨true, by simp [wantC, hg], h⟩
  · rename_i j want hg
    split at h
    · rename_i d hjd
      split at h
      · rename_i b hb
        have hN : d < N := by
          simp only [evC] at hb
          split at hb
          · assumption
          · cases hb
        have he : s.env d = .bool b := by simpa [evC, hN] using hb
        have h2 := splitB_elim h
        rw [setv_self he] at h2
        refine ⟨b == want, by simp [wantC, hg, hjd, hN, he], ?_⟩
        unfold vcG
        clear h
        by_cases e : b = want
        · rw [if_pos (by simpa using e)]; rw [if_pos e] at h2; exact h2
        · rw [if_neg (by simpa using e)]; rw [if_neg e] at h2; exact h2
      · rename_i hb
        have hN : d < N := by
          simp only [evC] at hb
          split at hb
          · assumption
          · cases hb
        have he : s.env d = .tuple [] := by simpa [evC, hN] using hb
        exact ⟨false, by simp [wantC, hg, hjd, hN, he], h⟩
      · exact h.elim
    · exact h.elim
theorem wantC_congr {o : Oper} {e e' : Env} (h : ∀ t ∈ gsl ops o, e t = e' t) : wantC N e ops o = wantC N e' ops o := by
  unfold wantC
  unfold gsl at h
  split
  · rfl
  · rename_i j want hg
    simp only [hg] at h
    split
    · rename_i d hd
      rw [hd] at h
      rw [h d (by simp)]
    · rfl
theorem vcG_congr {w : Bool} {o : Oper} {s s' : CA} {K : CV → Hp → Prop} (hp : isPanic o.op = false) (h : ∀ t ∈ rdT o.op, s.env t = s'.env t) : vcG X N w o s H Q K = vcG X N w o s' H Q K := by
  unfold vcG
  have e : Qo Q o = noP Q := by
    unfold Qo
    rw [hp]
  rw [e, vcDo_congr (isPanic_ne hp) h]
theorem put_env_ne {d : Option Nat} {c : CV} {t : Nat} (h : d ≠ some t) : (s.put d c).env t = s.env t := by
  cases d with
  | none => rfl
  | some d => simp only [CA.put, Env.put, Env.set]; rw [if_neg (fun e => h (by rw [e]))]
theorem put_comm {d e : Option Nat} {c v : CV} (h : d ≠ e ∨ d = none) : (s.put d c).put e v = (s.put e v).put d c := by
  cases d with
  | none => cases e <;> rfl
  | some d =>
    cases e with
    | none => rfl
    | some e =>
      have hne : d ≠ e := by rcases h with h | h; exact fun q => h (by rw [q]); cases h
      simp only [CA.put, Env.put]
      congr 1
      funext i
      simp only [Env.set]
      by_cases h1 : i = d
      · subst h1; simp [hne]
      · by_cases h2 : i = e <;> simp [h1, h2, hne, Ne.symm hne]
/-- A load has at H' what it has at H. -/
def Stab (X : Cx) (N : Nat) (o : Oper) (s : CA) (H H' : Hp) : Prop := ∀ c, vcOp X.T o.op (evC X N s.env) H (IsV c H) → vcOp X.T o.op (evC X N s.env) H' (IsV c H')
def pre (X : Cx) (N : Nat) (ops : Array Oper) (o : Oper) (s : CA) (H : Hp) : Prop := clsO o.op = .alloc ∧ dstOk N o.dst = true ∧ ∃ w, wantC N s.env ops o = some w ∧ (w = true → vcOp X.T o.op (evC X N s.env) H fun _ _ => True)
theorem small_exact {b : Builtin} {ts : Array TypeId} {xs : List CV} {K : CV → Hp → Prop} (hb : smallB (.builtin b) = true) (h : vcBuiltin T b ts xs H K) : ∃ c, K c H ∧ ∀ H', vcBuiltin T b ts xs H' (IsV c H') := by
  unfold vcBuiltin at h ⊢
  split at h
  · split at h
    · split at h <;> first | exact ⟨_, h, fun _ => IsV.mk⟩ | exact h.elim
    · exact h.elim
  · cases hb
  · exact ⟨_, h, fun _ => IsV.mk⟩
  · exact ⟨_, h, fun _ => IsV.mk⟩
  · split at h
    · split at h
      · exact ⟨_, h, fun _ => IsV.mk⟩
      · exact h.elim
    · exact h.elim
  · split at h
    · split at h
      · exact ⟨_, h, fun _ => IsV.mk⟩
      · exact h.elim
    · exact h.elim
  · cases hb
  · exact h.elim
/-- Pure operations and loads, wanted or not: one value. -/
theorem vcG_exact {w : Bool} {o : Oper} {K : CV → Hp → Prop} (hc : clsO o.op = .pure ∨ clsO o.op = .load ∨ w = false) (h : vcG X N w o s H Q K) :
    ∃ c, K c H ∧ ∀ H', (clsO o.op = .pure ∨ w = false ∨ (∀ r ob, H r = some ob → H' r = some ob) ∨ Stab X N o s H H') → vcG X N w o s H' Q (IsV c H') := by
  unfold vcG at h ⊢
  split at h
  · rename_i hw
    have hc : clsO o.op = .pure ∨ clsO o.op = .load := by rcases hc with h | h | h; exact .inl h; exact .inr h; rw [h] at hw; cases hw
    by_cases hcall : ∃ c, o.op = .call c
    · obtain ⟨c, hop⟩ := hcall
      have hsm : smallB c.callee = true := by
        rw [hop] at hc
        simp only [clsO] at hc
        by_cases e : smallB c.callee = true
        · exact e
        · rw [if_neg e] at hc; rcases hc with hc | hc <;> cases hc
      cases hcal : c.callee with
      | builtin b =>
        rw [hcal] at hsm
        have hd : ∀ (Q : CP) (H : Hp) (K : CV → Hp → Prop), vcDo X N o s H Q K = vcBuiltin X.T b c.argTypes (evs X N s.env c.args.toList) H K := by
          intro Q H K
          simp only [vcDo, hop, vcCall, hcal]
        rw [hd] at h
        obtain ⟨v, h1, h2⟩ := small_exact hsm h
        exact ⟨v, h1, fun H' _ => by rw [if_pos hw, hd]; exact h2 H'⟩
      | value f => rw [hcal] at hsm; cases hsm
      | invoke a b => rw [hcal] at hsm; cases hsm
    have hd : ∀ (Q : CP) (H : Hp) (K : CV → Hp → Prop), vcDo X N o s H Q K = vcOp X.T o.op (evC X N s.env) H K := by
      intro Q H K
      unfold vcDo
      split
      · rename_i hh; exact absurd ⟨_, hh⟩ hcall
      · rename_i hh; rw [hh] at hc; simp [clsO] at hc
      · rfl
    rw [hd] at h
    rcases hc with hc | hc
    · obtain ⟨c, h1, h2⟩ := pure_exact hc h
      exact ⟨c, h1, fun H' _ => by rw [if_pos hw, hd]; exact h2 H'⟩
    · obtain ⟨c, h1, h2⟩ := load_exact hc h
      refine ⟨c, h1, fun H' hh => ?_⟩
      rw [if_pos hw, hd]
      rcases hh with hh | hh | hh | hh
      · rw [hc] at hh; cases hh
      · rw [hh] at hw; cases hw
      · exact h2 H' hh
      · exact hh c (h2 H fun _ _ h => h)
  · rename_i hw
    exact ⟨.tuple [], h, fun H' _ => by rw [if_neg hw]; exact IsV.mk⟩
/-- An allocation, in one form. -/
theorem alloc_nf {o : Op} {ev : Operand → CV} {H0 : Hp} {K0 : CV → Hp → Prop} (hc : clsO o = .alloc) (h : vcOp T o ev H0 K0) :
    ∃ (ob : Ob) (mk : Nat → CV), ∀ (H : Hp) (K : CV → Hp → Prop), vcOp T o ev H K ↔ ∀ r, H r = none → K (mk r) (H.set r ob) := by
  cases o <;> simp only [clsO, reduceCtorEq] at hc
  case call => split at hc <;> cases hc
  case alloc e =>
    simp only [vcOp] at h ⊢
    split at h
    · exact ⟨_, _, fun H K => Iff.rfl⟩
    · exact h.elim
  case box e x =>
    obtain ⟨h1, _⟩ := h
    exact ⟨_, _, fun H K => ⟨fun h => h.2, fun h => ⟨h1, h⟩⟩⟩
  case buildSlice t n ps =>
    simp only [vcOp] at h ⊢
    split at h
    · split at h
      · split at h
        · obtain ⟨h0, cs, h1, _⟩ := h
          refine ⟨.cells cs, fun r => .ref r 0 n n, fun H K => ⟨fun h => ?_, fun h => ⟨h0, cs, h1, h⟩⟩⟩
          obtain ⟨_, cs', h1', h2'⟩ := h
          rw [h1] at h1'
          injection h1' with h1'
          subst h1'
          exact h2'
        · exact h.elim
      · exact h.elim
    · exact h.elim
  case makeSlice t l c =>
    simp only [vcOp] at h ⊢
    split at h
    · split at h
      · split at h
        · split at h
          · obtain ⟨h1, h2, h3, h4, _⟩ := h
            exact ⟨_, _, fun H K => ⟨fun h => h.2.2.2.2, fun h => ⟨h1, h2, h3, h4, h⟩⟩⟩
          · exact h.elim
        · exact h.elim
      · exact h.elim
    · exact h.elim
theorem vcDo_alloc {o : Oper} (hc : clsO o.op = .alloc) (Q : CP) (s : CA) (H : Hp) (K : CV → Hp → Prop) : vcDo X N o s H Q K = vcOp X.T o.op (evC X N s.env) H K := by
  unfold vcDo
  split
  · rename_i hh; rw [hh] at hc; simp only [clsO] at hc; split at hc <;> cases hc
  · rename_i hh; rw [hh] at hc; simp [clsO] at hc
  · rfl
theorem notPanic_of {o : Oper} (hc : clsO o.op ≠ .eff) : ∀ x, o.op ≠ .panic x := by intro x hx; rw [hx] at hc; simp [clsO] at hc
/-- An allocation that will go through goes through elsewhere too. -/
theorem pre_move {o : Oper} {s s' : CA} {H H' : Hp} (h : pre X N ops o s H) (hr : ∀ t ∈ rdG ops o, s.env t = s'.env t) : pre X N ops o s' H' := by
  obtain ⟨hc, hdo, w, hw, h⟩ := h
  refine ⟨hc, hdo, w, by rw [← wantC_congr (fun t ht => hr t (by simp [rdG, ht]))]; exact hw, fun e => ?_⟩
  have h := h e
  obtain ⟨ob, mk, nf⟩ := alloc_nf hc h
  have := (nf H' fun _ _ => True).2 (fun _ _ => trivial)
  rwa [vcOp_congr (evC_agree (fun t ht => hr t (by simp [rdG, ht])))] at this
theorem stab_move {o : Oper} {s s' : CA} {H H' : Hp} (h : Stab X N o s H H') (hr : ∀ t ∈ rdT o.op, s.env t = s'.env t) : Stab X N o s' H H' := by
  intro c hc
  rw [← vcOp_congr (evC_agree hr)] at hc ⊢
  exact h c hc
/-- A load that stays, beside what else is held. -/
theorem stab_frame {o : Oper} {s : CA} {H H1 : Hp} {r : Nat} {ob : Ob} (hc : clsO o.op = .load) (h : Stab X N o s H H1) (hr : H r = none) (hr1 : H1 r = none) : Stab X N o s (H.set r ob) (H1.set r ob) := by
  intro c hv
  have up : vcOp X.T o.op (evC X N s.env) H (IsV c H) → vcOp X.T o.op (evC X N s.env) (H1.set r ob) (IsV c (H1.set r ob)) := by
    intro h0
    obtain ⟨c', e, h2⟩ := load_exact hc (h c h0)
    obtain ⟨rfl, _⟩ := e
    exact h2 _ fun q oq hq => by simp only [Hp.set]; rw [if_neg (fun e => by rw [e, hr1] at hq; cases hq)]; exact hq
  cases ho : o.op <;> simp only [ho, clsO, reduceCtorEq] at hc
  case call => split at hc <;> cases hc
  case load t a =>
    rw [ho] at hv up
    simp only [vcOp] at hv up ⊢
    cases ht : X.T t with
    | none => simp [ht] at hv
    | some ti =>
      cases ha : evC X N s.env a <;> simp only [ht, ha] at hv up ⊢
      case ptr q off =>
        obtain ⟨cs, h1, h2⟩ := hv
        by_cases e : q = r
        · subst e
          refine ⟨cs, by simpa [Hp.set] using h1, vcLoad_mono h2 fun c' e => ?_⟩
          obtain ⟨rfl, _⟩ := e; exact IsV.mk
        · exact up ⟨cs, by simpa [Hp.set, e] using h1, vcLoad_mono h2 fun c' e => by obtain ⟨rfl, _⟩ := e; exact IsV.mk⟩
      case iptr cs =>
        exact up (vcLoad_mono hv fun c' e => by obtain ⟨rfl, _⟩ := e; exact IsV.mk)
theorem set_comm {H : Hp} {r r' : Nat} {o o' : Ob} (h : r ≠ r') : (H.set r o).set r' o' = (H.set r' o').set r o := by
  funext i
  simp only [Hp.set]
  by_cases h1 : i = r'
  · subst h1; have h2 : ¬ i = r := fun e => h e.symm; simp [h2]
  · simp [h1]
/-- What is held beside goes through a call. -/
theorem CC.frame {P : Program} {W : World} {f : FuncId} {args : List CV} {R : CE → Hp → Prop} (h : CC P W f args H R) {r : Nat} {ob : Ob} (hr : H r = none) : CC P W f args (H.set r ob) fun x G => ∃ H1, H1 r = none ∧ G = H1.set r ob ∧ R x H1 := by
  refine ⟨h.ent, fun F av w hd hl hh => ?_⟩
  have hFr : F r = none := (hd r).resolve_left (by simp [Hp.set])
  have hd' : Disj H (F.set r ob) := by
    intro i
    by_cases e : i = r
    · subst e; exact .inl hr
    · rcases hd i with h | h
      · exact .inl (by simpa [Hp.set, e] using h)
      · exact .inr (by simp [Hp.set, e, h])
  have hu : ∀ {H1 : Hp}, H1 r = none → hun H1 (F.set r ob) = hun (H1.set r ob) F := by
    intro H1 h1
    funext i
    by_cases e : i = r
    · subst e; simp [hun, Hp.set, h1]
    · simp [hun, Hp.set, e]
  refine (h.out (F.set r ob) av w hd' hl (by rw [hu hr]; exact hh)).mono fun e w' ⟨x, H1, h1, h2, h3, h4⟩ => ?_
  have h1r : H1 r = none := (h2 r).resolve_right (by simp [Hp.set])
  exact ⟨x, H1.set r ob, h1, fun i => by
    by_cases e : i = r
    · subst e; exact .inr hFr
    · rcases h2 i with h | h
      · exact .inl (by simp [Hp.set, e, h])
      · exact .inr (by simpa [Hp.set, e] using h), by rw [← hu h1r]; exact h3, H1, h1r, rfl, h4⟩
theorem CY.frame {P : Program} {W : World} {l : Nat} {args : List CV} {R : Bool → Hp → Prop} (h : CY P W l args H R) {r : Nat} {ob : Ob} (hr : H r = none) : CY P W l args (H.set r ob) fun x G => ∃ H1, H1 r = none ∧ G = H1.set r ob ∧ R x H1 := by
  refine ⟨fun F av w hd hl hh => ?_⟩
  have hFr : F r = none := (hd r).resolve_left (by simp [Hp.set])
  have hd' : Disj H (F.set r ob) := by
    intro i
    by_cases e : i = r
    · subst e; exact .inl hr
    · rcases hd i with h | h
      · exact .inl (by simpa [Hp.set, e] using h)
      · exact .inr (by simp [Hp.set, e, h])
  have hu : ∀ {H1 : Hp}, H1 r = none → hun H1 (F.set r ob) = hun (H1.set r ob) F := by
    intro H1 h1
    funext i
    by_cases e : i = r
    · subst e; simp [hun, Hp.set, h1]
    · simp [hun, Hp.set, e]
  obtain ⟨fn, ts, asg, body, hy, hround⟩ := h.out (F.set r ob) av w hd' hl (by rw [hu hr]; exact hh)
  refine ⟨fn, ts, asg, body, hy, hround.mono fun e w' ⟨x, H1, h1, h2, h3, h4⟩ => ?_⟩
  have h1r : H1 r = none := (h2 r).resolve_right (by simp [Hp.set])
  exact ⟨x, H1.set r ob, h1, fun i => by
    by_cases e : i = r
    · subst e; exact .inr hFr
    · rcases h2 i with h | h
      · exact .inl (by simp [Hp.set, e, h])
      · exact .inr (by simpa [Hp.set, e] using h), by rw [← hu h1r]; exact h3, H1, h1r, rfl, h4⟩
end
end Go.Cl
set_option linter.unusedSimpArgs false
set_option linter.unusedVariables false
namespace Go.Cl
open Go.RowKit

/-- A step, with what it owes to loads that stand ahead of it and may be drawn behind it: they stay. -/
def Sp (X : Cx) (N : Nat) (ops : Array Oper) (Q : CP) (ys : List Nat) (i : Nat) (K : CA → Hp → Prop) (s : CA) (H : Hp) : Prop :=
  ∃ o, ops[i]? = some o ∧ stp X N ops o Q (fun s' H' => (∀ z ∈ ys, ∀ oz, ops[z]? = some oz → Stab X N oz s H H') ∧ K s' H') s H
def runD (X : Cx) (N : Nat) (ops : Array Oper) (Q : CP) (Y : Nat → List Nat) : List Nat → CA → Hp → Prop
  | [], s, H => Q .normal s H
  | i :: l, s, H => Sp X N ops Q (Y i) i (fun s' H' => runD X N ops Q Y l s' H') s H

def noRd (d : Option Nat) (l : List Nat) : Bool := match d with | some t => !l.contains t | none => true
def dsNe (a b : Option Nat) : Bool := match a, b with | some x, some y => x != y | _, _ => true
def noRdI (ops : Array Oper) (a z : Nat) : Bool := match ops[a]?, ops[z]? with | some oa, some oz => noRd oa.dst (rdG ops oz) | _, _ => false
/-- Two operations that no edge orders, the first of them the earlier one of the order walked. -/
structure PairP (ops : Array Oper) (Y : Nat → List Nat) (y x : Nat) (oy ox : Oper) : Prop where
  r1 : noRd oy.dst (rdG ops ox) = true
  r2 : noRd ox.dst (rdG ops oy) = true
  ne : dsNe oy.dst ox.dst = true
  off : ∀ z ∈ Y y, noRdI ops x z = true
  np : isPanic ox.op = false
  cls : clsO oy.op = .pure ∨ (clsO oy.op = .load) ∨ ((clsO oy.op = .alloc ∨ isCallV oy.op = true) ∧ clsO ox.op = .alloc)
  yl : isCallV oy.op = true ∨ clsO oy.op ≠ .eff
  ld : ∀ z ∈ Y y, ∀ oz, ops[z]? = some oz → clsO oz.op = .load

section
variable {X : Cx} {N : Nat} {ρ : Option Nat} {Q : CP} {s : CA} {H : Hp} {ops : Array Oper} {Y : Nat → List Nat} {ys : List Nat}
theorem Sp_mono {i : Nat} {o : Oper} {K K' : CA → Hp → Prop} (ho : ops[i]? = some o) (h : Sp X N ops Q ys i K s H) (hk : ∀ c H, K (s.put o.dst c) H → K' (s.put o.dst c) H) : Sp X N ops Q ys i K' s H := by
  obtain ⟨o', h1, h2⟩ := h
  rw [ho] at h1; injection h1 with h1; subst h1
  obtain ⟨h3, w, h4, h5⟩ := h2
  exact ⟨o, ho, h3, w, h4, vcG_mono h5 fun c H' h => ⟨h.1, hk _ _ h.2⟩⟩
theorem noRd_env {d : Option Nat} {l : List Nat} (h : noRd d l = true) {c : CV} : ∀ t ∈ l, s.env t = (s.put d c).env t := by
  intro t ht
  refine (put_env_ne ?_).symm
  rintro rfl
  simp only [noRd, Bool.not_eq_true', List.contains_eq_mem, decide_eq_false_iff_not] at h
  exact h ht
theorem noRdI_env {a z : Nat} {oa oz : Oper} (h : noRdI ops a z = true) (ha : ops[a]? = some oa) (hz : ops[z]? = some oz) {c : CV} : ∀ t ∈ rdG ops oz, s.env t = (s.put oa.dst c).env t := by
  simp only [noRdI, ha, hz] at h
  exact noRd_env h
theorem dsNe_or {a b : Option Nat} (h : dsNe a b = true) : a ≠ b ∨ a = none := by
  cases a with
  | none => exact .inr rfl
  | some x =>
    cases b with
    | none => exact .inl (by simp)
    | some y => exact .inl (by simpa [dsNe] using h)
/-- What is held grows, or stays, by what is no effect. -/
theorem vcG_grows {w : Bool} {o : Oper} {K : CV → Hp → Prop} (hc : clsO o.op ≠ .eff) (h : vcG X N w o s H Q K) : vcG X N w o s H Q fun c H' => (∀ r ob, H r = some ob → H' r = some ob) ∧ K c H' := by
  cases hcc : clsO o.op with
  | eff => exact absurd hcc hc
  | pure =>
    obtain ⟨c, h1, h2⟩ := vcG_exact (.inl hcc) h
    exact vcG_mono (h2 H (.inl hcc)) fun c' H' e => by obtain ⟨rfl, rfl⟩ := e; exact ⟨fun _ _ h => h, h1⟩
  | load =>
    obtain ⟨c, h1, h2⟩ := vcG_exact (.inr (.inl hcc)) h
    exact vcG_mono (h2 H (.inr (.inr (.inl fun _ _ h => h)))) fun c' H' e => by obtain ⟨rfl, rfl⟩ := e; exact ⟨fun _ _ h => h, h1⟩
  | alloc =>
    cases w with
    | false => exact ⟨fun _ _ h => h, h⟩
    | true =>
      have h : vcDo X N o s H (Qo Q o) K := h
      show vcDo X N o s H (Qo Q o) _
      rw [vcDo_alloc hcc] at h ⊢
      obtain ⟨ob, mk, nf⟩ := alloc_nf hcc h
      rw [nf] at h ⊢
      exact fun r hr => ⟨fun q oq hq => by simp only [Hp.set]; rw [if_neg (fun e => by rw [e, hr] at hq; cases hq)]; exact hq, h r hr⟩
/-- What an operation still owes behind one that it has passed. -/
def still (ops : Array Oper) (y : Nat) (ys : List Nat) : List Nat := ys.filter fun z => noRdI ops y z
theorem comm_D {y x : Nat} {oy ox : Oper} {K : CA → Hp → Prop} (hoy : ops[y]? = some oy) (hox : ops[x]? = some ox) (hp : PairP ops Y y x oy ox) (hpy : isPanic oy.op = false)
    (hD : clsO oy.op = .pure ∨ (clsO oy.op = .load ∧ (clsO ox.op ≠ .eff ∨ y ∈ still ops y ys)) ∨ wantC N s.env ops oy = some false)
    (h : Sp X N ops Q (Y y) y (Sp X N ops Q ys x K) s H) : Sp X N ops Q (still ops y ys) x (Sp X N ops Q (Y y) y K) s H := by
  have hpx : isPanic ox.op = false := hp.np
  obtain ⟨oy', e1, hdy, wy, hwy, hy⟩ := h
  rw [hoy] at e1; injection e1 with e1; subst e1
  have hcc : clsO oy.op = .pure ∨ clsO oy.op = .load ∨ wy = false := by
    rcases hD with hD | hD | hD
    · exact .inl hD
    · exact .inr (.inl hD.1)
    · rw [hwy] at hD; injection hD with hD; exact .inr (.inr hD)
  obtain ⟨c, ⟨_, hx⟩, hre⟩ := vcG_exact hcc hy
  obtain ⟨ox', e2, hdx, wx, hwx, hx⟩ := hx
  rw [hox] at e2; injection e2 with e2; subst e2
  have r1 := fun t ht => noRd_env (s := s) hp.r1 (c := c) t ht
  have hwx' : wantC N s.env ops ox = some wx := by
    rw [← hwx]; exact wantC_congr fun t ht => r1 t (by simp [rdG, ht])
  refine ⟨ox, hox, hdx, wx, hwx', ?_⟩
  rw [vcG_congr (s := s) (s' := s.put oy.dst c) hpx (fun t ht => r1 t (by simp [rdG, ht]))]
  have hx2 : vcG X N wx ox (s.put oy.dst c) H Q fun v H' => ((clsO ox.op ≠ .eff → ∀ r ob, H r = some ob → H' r = some ob)) ∧ (∀ z ∈ ys, ∀ oz, ops[z]? = some oz → Stab X N oz (s.put oy.dst c) H H') ∧ K ((s.put oy.dst c).put ox.dst v) H' := by
    by_cases he : clsO ox.op = .eff
    · exact vcG_mono hx fun v H' h => ⟨fun q => absurd he q, h⟩
    · exact vcG_mono (vcG_grows he hx) fun v H' h => ⟨fun _ => h.1, h.2⟩
  refine vcG_mono hx2 fun v H' ⟨hg, hst, hK⟩ => ?_
  have hst' : ∀ z ∈ still ops y ys, ∀ oz, ops[z]? = some oz → Stab X N oz s H H' := fun z hz oz hoz => by
    obtain ⟨hz1, hz2⟩ := List.mem_filter.1 hz
    exact stab_move (hst z hz1 oz hoz) fun t ht => (noRdI_env hz2 hoy hoz t (by simp [rdG, ht])).symm
  refine ⟨hst', oy, hoy, hdy, wy, ?_, ?_⟩
  · rw [← hwy]; exact (wantC_congr fun t ht => noRd_env hp.r2 t (by simp [rdG, ht])).symm
  · rw [← vcG_congr (s := s) (s' := s.put ox.dst v) hpy (fun t ht => noRd_env hp.r2 t (by simp [rdG, ht]))]
    refine vcG_mono (hre H' ?_) fun c' H'' e => ?_
    · rcases hD with hD | hD | hD
      · exact .inl hD
      · rcases hD.2 with hD2 | hD2
        · exact .inr (.inr (.inl (hg hD2)))
        · exact .inr (.inr (.inr (hst' y hD2 oy hoy)))
      · rw [hwy] at hD; injection hD with hD; exact .inr (.inl hD)
    · obtain ⟨rfl, rfl⟩ := e
      refine ⟨fun z hz oz hoz c h => h, ?_⟩
      rw [put_comm (dsNe_or hp.ne)] at hK
      exact hK
/-- The second is an allocation that goes through already here; the first one is one too, or a call. -/
theorem comm_A {y x : Nat} {oy ox : Oper} {K : CA → Hp → Prop} (hoy : ops[y]? = some oy) (hox : ops[x]? = some ox) (hp : PairP ops Y y x oy ox) (hpx : pre X N ops ox s H) (hwy : wantC N s.env ops oy = some true)
    (hD : clsO oy.op = .alloc ∨ isCallV oy.op = true)
    (h : Sp X N ops Q (Y y) y (Sp X N ops Q [] x K) s H) : Sp X N ops Q [] x (Sp X N ops Q (Y y) y K) s H := by
  obtain ⟨oy', e1, hdy, wy, hwy', hy⟩ := h
  rw [hoy] at e1; injection e1 with e1; subst e1
  rw [hwy] at hwy'; injection hwy' with hwy'; subst hwy'
  have hy : vcDo X N oy s H (Qo Q oy) fun c H' => (∀ z ∈ Y y, ∀ oz, ops[z]? = some oz → Stab X N oz s H H') ∧ Sp X N ops Q [] x K (s.put oy.dst c) H' := hy
  obtain ⟨hcx, hdx, wx, hwx, hpx⟩ := hpx
  have rx := fun (c : CV) t ht => noRd_env (s := s) hp.r1 (c := c) t ht
  have ry := fun (c : CV) t ht => noRd_env (s := s) hp.r2 (c := c) t ht
  have hYz : ∀ z ∈ Y y, ∀ oz, ops[z]? = some oz → ∀ (c : CV), ∀ t ∈ rdG ops oz, s.env t = (s.put ox.dst c).env t := fun z hz oz hoz c => noRdI_env (hp.off z hz) hox hoz
  have hwx' : ∀ c, wantC N (s.put oy.dst c).env ops ox = some wx := fun c => by rw [← hwx]; exact (wantC_congr fun t ht => rx c t (by simp [rdG, ht])).symm
  have hwy' : ∀ c, wantC N (s.put ox.dst c).env ops oy = some true := fun c => by rw [← hwy]; exact (wantC_congr fun t ht => ry c t (by simp [rdG, ht])).symm
  have hnf : ∃ (ob : Ob) (mk : Nat → CV), ∀ (s' : CA) (H : Hp) (K : CV → Hp → Prop), (∀ t ∈ rdG ops ox, s.env t = s'.env t) → wx = true → (vcG X N wx ox s' H Q K ↔ ∀ r, H r = none → K (mk r) (H.set r ob)) := by
    cases wx with
    | false => exact ⟨.dfr, fun _ => .any, fun _ _ _ _ e => by cases e⟩
    | true =>
      obtain ⟨ob, mk, nf⟩ := alloc_nf hcx (hpx rfl)
      refine ⟨ob, mk, fun s' H K hr _ => ?_⟩
      show vcDo X N ox s' H (Qo Q ox) K ↔ _
      rw [vcDo_alloc hcx, ← vcOp_congr (evC_agree (fun t ht => hr t (by simp [rdG, ht])))]
      exact nf H K
  obtain ⟨ob, mk, nf⟩ := hnf
  have hpy0 : isPanic oy.op = false := by
    rcases hD with hD | hD
    · exact isPanic_of (by rw [hD]; simp)
    · exact isCallV_np hD
  have hpy := isPanic_ne hpy0
  have hQo : Qo Q oy = noP Q := by
    unfold Qo
    rw [hpy0]
  cases wx with
  | false =>
    refine ⟨ox, hox, hdx, false, hwx, fun z hz => by simp at hz, oy, hoy, hdy, true, hwy' _, ?_⟩
    show vcDo X N oy (s.put ox.dst (.tuple [])) H (Qo Q oy) _
    rw [hQo, ← vcDo_congr (s := s) hpy fun t ht => ry _ t (by simp [rdG, ht]), ← hQo]
    refine vcDo_mono hy (fun _ _ _ h => h) fun c H' ⟨hst, hk⟩ => ⟨fun z hz oz hoz => stab_move (hst z hz oz hoz) fun t ht => hYz z hz oz hoz _ t (by simp [rdG, ht]), ?_⟩
    obtain ⟨ox', e2, _, w', hw', hk⟩ := hk
    rw [hox] at e2; injection e2 with e2; subst e2
    rw [hwx' c] at hw'; injection hw' with hw'; subst hw'
    have hk2 := hk.2
    rw [put_comm (dsNe_or hp.ne)] at hk2
    exact hk2
  | true =>
    have inner : ∀ c H', Sp X N ops Q [] x K (s.put oy.dst c) H' → ∀ r, H' r = none → K ((s.put ox.dst (mk r)).put oy.dst c) (H'.set r ob) := by
      rintro c H' ⟨ox', e2, hdx, w', hw', hk⟩
      rw [hox] at e2; injection e2 with e2; subst e2
      rw [hwx' c] at hw'; injection hw' with hw'; subst hw'
      intro r hr
      have := (((nf (s.put oy.dst c) H' _ (rx c) rfl).1 hk) r hr).2
      rwa [put_comm (dsNe_or hp.ne)] at this
    refine ⟨ox, hox, hdx, true, hwx, (nf s H _ (fun _ _ => rfl) rfl).2 fun r hr => ⟨fun z hz => by simp at hz, oy, hoy, hdy, true, hwy' _, ?_⟩⟩
    show vcDo X N oy (s.put ox.dst (mk r)) (H.set r ob) (Qo Q oy) _
    rw [hQo, ← vcDo_congr (s := s) hpy fun t ht => ry _ t (by simp [rdG, ht]), ← hQo]
    have hfr : ∀ c H1, H1 r = none → ((∀ z ∈ Y y, ∀ oz, ops[z]? = some oz → Stab X N oz s H H1) ∧ Sp X N ops Q [] x K (s.put oy.dst c) H1) →
        (∀ z ∈ Y y, ∀ oz, ops[z]? = some oz → Stab X N oz (s.put ox.dst (mk r)) (H.set r ob) (H1.set r ob)) ∧ K ((s.put ox.dst (mk r)).put oy.dst c) (H1.set r ob) :=
      fun c H1 h1 ⟨hst, hk⟩ => ⟨fun z hz oz hoz => stab_move (stab_frame (hp.ld z hz oz hoz) (hst z hz oz hoz) hr h1) fun t ht => hYz z hz oz hoz _ t (by simp [rdG, ht]), inner c H1 hk r h1⟩
    rcases hD with hD | hD
    · rw [vcDo_alloc hD] at hy ⊢
      obtain ⟨ob1, mk1, nf1⟩ := alloc_nf hD hy
      rw [nf1] at hy ⊢
      intro r1 hr1
      have hne : r1 ≠ r := fun e => by subst e; simp [Hp.set] at hr1
      have hr1' : H r1 = none := by simpa [Hp.set, hne] using hr1
      have := hfr (mk1 r1) (H.set r1 ob1) (by simp [Hp.set, Ne.symm hne, hr]) (hy r1 hr1')
      rwa [set_comm hne] at this
    · cases hop : oy.op <;> simp only [hop, isCallV, Bool.false_eq_true] at hD
      rename_i cl
      cases hcl : cl.callee <;> simp only [hcl, Bool.false_eq_true] at hD
      rename_i fv
      simp only [vcDo, hop, vcCall, hcl] at hy ⊢
      cases hfv : evC X N s.env fv <;> simp only [hfv] at hy ⊢
      rename_i fn first cap
      cases fn <;> simp only at hy ⊢
      · refine (hy.frame hr).mono fun x' G ⟨H1, h1, hG, hR⟩ => ?_
        subst hG
        cases x' with
        | ret v => exact hfr v H1 h1 hR
        | panic v => rw [hQo] at hR; exact hR.elim
      · refine (hy.frame hr).mono fun b G ⟨H1, h1, hG, hR⟩ => ?_
        subst hG
        exact hfr _ H1 h1 hR
theorem comm {y x : Nat} {oy ox : Oper} {K : CA → Hp → Prop} (hoy : ops[y]? = some oy) (hox : ops[x]? = some ox) (hp : PairP ops Y y x oy ox) (hpx : clsO ox.op = .alloc → pre X N ops ox s H) (hys : clsO ox.op = .alloc → ys = [])
    (hl : clsO oy.op = .load → clsO ox.op = .eff → y ∈ still ops y ys) (h : Sp X N ops Q (Y y) y (Sp X N ops Q ys x K) s H) : Sp X N ops Q (still ops y ys) x (Sp X N ops Q (Y y) y K) s H := by
  have npy : isPanic oy.op = false := by
    rcases hp.cls with h | h | ⟨h | h, _⟩
    · exact isPanic_of (by rw [h]; simp)
    · exact isPanic_of (by rw [h]; simp)
    · exact isPanic_of (by rw [h]; simp)
    · exact isCallV_np h
  rcases hp.cls with hc | hc | ⟨hc, hx⟩
  · exact comm_D hoy hox hp npy (.inl hc) h
  · refine comm_D hoy hox hp npy (.inr (.inl ⟨hc, ?_⟩)) h
    by_cases he : clsO ox.op = .eff
    · exact .inr (hl hc he)
    · exact .inl he
  · obtain ⟨oy', e1, _, wy, hwy, _⟩ := id h
    rw [hoy] at e1; injection e1 with e1; subst e1
    cases wy with
    | false => exact comm_D hoy hox hp npy (.inr (.inr hwy)) h
    | true =>
      have := hys hx
      subst this
      exact comm_A hoy hox hp (hpx hx) hwy hc h
/-- What is left of what is owed, behind a row of operations that were passed. -/
def sieve (ops : Array Oper) : List Nat → List Nat → List Nat
  | [], ys => ys
  | a :: A, ys => still ops a (sieve ops A ys)
theorem sieve_nil : ∀ A : List Nat, sieve ops A [] = []
  | [] => rfl
  | a :: A => by simp [sieve, sieve_nil A, still]
/-- An operation may be done first, if it may be done ahead of each that stands before it. -/
theorem bubble {i : Nat} {oi : Oper} {B : List Nat} (hoi : ops[i]? = some oi) : ∀ (A : List Nat) (s : CA) (H : Hp), (∀ A1 a A2, A = A1 ++ a :: A2 → ∃ oa, ops[a]? = some oa ∧ PairP ops Y a i oa oi ∧ (clsO oa.op = .load → clsO oi.op = .eff → a ∈ sieve ops (a :: A2) (Y i))) →
    (clsO oi.op = .alloc → pre X N ops oi s H ∧ Y i = []) → runD X N ops Q Y (A ++ i :: B) s H → Sp X N ops Q (sieve ops A (Y i)) i (fun s H => runD X N ops Q Y (A ++ B) s H) s H
  | [], s, H, _, _, h => h
  | a :: A, s, H, ha, hpre, h => by
    have h : Sp X N ops Q (Y a) a (fun s H => runD X N ops Q Y (A ++ i :: B) s H) s H := h
    obtain ⟨oa, hoa, hp, hl⟩ := ha [] a A rfl
    refine comm hoa hoi hp (fun e => (hpre e).1) (fun e => by rw [(hpre e).2, sieve_nil]) hl (Sp_mono hoa h fun c H' h => ?_)
    refine bubble hoi A _ H' (fun A1 b A2 e => ha (a :: A1) b A2 (by rw [e]; rfl)) (fun e => ⟨pre_move (hpre e).1 (noRd_env hp.r1), (hpre e).2⟩) h
theorem vcStep_of_Sp {i : Nat} {K : CA → Hp → Prop} (h : Sp X N ops Q ys i K s H) : vcStep X N ops i Q K s H := by
  obtain ⟨o, h1, h2⟩ := h
  exact step_of_stp h1 (stp_mono h2 fun _ _ h => h.2)
end
end Go.Cl
set_option linter.unusedSimpArgs false
set_option linter.unusedVariables false
namespace Go.Cl
open Go.RowKit

/-- One operation of a hint: its place, the loads that it must leave be, the bits of its Dst, of what it reads, its class. -/
structure HE where
  i : Nat
  ys : List Nat
  dm : Nat
  rm : Nat
  c : Nat
abbrev Hint := List HE
def hAt (l : Hint) (i : Nat) : Option HE := l.find? fun p => p.i == i
def hY (l : Hint) (i : Nat) : List Nat := match hAt l i with | some p => p.ys | none => []
def edges (ops : Array Oper) (i : Nat) : List Nat := match ops[i]? with | some o => (o.after.toList.filter (Region.binds .any)).map (·.on) | none => []
def depOf (ds : List (HE × Nat)) (j : Nat) : Nat := match ds.find? (fun p => p.1.i == j) with | some p => p.2 | none => 0
def codeOk (o : Op) : Nat → Bool
  | 0 => clsO o == .pure
  | 1 => clsO o == .load
  | 2 => clsO o == .alloc
  | 3 => isCallV o
  | 4 => clsO o == .eff && !isPanic o
  | _ => clsO o == .eff
def entOk (ops : Array Oper) (e : HE) : Bool :=
  match ops[e.i]? with
  | some o => (match o.dst with | some d => e.dm == 2 ^ d | none => true) && (rdG ops o).all (fun t => e.rm.testBit t) && codeOk o.op e.c && e.ys.all (fun z => match ops[z]? with | some oz => clsO oz.op == .load | none => false) && (e.c != 2 || e.ys.isEmpty)
  | none => false
def pairM (l : Hint) (e x : HE) : Bool :=
  (e.dm &&& x.rm == 0) && (x.dm &&& e.rm == 0) && (x.dm &&& e.dm == 0) && e.ys.all (fun z => match hAt l z with | some ez => x.dm &&& ez.rm == 0 | none => false) &&
    Nat.ble x.c 4 && (e.c == 0 || e.c == 1 || ((e.c == 2 || e.c == 3) && x.c == 2))
def needs (x e : HE) : Bool := (x.c == 3 || x.c == 4) && e.c == 1
def trip (x : HE) : Nat → List HE → Bool
  | _, [] => true
  | D, e :: l => (!needs x e || (x.ys.contains e.i && ((D ||| e.dm) &&& e.rm == 0))) && trip x (D ||| e.dm) l
def ndOf (di : Nat) (P : List HE) : List HE := P.filter fun e => !di.testBit e.i
def diOf (ops : Array Oper) (ds : List (HE × Nat)) (i : Nat) : Nat := (edges ops i).foldl (fun m j => m ||| 2 ^ j ||| depOf ds j) 0
def chk (ops : Array Oper) (l : Hint) (ds : List (HE × Nat)) : Hint → Bool
  | [] => true
  | x :: B =>
    let di := diOf ops ds x.i
    let nd := ndOf di (ds.map (·.1))
    entOk ops x && !(ds.any fun p => p.1.i == x.i) && (edges ops x.i).all (fun e => ds.any fun p => p.1.i == e) && nd.all (fun e => pairM l e x) && trip x 0 nd && chk ops l ((x, di) :: ds) B
def drawOk (ops : Array Oper) (l : Hint) : Bool := (l.length == ops.size) && ((List.range ops.size).all fun i => l.any fun p => p.i == i) && (l.all fun p => hY l p.i == p.ys) && chk ops l [] l

/-- Reached by edges. -/
inductive Dep (ops : Array Oper) : Nat → Nat → Prop where
  | base {i a} : a ∈ edges ops i → Dep ops i a
  | step {i j a} : j ∈ edges ops i → Dep ops j a → Dep ops i a
def DsOk (ops : Array Oper) (ds : List (HE × Nat)) : Prop := ∀ p ∈ ds, ∀ a, p.2.testBit a = true → Dep ops p.1.i a
/-- What the look finds of one operation, beside those ahead of it, the latest first. -/
structure Good (ops : Array Oper) (l : Hint) (P : List HE) (x : HE) : Prop where
  ent : entOk ops x = true
  edg : ∀ e ∈ edges ops x.i, e ∈ P.map (·.i)
  nd : ∃ di : Nat, (∀ a, di.testBit a = true → Dep ops x.i a) ∧ (ndOf di P).all (fun e => pairM l e x) = true ∧ trip x 0 (ndOf di P) = true

section
variable {X : Cx} {N : Nat} {ρ : Option Nat} {Q : CP} {s : CA} {H : Hp} {ops : Array Oper} {l : Hint} {Y : Nat → List Nat}

theorem diOf_spec {ds : List (HE × Nat)} (h : DsOk ops ds) {i : Nat} : ∀ a, (diOf ops ds i).testBit a = true → Dep ops i a := by
  have key : ∀ (es : List Nat) (m : Nat), (∀ e ∈ es, e ∈ edges ops i) → (∀ a, m.testBit a = true → Dep ops i a) → ∀ a, (es.foldl (fun m j => m ||| 2 ^ j ||| depOf ds j) m).testBit a = true → Dep ops i a := by
    intro es
    induction es with
    | nil => intro m _ hm a ha; exact hm a ha
    | cons e es ih =>
      intro m he hm a ha
      refine ih _ (fun e' h' => he e' (by simp [h'])) (fun b hb => ?_) a ha
      simp only [Nat.testBit_or, Bool.or_eq_true] at hb
      rcases hb with (hb | hb) | hb
      · exact hm b hb
      · have : b = e := by
          rw [Nat.testBit_two_pow] at hb
          exact (by simpa using hb : e = b).symm
        subst this
        exact .base (he b (by simp))
      · unfold depOf at hb
        split at hb
        · rename_i p hp
          have h1 := List.mem_of_find?_eq_some hp
          have h2 : p.1.i = e := by simpa using List.find?_some hp
          exact .step (he e (by simp)) (h2 ▸ h p h1 b hb)
        · simp at hb
  exact key _ 0 (fun _ h => h) (fun a ha => by simp at ha)
theorem chk_spec : ∀ (C : Hint) (ds : List (HE × Nat)), DsOk ops ds → chk ops l ds C = true →
    (∀ x ∈ C, x.i ∉ ds.map (·.1.i)) ∧ (C.map (·.i)).Nodup ∧ ∀ A x B, C = A ++ x :: B → Good ops l (A.reverse ++ ds.map (·.1)) x
  | [], ds, _, _ => ⟨by simp, List.nodup_nil, fun A i B h => by simp at h⟩
  | x :: B, ds, hds, h => by
    simp only [chk, Bool.and_eq_true] at h
    obtain ⟨⟨⟨⟨⟨h1, h2⟩, h3⟩, h4⟩, h5⟩, h6⟩ := h
    have h2 : x.i ∉ ds.map (·.1.i) := by
      intro hm
      obtain ⟨p, hp, e⟩ := List.mem_map.1 hm
      have : (ds.any fun p => p.1.i == x.i) = true := List.any_eq_true.2 ⟨p, hp, by simp [e]⟩
      rw [this] at h2; cases h2
    have hds' : DsOk ops ((x, diOf ops ds x.i) :: ds) := by
      intro p hp a ha
      rcases List.mem_cons.1 hp with rfl | hp
      · exact diOf_spec hds a ha
      · exact hds p hp a ha
    obtain ⟨k1, k2, k3⟩ := chk_spec B _ hds' h6
    refine ⟨?_, ?_, ?_⟩
    · intro y hy
      rcases List.mem_cons.1 hy with rfl | hy
      · exact h2
      · exact fun hm => k1 y hy (by simp only [List.map_cons, List.mem_cons]; exact .inr hm)
    · simp only [List.map_cons, List.nodup_cons]
      refine ⟨fun hm => ?_, k2⟩
      obtain ⟨y, hy, e⟩ := List.mem_map.1 hm
      exact k1 y hy (by simp [e])
    · intro A x' B' e
      cases A with
      | nil =>
        simp only [List.nil_append, List.cons.injEq] at e
        obtain ⟨rfl, rfl⟩ := e
        refine ⟨h1, fun e he => ?_, diOf ops ds x.i, diOf_spec hds, by simpa using h4, by simpa using h5⟩
        obtain ⟨p, hp, hpe⟩ := List.any_eq_true.1 (List.all_eq_true.1 h3 e he)
        simp only [List.reverse_nil, List.nil_append, List.map_map, List.mem_map]
        exact ⟨p, hp, by simpa using hpe⟩
      | cons a0 A =>
        simp only [List.cons_append, List.cons.injEq] at e
        obtain ⟨rfl, rfl⟩ := e
        have := k3 A x' B' rfl
        simpa using this

theorem and_zero {a b : Nat} (h : (a &&& b == 0) = true) {t : Nat} (ha : a.testBit t = true) : b.testBit t = false := by
  have h : a &&& b = 0 := by simpa using h
  have := congrArg (·.testBit t) h
  simp only [Nat.testBit_and, ha, Bool.true_and, Nat.zero_testBit] at this
  exact this
theorem ent_op {e : HE} (h : entOk ops e = true) : ∃ o, ops[e.i]? = some o ∧ (∀ d, o.dst = some d → e.dm.testBit d = true) ∧ (∀ t ∈ rdG ops o, e.rm.testBit t = true) ∧ codeOk o.op e.c = true ∧ (∀ z ∈ e.ys, ∃ oz, ops[z]? = some oz ∧ clsO oz.op = .load) ∧ (e.c = 2 → e.ys = []) := by
  unfold entOk at h
  split at h
  · rename_i o ho
    simp only [Bool.and_eq_true] at h
    obtain ⟨⟨⟨⟨h1, h2⟩, h3⟩, h4⟩, h5⟩ := h
    refine ⟨o, ho, fun d hd => ?_, fun t ht => List.all_eq_true.1 h2 t ht, h3, fun z hz => ?_, fun hc => ?_⟩
    · simp only [hd, beq_iff_eq] at h1
      rw [h1, Nat.testBit_two_pow]; simp
    · have := List.all_eq_true.1 h4 z hz
      split at this
      · rename_i oz hoz; exact ⟨oz, hoz, by simpa using this⟩
      · cases this
    · simpa [hc] using h5
  · cases h
theorem noRd_of {e x : HE} {oe ox : Oper} (h : (e.dm &&& x.rm == 0) = true) (he : ∀ d, oe.dst = some d → e.dm.testBit d = true) (hx : ∀ t ∈ rdG ops ox, x.rm.testBit t = true) : noRd oe.dst (rdG ops ox) = true := by
  unfold noRd
  split
  · rename_i t ht
    have h1 := and_zero h (he t ht)
    simp only [Bool.not_eq_true', List.contains_eq_mem, decide_eq_false_iff_not]
    intro hm
    rw [hx t hm] at h1; cases h1
  · rfl
theorem callV_cls : ∀ {o : Op}, isCallV o = true → clsO o = .eff ∧ isPanic o = false
  | .call cl, h => by
    refine ⟨?_, isCallV_np h⟩
    cases hc : cl.callee <;> simp only [isCallV, hc, Bool.false_eq_true] at h
    simp [clsO, smallB, hc]
theorem code_cls {o : Op} {c : Nat} (h : codeOk o c = true) : (c = 0 → clsO o = .pure) ∧ (c = 1 → clsO o = .load) ∧ (c = 2 → clsO o = .alloc) ∧ (c = 3 → isCallV o = true) ∧ (c ≤ 4 → isPanic o = false) ∧ (clsO o = .load → c = 1) ∧ (clsO o = .alloc → c = 2) ∧ (clsO o = .eff → c = 3 ∨ c = 4 ∨ 5 ≤ c) := by
  have hce : isCallV o = true → clsO o = .eff ∧ isPanic o = false := callV_cls
  have hpe : isPanic o = true → clsO o = .eff := by
    exact isPanic_eff
  have hnp : clsO o ≠ .eff → isPanic o = false := by
    intro h
    cases hh : isPanic o
    · rfl
    · exact absurd (hpe hh) h
  match c, h with
  | 0, h => have h : clsO o = .pure := by simpa [codeOk] using h
            exact ⟨fun _ => h, by simp, by simp, by simp, fun _ => hnp (by rw [h]; simp), by rw [h]; simp, by rw [h]; simp, by rw [h]; simp⟩
  | 1, h => have h : clsO o = .load := by simpa [codeOk] using h
            exact ⟨by simp, fun _ => h, by simp, by simp, fun _ => hnp (by rw [h]; simp), by simp, by rw [h]; simp, by rw [h]; simp⟩
  | 2, h => have h : clsO o = .alloc := by simpa [codeOk] using h
            exact ⟨by simp, by simp, fun _ => h, by simp, fun _ => hnp (by rw [h]; simp), by rw [h]; simp, by simp, by rw [h]; simp⟩
  | 3, h => have h : isCallV o = true := by simpa [codeOk] using h
            have h2 := hce h
            exact ⟨by simp, by simp, by simp, fun _ => h, fun _ => h2.2, by rw [h2.1]; simp, by rw [h2.1]; simp, by simp⟩
  | 4, h => have h : clsO o = .eff ∧ isPanic o = false := by simpa [codeOk] using h
            exact ⟨by simp, by simp, by simp, by simp, fun _ => h.2, by rw [h.1]; simp, by rw [h.1]; simp, by simp⟩
  | c + 5, h => have h : clsO o = .eff := by simpa [codeOk] using h
                exact ⟨by simp, by simp, by simp, by simp, fun h => absurd h (by omega), by rw [h]; simp, by rw [h]; simp, fun _ => .inr (.inr (by omega))⟩
theorem pair_of {C : Hint} (hl : ∀ p ∈ C, hY C p.i = p.ys) (hall : ∀ p ∈ C, entOk ops p = true) {e x : HE} (he : e ∈ C) (hx : x ∈ C) (h : pairM C e x = true) : ∃ oe ox, ops[e.i]? = some oe ∧ ops[x.i]? = some ox ∧ PairP ops (hY C) e.i x.i oe ox := by
  obtain ⟨oe, e1, e2, e3, e4, e5, e6⟩ := ent_op (hall e he)
  obtain ⟨ox, x1, x2, x3, x4, x5, x6⟩ := ent_op (hall x hx)
  simp only [pairM, Bool.and_eq_true] at h
  obtain ⟨⟨⟨⟨⟨h1, h2⟩, h3⟩, h4⟩, h5⟩, h6⟩ := h
  have h5 : x.c ≤ 4 := by simpa using h5
  have ce := code_cls e4
  have cx := code_cls x4
  refine ⟨oe, ox, e1, x1, ⟨noRd_of h1 e2 x3, noRd_of h2 x2 e3, ?_, fun z hz => ?_, cx.2.2.2.2.1 h5, ?_, ?_, fun z hz oz hoz => ?_⟩⟩
  · unfold dsNe
    split
    · rename_i a b ha hb
      simp only [bne_iff_ne, ne_eq]
      rintro rfl
      have := and_zero h3 (x2 _ hb)
      rw [e2 _ ha] at this; cases this
    · rfl
  · rw [hl e he] at hz
    have := List.all_eq_true.1 h4 z hz
    split at this
    · rename_i ez hez
      have h1' := List.mem_of_find?_eq_some hez
      have h2' : ez.i = z := by simpa using List.find?_some hez
      obtain ⟨oz, z1, z2, z3, _⟩ := ent_op (hall ez h1')
      rw [h2'] at z1
      simp only [noRdI, x1, z1]
      exact noRd_of this x2 z3
    · cases this
  · simp only [Bool.or_eq_true, Bool.and_eq_true, beq_iff_eq] at h6
    rcases h6 with (h6 | h6) | ⟨h6 | h6, h7⟩
    · exact .inl (ce.1 h6)
    · exact .inr (.inl (ce.2.1 h6))
    · exact .inr (.inr ⟨.inl (ce.2.2.1 h6), cx.2.2.1 h7⟩)
    · exact .inr (.inr ⟨.inr (ce.2.2.2.1 h6), cx.2.2.1 h7⟩)
  · simp only [Bool.or_eq_true, Bool.and_eq_true, beq_iff_eq] at h6
    rcases h6 with (h6 | h6) | ⟨h6 | h6, h7⟩
    · exact .inr (by rw [ce.1 h6]; simp)
    · exact .inr (by rw [ce.2.1 h6]; simp)
    · exact .inr (by rw [ce.2.2.1 h6]; simp)
    · exact .inl (ce.2.2.2.1 h6)
  · rw [hl e he] at hz
    obtain ⟨oz', hz1, hz2⟩ := e5 z hz
    rw [hoz] at hz1; injection hz1 with hz1; subst hz1; exact hz2
theorem trip_spec {x : HE} : ∀ (nd : List HE) (D : Nat), trip x D nd = true → nd.Pairwise (fun b e => needs x e = true → (b.dm &&& e.rm == 0) = true) ∧ ∀ e ∈ nd, needs x e = true → e.i ∈ x.ys ∧ (D &&& e.rm == 0) = true ∧ (e.dm &&& e.rm == 0) = true
  | [], D, _ => ⟨List.Pairwise.nil, by simp⟩
  | e :: nd, D, h => by
    simp only [trip, Bool.and_eq_true, Bool.or_eq_true, Bool.not_eq_true', List.contains_eq_mem, decide_eq_true_eq] at h
    obtain ⟨h1, h2⟩ := h
    obtain ⟨k1, k2⟩ := trip_spec nd _ h2
    have sp : ∀ {a b c : Nat}, ((a ||| b) &&& c == 0) = true → (a &&& c == 0) = true ∧ (b &&& c == 0) = true := by
      intro a b c h
      have h : (a ||| b) &&& c = 0 := by simpa using h
      rw [Nat.and_or_distrib_right, Nat.or_eq_zero_iff] at h
      simpa using h
    refine ⟨List.pairwise_cons.2 ⟨fun b hb hn => (sp (k2 b hb hn).2.1).2, k1⟩, fun b hb hn => ?_⟩
    rcases List.mem_cons.1 hb with rfl | hb
    · rcases h1 with h1 | h1
      · rw [hn] at h1; cases h1
      · exact ⟨h1.1, sp h1.2⟩
    · obtain ⟨q1, q2, q3⟩ := k2 b hb hn
      exact ⟨q1, (sp q2).1, q3⟩
theorem mem_sieve {z : Nat} {ys : List Nat} : ∀ (A : List Nat), z ∈ ys → (∀ b ∈ A, noRdI ops b z = true) → z ∈ sieve ops A ys
  | [], h, _ => h
  | a :: A, h, hb => List.mem_filter.2 ⟨mem_sieve A h fun b hb' => hb b (by simp [hb']), hb a (by simp)⟩

/-- Some run is here. -/
def Real (X : Cx) (N : Nat) (s : CA) (H : Hp) : Prop := ∃ F a w, Disj H F ∧ RepA X.W N s a ∧ Held X.W (hun H F) w
theorem upon_some {P : Program} {ρ : Option Nat} {o : Oper} {a : Act} {next : Act → World → Prop} {r : Result Next} {Q : Exit → Act → World → Prop} (hQ : ∀ e a w, ¬ Q e a w) (h : o.uponIn (fen ρ) 0 P a next Q r) : ∃ a' w', next a' w' := by
  have room : ∀ n, (fen ρ).room n := fun n d hd => by simp [fen] at hd
  cases r with
  | ok n w =>
    cases n with
    | value v => exact ⟨_, _, h⟩
    | skip => exact ⟨_, _, h⟩
    | defer d => exact ⟨_, _, h⟩
    | enter f args =>
      obtain ⟨e, w', fr, hR, _⟩ := h.2.2 [] (room _)
      cases e with
      | returned v => exact ⟨_, _, hR⟩
      | panicked ch => exact (hQ _ _ _ hR).elim
      | outgrown => obtain ⟨_, _, hR⟩ := hR; exact (hQ _ _ _ hR).elim
    | row row args =>
      obtain ⟨v, w', hR, _⟩ := h.2 default [] (room _)
      exact ⟨_, _, hR⟩
    | round l f ts asg body =>
      obtain ⟨e, w', hR, _⟩ := h.2.2 default [] (room _)
      cases e with
      | returned v => exact ⟨_, _, hR⟩
      | panicked ch => exact (hQ _ _ _ hR).elim
      | outgrown => obtain ⟨_, _, hR⟩ := hR; exact (hQ _ _ _ hR).elim
    | _ => exact h.elim
  | halt x w =>
    cases x <;> first | exact (hQ _ _ _ h).elim | exact h.elim
theorem progress (hX : CxOk X) {o : Oper} {K : CV → Hp → Prop} (hr : Real X N s H) (hd : dstOk N o.dst = true) (h : vcDo X N o s H (noP Q) K) : ∃ c H', K c H' ∧ Real X N (s.put o.dst c) H' := by
  obtain ⟨F, a, w, h1, h2, h3⟩ := hr
  have h' : vcDo X N o s H (fun _ _ _ => False) K := vcDo_mono h (fun _ _ _ h => h) fun _ _ h => h
  have := do_sound (ρ := none) (next := fun a' w' => ∃ c H', K c H' ∧ Real X N (s.put o.dst c) H') hX h1 h2 h3 hd h' fun c v H' w' hv hd' hh' hk => ⟨c, H', hk, F, _, w', hd', h2.put hd hv, hh'⟩
  obtain ⟨_, _, h⟩ := upon_some (fun e a w ⟨_, _, _, _, _, _, _, h⟩ => h) this.2
  exact h
theorem progress_Sp (hX : CxOk X) {a : Nat} {oa : Oper} {ys : List Nat} {K : CA → Hp → Prop} (hoa : ops[a]? = some oa) (hnp : isPanic oa.op = false) (hr : Real X N s H) (h : Sp X N ops Q ys a K s H) : ∃ c H', K (s.put oa.dst c) H' ∧ Real X N (s.put oa.dst c) H' := by
  obtain ⟨o, e1, hd, w, hw, h⟩ := h
  rw [hoa] at e1; injection e1 with e1; subst e1
  cases w with
  | false =>
    refine ⟨.tuple [], H, h.2, ?_⟩
    obtain ⟨F, a, w, h1, h2, h3⟩ := hr
    exact ⟨F, _, w, h1, h2.put hd (rep_undef _), h3⟩
  | true =>
    have h : vcDo X N oa s H (Qo Q oa) fun c H' => _ ∧ K (s.put oa.dst c) H' := h
    have hQo : Qo Q oa = noP Q := by
      unfold Qo
      rw [hnp]
    rw [hQo] at h
    obtain ⟨c, H', ⟨_, k⟩, hr'⟩ := progress hX hr hd h
    exact ⟨c, H', k, hr'⟩
/-- What an allocation behind a row asks, is there ahead of the row. -/
theorem reach (hX : CxOk X) {i : Nat} {oi : Oper} {B : List Nat} (hoi : ops[i]? = some oi) (hc : clsO oi.op = .alloc) : ∀ (A : List Nat) (s : CA) (H : Hp), (∀ a ∈ A, ∃ oa, ops[a]? = some oa ∧ isPanic oa.op = false ∧ noRd oa.dst (rdG ops oi) = true) → Real X N s H → runD X N ops Q Y (A ++ i :: B) s H → pre X N ops oi s H
  | [], s, H, _, _, h => by
    obtain ⟨o, e1, hd, w, hw, h⟩ := (h : Sp X N ops Q (Y i) i _ s H)
    rw [hoi] at e1; injection e1 with e1; subst e1
    refine ⟨hc, hd, w, hw, fun e => ?_⟩
    subst e
    have h : vcDo X N oi s H (Qo Q oi) _ := h
    rw [vcDo_alloc hc] at h
    exact vcOp_mono h fun _ _ _ => trivial
  | a :: A, s, H, hA, hr, h => by
    obtain ⟨oa, hoa, hnp, hn⟩ := hA a (by simp)
    obtain ⟨c, H', hk, hr'⟩ := progress_Sp hX hoa hnp hr (h : Sp X N ops Q (Y a) a _ s H)
    have := reach hX hoi hc A _ H' (fun b hb => hA b (by simp [hb])) hr' hk
    exact pre_move this fun t ht => (noRd_env hn t ht).symm

theorem CO.real {l : List Nat} (h : Real X N s H → CO X.P X.W N ρ ops l Q s H) : CO X.P X.W N ρ ops l Q s H :=
  ⟨fun F a w hd hr hh => (h ⟨F, a, w, hd, hr, hh⟩).out F a w hd hr hh⟩
def unl (l : Array Bool) (i : Nat) : Bool := !l.getD i false
/-- Whatever is drawn. -/
theorem draw_go (hX : CxOk X) {C : Hint} (hC : chk ops C [] C = true) (hYl : ∀ p ∈ C, hY C p.i = p.ys) (hall : ∀ i, i < ops.size → i ∈ C.map (·.i)) : ∀ (fuel t : Nat) (listed : Array Bool) (s : CA) (H : Hp), listed.size = ops.size →
    (∀ j, listed.getD j false = true → ∀ e ∈ edges ops j, listed.getD e false = true) → (C.filter fun e => unl listed e.i).length = fuel →
    runD X N ops Q (hY C) ((C.filter fun e => unl listed e.i).map (·.i)) s H → CO X.P X.W N ρ ops (Region.linearise.go .any ops fuel t listed []) Q s H := by
  obtain ⟨_, c2, c3⟩ := chk_spec C [] (by intro p hp; simp at hp) hC
  have c3 : ∀ A x B, C = A ++ x :: B → Good ops C A.reverse x := fun A x B e => by simpa using c3 A x B e
  have hent : ∀ p ∈ C, entOk ops p = true := by
    intro p hp
    obtain ⟨A, B, e⟩ := List.append_of_mem hp
    exact (c3 A p B e).ent
  intro fuel
  induction fuel with
  | zero =>
    intro t listed s H hsz hdown hlen h
    have : (C.filter fun e => unl listed e.i) = [] := List.eq_nil_of_length_eq_zero hlen
    rw [this] at h
    simp only [Region.linearise.go, List.reverse_nil]
    exact CO.nil h
  | succ fuel ih =>
    intro t listed s H hsz hdown hlen h
    refine CO.real fun hreal => ?_
    simp only [Region.linearise.go]
    change CO X.P X.W N ρ ops (match (Region.ready .any ops listed)[t % (Region.ready .any ops listed).length]? with
      | some i => Region.linearise.go .any ops fuel (t / (Region.ready .any ops listed).length) (listed.setIfInBounds i true) [i]
      | none => [].reverse) Q s H
    have hgd : ∀ i, i < ops.size → listed.getD i true = listed.getD i false := by
      intro i hi
      have : i < listed.size := by omega
      simp [Array.getD, this]
    have hmem : ∀ i, i ∈ Region.ready .any ops listed ↔ i < ops.size ∧ listed.getD i false = false ∧ ∀ e ∈ edges ops i, listed.getD e false = true := by
      intro i
      simp only [Region.ready, List.mem_filter, List.mem_range]
      constructor
      · rintro ⟨hi, hx⟩
        rw [hgd i hi] at hx
        simp only [Array.getElem?_eq_getElem hi, Option.map_some, Option.getD_some, Bool.and_eq_true, Bool.not_eq_true', Array.all_eq_true'] at hx
        refine ⟨hi, hx.1, fun e he => ?_⟩
        simp only [edges, Array.getElem?_eq_getElem hi, List.mem_map, List.mem_filter, Array.mem_toList_iff] at he
        obtain ⟨ed, ⟨h1, h2⟩, rfl⟩ := he
        have := hx.2 ed h1
        simpa [h2] using this
      · rintro ⟨hi, h1, h2⟩
        refine ⟨hi, ?_⟩
        rw [hgd i hi]
        simp only [Array.getElem?_eq_getElem hi, Option.map_some, Option.getD_some, Bool.and_eq_true, Bool.not_eq_true', Array.all_eq_true']
        refine ⟨h1, fun ed hed => ?_⟩
        cases hb : Region.binds .any ed with
        | false => rfl
        | true =>
          simp only [Bool.not_true, Bool.false_or]
          exact h2 ed.on (by simp only [edges, Array.getElem?_eq_getElem hi, List.mem_map, List.mem_filter, Array.mem_toList_iff]; exact ⟨ed, ⟨hed, hb⟩, rfl⟩)
    have hsz' : ∀ p ∈ C, p.i < ops.size := by
      intro p hp
      obtain ⟨o, ho, _⟩ := ent_op (hent p hp)
      exact (Array.getElem?_eq_some_iff.1 ho).1
    have hne : Region.ready .any ops listed ≠ [] := by
      cases hf : C.filter (fun e => unl listed e.i) with
      | nil => rw [hf] at hlen; simp at hlen
      | cons x L =>
        have hiC : x ∈ C.filter (fun e => unl listed e.i) := by rw [hf]; simp
        obtain ⟨hi1, hi2⟩ := List.mem_filter.1 hiC
        obtain ⟨A, B, hAB, hA, hiu, hB⟩ := List.filter_eq_cons_iff.1 hf
        intro hnil
        have : x.i ∈ Region.ready .any ops listed := by
          refine (hmem x.i).2 ⟨hsz' x hi1, by simpa [unl] using hi2, fun e he => ?_⟩
          obtain ⟨p, hp, rfl⟩ := List.mem_map.1 ((c3 A x B hAB).edg e he)
          have := hA p (by simpa using hp)
          simpa [unl] using this
        rw [hnil] at this; simp at this
    cases hi : (Region.ready .any ops listed)[t % (Region.ready .any ops listed).length]? with
    | none =>
      exfalso
      apply hne
      cases hr : Region.ready .any ops listed with
      | nil => rfl
      | cons x xs =>
        rw [hr] at hi
        have hlt : t % (x :: xs).length < (x :: xs).length := Nat.mod_lt _ (by simp)
        simp at hi
        simp at hlt
        omega
    | some i =>
      simp only []
      rw [linearise_go_acc, List.reverse_singleton, List.singleton_append]
      obtain ⟨hisz, hiun, hied⟩ := (hmem i).1 (List.mem_of_getElem? hi)
      obtain ⟨x, hxC, rfl⟩ := List.mem_map.1 (hall i hisz)
      obtain ⟨A, B, hAB⟩ := List.append_of_mem hxC
      have hnd : (∀ p ∈ A, p.i ≠ x.i) ∧ ∀ p ∈ B, p.i ≠ x.i := by
        rw [hAB] at c2
        simp only [List.map_append, List.map_cons] at c2
        have := List.nodup_append.1 c2
        exact ⟨fun p hp e => this.2.2 p.i (List.mem_map.2 ⟨p, hp, rfl⟩) x.i (by simp) e, fun p hp e => (List.nodup_cons.1 this.2.1).1 (List.mem_map.2 ⟨p, hp, e⟩)⟩
      have hsplit : C.filter (fun e => unl listed e.i) = A.filter (fun e => unl listed e.i) ++ x :: B.filter (fun e => unl listed e.i) := by
        rw [hAB, List.filter_append, List.filter_cons_of_pos (by simp [unl, hiun])]
      have hnew : ∀ D : List HE, (∀ p ∈ D, p.i ≠ x.i) → D.filter (fun e => unl (listed.setIfInBounds x.i true) e.i) = D.filter (fun e => unl listed e.i) := by
        intro D hD
        refine List.filter_congr fun j hj => ?_
        simp only [unl]
        rw [getD_set_ne false (fun e => hD j hj e.symm)]
      have hi' : unl (listed.setIfInBounds x.i true) x.i = false := by
        have : x.i < listed.size := by omega
        simp [unl, Array.getD, this]
      have hrest : C.filter (fun e => unl (listed.setIfInBounds x.i true) e.i) = A.filter (fun e => unl listed e.i) ++ B.filter (fun e => unl listed e.i) := by
        rw [hAB, List.filter_append, List.filter_cons_of_neg (by simp [hi']), hnew A hnd.1, hnew B hnd.2]
      have hdepl : ∀ j a, Dep ops j a → (∀ e ∈ edges ops j, listed.getD e false = true) → listed.getD a false = true := by
        intro j a hd
        induction hd with
        | base he => intro h; exact h _ he
        | step hj _ ihd => intro h; exact ihd (hdown _ (h _ hj))
      rw [hsplit, List.map_append, List.map_cons] at h
      obtain ⟨gent, gedg, di, gd1, gd2, gd3⟩ := c3 A x B hAB
      obtain ⟨ox, x1, x2, x3, x4, x5, x6⟩ := ent_op gent
      have hpend : ∀ p ∈ A.filter (fun e => unl listed e.i), p ∈ ndOf di A.reverse := by
        intro p hp
        obtain ⟨hp1, hp2⟩ := List.mem_filter.1 hp
        refine List.mem_filter.2 ⟨by simpa using hp1, ?_⟩
        cases ht : di.testBit p.i with
        | false => rfl
        | true =>
          have := hdepl x.i p.i (gd1 _ ht) hied
          simp [unl, this] at hp2
      have hpair : ∀ p ∈ A.filter (fun e => unl listed e.i), ∃ oe, ops[p.i]? = some oe ∧ PairP ops (hY C) p.i x.i oe ox := by
        intro p hp
        have hpC : p ∈ C := by rw [hAB]; exact List.mem_append_left _ (List.mem_filter.1 hp).1
        obtain ⟨oe, ox', q1, q2, q3⟩ := pair_of hYl hent hpC hxC (List.all_eq_true.1 gd2 p (hpend p hp))
        rw [x1] at q2; injection q2 with q2; subst q2
        exact ⟨oe, q1, q3⟩
      obtain ⟨t1, t2⟩ := trip_spec _ _ gd3
      have hord : ((A.filter (fun e => unl listed e.i)).reverse).Pairwise (fun b e => needs x e = true → (b.dm &&& e.rm == 0) = true) := by
        refine t1.sublist ?_
        rw [← List.filter_reverse]
        have e1 : A.reverse.filter (fun e => unl listed e.i) = (ndOf di A.reverse).filter (fun e => unl listed e.i) := by
          simp only [ndOf, List.filter_filter]
          refine List.filter_congr fun p hp => ?_
          cases hu : unl listed p.i with
          | false => rfl
          | true =>
            have := (List.mem_filter.1 (hpend p (List.mem_filter.2 ⟨by simpa using hp, hu⟩))).2
            simp [this]
        rw [e1]
        exact List.filter_sublist
      have hxa : clsO ox.op = .alloc → hY C x.i = [] := by
        intro hc
        rw [hYl x hxC]
        exact x6 ((code_cls x4).2.2.2.2.2.2.1 hc)
      have hb := bubble (Q := Q) x1 ((A.filter (fun e => unl listed e.i)).map (·.i)) s H (fun A1 a A2 e => by
        obtain ⟨P1, P2, e0, rfl, e2⟩ := List.map_eq_append_iff.1 e
        obtain ⟨p, P3, rfl, rfl, rfl⟩ := List.map_eq_cons_iff.1 e2
        have hpm : p ∈ A.filter (fun e => unl listed e.i) := by rw [e0]; simp
        obtain ⟨oe, q1, q2⟩ := hpair p hpm
        refine ⟨oe, q1, q2, fun hl he => ?_⟩
        have hpC : p ∈ C := by rw [hAB]; exact List.mem_append_left _ (List.mem_filter.1 hpm).1
        obtain ⟨oe', p1, p2, p3, p4, p5, p6⟩ := ent_op (hent p hpC)
        rw [q1] at p1; injection p1 with p1; subst p1
        have hc1 : p.c = 1 := (code_cls p4).2.2.2.2.2.1 hl
        have hx5 : x.c ≤ 4 := by
          have := List.all_eq_true.1 gd2 p (hpend p hpm)
          simp only [pairM, Bool.and_eq_true] at this
          simpa using this.1.2
        have hn : needs x p = true := by
          rcases (code_cls x4).2.2.2.2.2.2.2 he with h | h | h
          · simp [needs, h, hc1]
          · simp [needs, h, hc1]
          · omega
        obtain ⟨m1, _, m3⟩ := t2 p (hpend p hpm) hn
        rw [hYl x hxC]
        refine mem_sieve _ m1 fun b hb => ?_
        simp only [noRdI]
        rcases List.mem_cons.1 hb with rfl | hb
        · simp only [q1]
          exact noRd_of m3 p2 p3
        · obtain ⟨pb, hpb, rfl⟩ := List.mem_map.1 hb
          have hpbm : pb ∈ A.filter (fun e => unl listed e.i) := by rw [e0]; simp [hpb]
          have hpbC : pb ∈ C := by rw [hAB]; exact List.mem_append_left _ (List.mem_filter.1 hpbm).1
          obtain ⟨ob, b1, b2, _⟩ := ent_op (hent pb hpbC)
          simp only [b1, q1]
          refine noRd_of (e := pb) (x := p) ?_ b2 p3
          rw [e0] at hord
          simp only [List.reverse_append, List.reverse_cons, List.append_assoc] at hord
          have := (List.pairwise_append.1 hord).2.2 pb (by simpa using hpb) p (by simp)
          exact this hn)
        (fun hc => ⟨reach hX x1 hc _ s H (fun a ha => by
          obtain ⟨p, hp, rfl⟩ := List.mem_map.1 ha
          obtain ⟨oe, q1, q2⟩ := hpair p hp
          refine ⟨oe, q1, ?_, q2.r1⟩
          cases hpn : isPanic oe.op with
          | false => rfl
          | true =>
            exfalso
            have h1 : clsO oe.op = .eff ∧ isCallV oe.op = false := by
              refine ⟨isPanic_eff hpn, ?_⟩
              cases hcv : isCallV oe.op with
              | false => rfl
              | true => rw [isCallV_np hcv] at hpn; cases hpn
            rcases q2.yl with h | h
            · rw [h1.2] at h; cases h
            · exact h h1.1) hreal h, hxa hc⟩) h
      rw [← List.map_append, ← hrest] at hb
      exact step_sound hX (vcStep_of_Sp hb) fun s' H' hk => ih _ (listed.setIfInBounds x.i true) s' H' (by simpa using hsz) (fun j hj e he => by
        by_cases hji : j = x.i
        · subst hji
          exact getD_set_true (hied e he)
        · rw [getD_set_ne false (fun e => hji e.symm)] at hj
          exact getD_set_true (hdown j hj e he)) (by
        rw [hrest]
        rw [hsplit] at hlen
        simp only [List.length_append, List.length_cons] at hlen ⊢
        omega) hk
/-- A region's operations, in the hint's order, with what is asked for the others' sake. -/
def allP : List Nat → (Nat → Prop) → Prop
  | [], _ => True
  | z :: l, p => p z ∧ allP l p
def stabI (X : Cx) (N : Nat) (ops : Array Oper) (s : CA) (H H' : Hp) (z : Nat) : Prop := match ops[z]? with | some o => Stab X N o s H H' | none => True
def vcD (X : Cx) (N : Nat) (ops : Array Oper) (Q : CP) : Hint → CA → Hp → Prop
  | [], s, H => Q .normal s H
  | e :: l, s, H => match ops[e.i]? with
    | some o => vcStepO X N ops o (Qo Q o) (fun s' H' => allP e.ys (stabI X N ops s H H') ∧ vcD X N ops Q l s' H') s H
    | none => False
theorem allP_spec {l : List Nat} {p : Nat → Prop} (h : allP l p) : ∀ z ∈ l, p z := by
  induction l with
  | nil => intro z hz; simp at hz
  | cons a l ih => intro z hz; rcases List.mem_cons.1 hz with rfl | hz; exact h.1; exact ih h.2 z hz
theorem runD_of_vcD {Y : Nat → List Nat} : ∀ (l : Hint) (s : CA) (H : Hp), (∀ p ∈ l, Y p.i = p.ys) → vcD X N ops Q l s H → runD X N ops Q Y (l.map (·.i)) s H
  | [], s, H, _, h => h
  | e :: l, s, H, hl, h => by
    have hp := hl e (by simp)
    simp only [vcD] at h
    split at h
    case h_2 => exact h.elim
    rename_i o ho
    show Sp X N ops Q (Y e.i) e.i _ s H
    refine ⟨o, ho, ?_⟩
    refine stp_mono (stp_of_stepO h) fun s' H' ⟨h1, h2⟩ => ⟨fun z hz oz hoz => ?_, runD_of_vcD l s' H' (fun p hp => hl p (by simp [hp])) h2⟩
    rw [hp] at hz
    have := allP_spec h1 z hz
    simpa [stabI, hoz] using this
theorem CW.draw (hX : CxOk X) (hm : X.P.follows .mixedOrders = true) {id : Nat} {l : Hint} (hok : drawOk ops l = true) (h : vcD X N ops Q l s H) : CW X.P X.W N ρ (.region id ops true) Q s H := by
  simp only [drawOk, Bool.and_eq_true, beq_iff_eq] at hok
  obtain ⟨⟨⟨h1, h2⟩, h3⟩, h4⟩ := hok
  have hYl : ∀ p ∈ l, hY l p.i = p.ys := fun p hp => by simpa using List.all_eq_true.1 h3 p hp
  have hrun := runD_of_vcD (Y := hY l) l s H hYl h
  have hun : l.filter (fun e => unl (Array.replicate ops.size false) e.i) = l := by
    refine List.filter_eq_self.2 fun i _ => ?_
    simp only [unl, Array.getD, Array.size_replicate]
    split <;> simp
  refine CW.region_draw fun t => ?_
  rw [Region.schedule, hm, Bool.true_or, if_pos rfl]
  refine draw_go hX h4 hYl (fun i hi => ?_) ops.size t _ s H (by simp) (fun j hj => ?_) (by rw [hun]; exact h1) (by rw [hun]; exact hrun)
  · obtain ⟨p, hp, e⟩ := List.any_eq_true.1 (List.all_eq_true.1 h2 i (by simpa using hi))
    exact List.mem_map.2 ⟨p, hp, by simpa using e⟩
  · simp only [Array.getD, Array.size_replicate] at hj
    split at hj <;> simp at hj
end
end Go.Cl
