/- DERIVED HERE. The clean layer: a frame's marks of loops over functions, and what is held besides. DERIVED HERE. The clean layer: a function that defers a call which recovers. -/
import Derived.Test.YtoophlkbngagcaaGreatDoorS2
import Derived.RecoverIn
set_option linter.unusedSimpArgs false
set_option linter.unusedVariables false
namespace Go.Cl
open Go.Proofs
def cutH (H : Hp) (r : Nat) : Hp := fun i => if i = r then none else H i
/-- The marks lie in H, each at a place of its own; B is held besides. -/
def MarksOk : List CD → Hp → Hp → Prop
  | [], H, B => Le B H
  | .mark r :: ds, H, B => H r = some .dfr ∧ MarksOk ds (cutH H r) B
  | .call _ _ _ :: _, _, _ => False
theorem MarksOk.le : ∀ {ds : List CD} {H B : Hp}, MarksOk ds H B → Le B H
  | [], H, B, h => h
  | .mark r :: ds, H, B, h => fun i o hi => by
    have := MarksOk.le h.2 i o hi
    simp only [cutH] at this
    split at this
    · cases this
    · exact this
  | .call _ _ _ :: _, _, _, h => h.elim
theorem MarksOk.mono : ∀ {ds : List CD} {H H' B : Hp}, MarksOk ds H B → Le H H' → MarksOk ds H' B
  | [], H, H', B, h, hl => Le.trans h hl
  | .mark r :: ds, H, H', B, h, hl => ⟨hl _ _ h.1, MarksOk.mono h.2 fun i o hi => by
      simp only [cutH] at hi ⊢
      split at hi
      · cases hi
      · rename_i e; rw [if_neg e]; exact hl i o hi⟩
  | .call _ _ _ :: _, _, _, _, h, _ => h.elim
theorem MarksOk.less : ∀ {ds : List CD} {H B B' : Hp}, MarksOk ds H B → Le B' B → MarksOk ds H B'
  | [], H, B, B', h, hl => Le.trans hl h
  | .mark r :: ds, H, B, B', h, hl => ⟨h.1, MarksOk.less h.2 hl⟩
  | .call _ _ _ :: _, _, _, _, h, _ => h.elim
theorem MarksOk.set : ∀ {ds : List CD} {H B : Hp} {q : Nat} {o : Ob}, MarksOk ds H B → (H q = none ∨ B q ≠ none) → MarksOk ds (H.set q o) (B.set q o)
  | [], H, B, q, o, h, _ => Le.set h
  | .mark r :: ds, H, B, q, o, h, hq => by
    have hne : r ≠ q := fun e => by
      subst e
      rcases hq with hq | hq
      · rw [h.1] at hq; cases hq
      · cases hb : B r with
        | none => exact hq hb
        | some x =>
          have := h.2.le r x hb
          simp [cutH] at this
    have hc : cutH (H.set q o) r = (cutH H r).set q o := by
      funext i
      simp only [cutH, Hp.set]
      by_cases e : i = r
      · subst e; simp [hne]
      · simp [e]
    refine ⟨by simp only [Hp.set]; rw [if_neg hne]; exact h.1, ?_⟩
    rw [hc]
    refine MarksOk.set h.2 ?_
    rcases hq with hq | hq
    · left; simp only [cutH]; split <;> first | rfl | exact hq
    · exact .inr hq
  | .call _ _ _ :: _, _, _, _, _, h, _ => h.elim
theorem MarksOk.push {ds : List CD} {H B : Hp} {d : Nat} (h : MarksOk ds H B) (hd : H d = none) : MarksOk (.mark d :: ds) (H.set d .dfr) B := by
  refine ⟨by simp [Hp.set], ?_⟩
  have : cutH (H.set d .dfr) d = H := by
    funext i
    simp only [cutH, Hp.set]
    by_cases e : i = d
    · subst e; simp [hd]
    · simp [e]
  rw [this]
  exact h
theorem leave_marks {X : Cx} {N : Nat} {rs : List ResultVar} {R : CE → Hp → Prop} {s : CA} {B : Hp} (hR : ∀ H', Le B H' → vcRes X N rs s.env H' [] fun vs => R (.ret (oneC vs)) H') : ∀ {ds : List CD} {H : Hp}, MarksOk ds H B → leaveQ X N rs R ds s H
  | [], H, h => hR H h
  | .mark r :: ds, H, h => ⟨h.1, leave_marks hR h.2⟩
  | .call _ _ _ :: _, _, h => h.elim
theorem MarksOk.get {ds : List CD} {H B : Hp} (h : MarksOk ds H B) {q : Nat} {o : Ob} (hq : B q = some o) : H q = some o := h.le q o hq
end Go.Cl
set_option linter.unusedSimpArgs false
set_option linter.unusedVariables false
namespace Go.Cl
open Go.Proofs Go.RowKit
section
variable {X : Cx} {N : Nat} {ρ : Option Nat} {Q : CP} {s : CA} {H : Hp} {ops : Array Oper} {i : Nat} {l : List Nat}
theorem CO.step (hX : CxOk X) {o : Oper} (ho : ops[i]? = some o) (h : vcStepO X N ops o Q (hold fun s' H' => CO X.P X.W N ρ ops l Q s' H') s H) : CO X.P X.W N ρ ops (i :: l) Q s H :=
  step_sound hX (K := fun s' H' => CO X.P X.W N ρ ops l Q s' H') (by unfold vcStep; rw [ho]; exact h) fun _ _ h => h
/-- A step that is known by its run. -/
theorem CO.raw {o : Oper} (ho : ops[i]? = some o) (hg : o.guard = none) (hdst : dstOk N o.dst = true) (hno : ∀ c, o.op ≠ .defer c) (hab : ∀ c, o.op ≠ .call c) {c : CV} (hrun : ∀ (a : Act) (w : World), RepA X.W N s a → ∃ v, (execOp a.eval o).run X.P w = .ok (.value v) w ∧ Rep X.W c v)
    (h : CO X.P X.W N ρ ops l Q (s.put o.dst c) H) : CO X.P X.W N ρ ops (i :: l) Q s H := by
  refine ⟨fun F a w hd hr hh => ?_⟩
  simp only [wpOpsIn, ho]
  have hw : Region.wanted o (yielded ops a.tmps) = true := by simp [Region.wanted, hg]
  rw [if_pos hw]
  refine ⟨fun _ _ => trivial, ?_⟩
  obtain ⟨v, h1, h2⟩ := hrun a w hr
  rw [Oper.semAt_eq (fen ρ).round a.eval o (fun c h => hno c h), h1, Oper.uponIn_value]
  exact h.out F _ w hd (hr.put hdst h2) hh
theorem CO.bin {o : Oper} (ho : ops[i]? = some o) {op : BinOp} {t t' : TypeId} {x y : Operand} (hop : o.op = .binOp op t x y t') (hg : o.guard = none) (hdst : dstOk N o.dst = true) {c : CV} (hrun : ∀ (a : Act) (w : World), RepA X.W N s a → ∃ v, ((do eqGuard op t x y (a.eval x) (a.eval y); binOp op t (a.eval x) (a.eval y) : Sem Value)).run X.P w = .ok v w ∧ Rep X.W c v)
    (h : CO X.P X.W N ρ ops l Q (s.put o.dst c) H) : CO X.P X.W N ρ ops (i :: l) Q s H := by
  refine CO.raw ho hg hdst (by rw [hop]; simp) (by rw [hop]; simp) (fun a w hr => ?_) h
  obtain ⟨v, h1, h2⟩ := hrun a w hr
  refine ⟨v, ?_, h2⟩
  simp only [execOp, hop, Sem.run_bind] at h1 ⊢
  rw [h1]
  rfl
theorem CO.assert {o : Oper} (ho : ops[i]? = some o) {t t' : TypeId} {x : Operand} {b : Bool} (hop : o.op = .typeAssert x t t' b) (hg : o.guard = none) (hdst : dstOk N o.dst = true) {c : CV} (hrun : ∀ (a : Act) (w : World), RepA X.W N s a → ∃ v, (Instr.typeAssert (a.eval x) t t' b).run X.P w = .ok v w ∧ Rep X.W c v)
    (h : CO X.P X.W N ρ ops l Q (s.put o.dst c) H) : CO X.P X.W N ρ ops (i :: l) Q s H := by
  refine CO.raw ho hg hdst (by rw [hop]; simp) (by rw [hop]; simp) (fun a w hr => ?_) h
  obtain ⟨v, h1, h2⟩ := hrun a w hr
  refine ⟨v, ?_, h2⟩
  simp only [execOp, hop, Sem.run_bind, h1]
  rfl
theorem CO.defer (hX : CxOk X) {o : Oper} (ho : ops[i]? = some o) (hg : o.guard = none) (hdst : o.dst = none) {f : Operand} {ar : Array Operand} {ts : Array TypeId} (hop : o.op = .defer ⟨.value f, ar, ts⟩) {g : FuncId} {first cap : List CV} (hf : evC X N s.env f = .func (.func g) first cap)
    (h : CO X.P X.W N none ops l Q ⟨s.env, .call (.func g) cap (first ++ evs X N s.env ar.toList) :: s.ds⟩ H) : CO X.P X.W N none ops (i :: l) Q s H := by
  refine ⟨fun F a w hd hr hh => ?_⟩
  simp only [wpOpsIn, ho]
  have hw : Region.wanted o (yielded ops a.tmps) = true := by simp [Region.wanted, hg]
  rw [if_pos hw]
  refine ⟨fun _ _ => trivial, ?_⟩
  have hsem : o.semAt (fen none).round a.eval = execOp a.eval o := Oper.semAt_none ..
  rw [hsem]
  have hfv := ev_rep hX hr f
  rw [hf] at hfv
  generalize hfe : a.eval f = fv at hfv
  cases hfv with
  | func _ _ _ fv cv hfl hcl hfr hcr =>
    have h1 : (execOp a.eval o).run X.P w = .ok (.defer { target := .fn (.func g) cv, args := fv ++ ar.map a.eval }) w := by
      simp only [execOp, hop, resolve, hfe, Deferred.ofValue, Sem.run_bind, Sem.run_pure, Result.andThen_ok]
    rw [h1, Oper.uponIn_defer, hdst]
    refine h.out F _ w hd ⟨hr.1, ⟨_, _, rfl, ?_, ?_⟩, hr.2⟩ hh
    · exact ⟨by simpa using hcl, fun i x v hx hv => hcr i x v hx (by simpa using hv)⟩
    · simp only [Array.toList_append]
      exact RepL.append ⟨by simpa using hfl, fun i x v hx hv => hfr i x v hx (by simpa using hv)⟩ (evs_rep hX hr ar)
/-- A call's contract, from what the frame's leaving asks. -/
theorem CC.of_leave (hX : CxOk X) {f : FuncId} {fn : Func} {c : Code} {args : List CV} {R : CE → Hp → Prop} {Qb : CP} (hf : X.P.funcs[f]? = some fn) (hb : fn.body = some c) (hnm : (fn.name == "runtime.NumGoroutine") = false) (hl : args.length ≤ fn.ntmps)
    (h : CW X.P X.W fn.ntmps none c Qb ⟨env0 args, []⟩ H) (hq : ∀ F e a w, lift X.W fn.ntmps F Qb e a w → bodyPostM (fen none) 0 X.P fn (liftR X.W F R) e a w) : CC X.P X.W f args H R := by
  refine ⟨⟨fn, hf, by rw [hb]; rfl, hnm⟩, fun F av w hd hr hh => ?_⟩
  have hal : args.length = av.size := by simpa using hr.1
  refine callsIn_of_wp_marks hf hb trivial (wpIn_mono (h.out F { tmps := av ++ Array.replicate (fn.ntmps - av.size) undef, defers := [] } w hd ⟨⟨by simp; omega, fun t ht => ?_⟩, trivial⟩ hh) (hq F))
  simp only [env0]
  rw [Array.getD_eq_getD_getElem?, List.getD_eq_getElem?_getD]
  rcases Nat.lt_or_ge t av.size with h | h
  · rw [Array.getElem?_append_left h, Array.getElem?_eq_getElem h, List.getElem?_eq_getElem (by omega : t < args.length)]
    exact hr.2 t _ _ (List.getElem?_eq_getElem _) (by simp [h])
  · rw [Array.getElem?_append_right h, List.getElem?_eq_none (by omega)]
    simp [show t - av.size < fn.ntmps - av.size by omega]
    exact rep_undef _
/-- A deferred call, where the frame below returns. -/
def DR (P : Program) (W : World) (f : FuncId) (args : List CV) (H : Hp) (R : Hp → Prop) : Prop := ∀ (F : Hp) (av : Array Value) (w : World), Disj H F → RepL W args av.toList → Held W (hun H F) w →
  CallsDIn (fen none) 0 P f av .returning w fun e u' w' => ∃ v, e = .returned v ∧ u' = .returning ∧ ∃ H', Disj H' F ∧ Held W (hun H' F) w' ∧ R H'
/-- A deferred call, where the frame below panics: it recovers. -/
def DP (P : Program) (W : World) (f : FuncId) (args : List CV) (H : Hp) (c : CV) (R : Hp → Prop) : Prop := ∀ (F : Hp) (av : Array Value) (w : World) (pv : Value), Disj H F → RepL W args av.toList → Held W (hun H F) w → Rep W c pv →
  CallsDIn (fen none) 0 P f av (.panicking [{ v := pv, recovered := false }]) w fun e u' w' => ∃ v, e = .returned v ∧ u' = .panicking [{ v := pv, recovered := true }] ∧ ∃ H', Disj H' F ∧ Held W (hun H' F) w' ∧ R H'
end
end Go.Cl
