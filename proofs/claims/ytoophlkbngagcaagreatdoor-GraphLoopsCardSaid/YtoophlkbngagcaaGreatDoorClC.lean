/- DERIVED HERE. The clean layer: regions in the text's order, code, a function's contract out of its body. DERIVED HERE. The clean layer: code, walked by computing ('vc'). DERIVED HERE. The clean layer: regions that draw their order. -/
import Derived.Test.YtoophlkbngagcaaGreatDoorClB
set_option linter.unusedSimpArgs false
set_option linter.unusedVariables false
namespace Go.Cl
open Go.RowKit
section
variable {X : Cx} {N : Nat} {ρ : Option Nat} {Q : CP} {s : CA} {H : Hp}
theorem yielded_bool {W : World} {ops : Array Oper} {j d : Nat} {a : Act} (hr : RepA W N s a) (hd : (ops[j]?).bind (·.dst) = some d) (hN : d < N) {b : Bool} (he : s.env d = .bool b) : yielded ops a.tmps j = some b := by
  have h1 := hr.1.2 d hN
  rw [he] at h1
  have h2 := rep_bool h1
  have h3 : d < a.tmps.size := by rw [hr.1.1]; exact hN
  rw [Array.getD_eq_getD_getElem?, Array.getElem?_eq_getElem h3, Option.getD_some] at h2
  simp [yielded, hd, Array.getElem?_eq_getElem h3, h2]
theorem yielded_undef {W : World} {ops : Array Oper} {j d : Nat} {a : Act} (hr : RepA W N s a) (hd : (ops[j]?).bind (·.dst) = some d) (hN : d < N) (he : s.env d = .tuple []) : yielded ops a.tmps j = none := by
  have h1 := hr.1.2 d hN
  rw [he] at h1
  have h3 : d < a.tmps.size := by rw [hr.1.1]; exact hN
  rw [Array.getD_eq_getD_getElem?, Array.getElem?_eq_getElem h3, Option.getD_some] at h1
  generalize hv : a.tmps[d] = v at h1
  cases h1 with
  | tuple _ vs _ _ => simp [yielded, hd, Array.getElem?_eq_getElem h3, hv]
theorem step_sound (hX : CxOk X) {ops : Array Oper} {i : Nat} {l : List Nat} {K : CA → Hp → Prop} (h : vcStep X N ops i Q K s H) (hK : ∀ s' H', K s' H' → CO X.P X.W N ρ ops l Q s' H') : CO X.P X.W N ρ ops (i :: l) Q s H := by
  refine ⟨fun F a w hd hr hh => ?_⟩
  unfold vcStep at h
  simp only [wpOpsIn]
  split at h
  · exact h.elim
  · rename_i o ho
    simp only [ho]
    unfold vcStepO at h
    split at h
    case isFalse => exact h.elim
    rename_i hdst
    split at h
    · rename_i hg
      have hw : Region.wanted o (yielded ops a.tmps) = true := by simp [Region.wanted, hg]
      rw [if_pos hw]
      exact do_sound hX hd hr hh hdst h fun c v H' w' hv hd' hh' hk => (hK _ _ hk).out F _ w' hd' (hr.put hdst hv) hh'
    · rename_i j want hg
      split at h
      · rename_i d hjd
        split at h
        · rename_i b hb
          have hN : d < N := by
            simp only [evC] at hb
            split at hb
            · assumption
            · cases hb
          have he : s.env d = .bool b := by simpa [evC, hN] using hb
          have hy := yielded_bool hr hjd hN he
          have h := splitB_elim h
          rw [setv_self he] at h
          split at h
          · rename_i hbw
            have hw : Region.wanted o (yielded ops a.tmps) = true := by simp [Region.wanted, hg, hy, hbw]
            rw [if_pos hw]
            exact do_sound hX hd hr hh hdst h fun c v H' w' hv hd' hh' hk => (hK _ _ hk).out F _ w' hd' (hr.put hdst hv) hh'
          · rename_i hbw
            have hw : ¬ Region.wanted o (yielded ops a.tmps) = true := by simp [Region.wanted, hg, hy, hbw]
            rw [if_neg hw]
            exact ⟨fun _ _ => trivial, (hK _ _ h).out F _ w hd (hr.put hdst (rep_undef _)) hh⟩
        · rename_i hb
          have hN : d < N := by
            simp only [evC] at hb
            split at hb
            · assumption
            · cases hb
          have he : s.env d = .tuple [] := by simpa [evC, hN] using hb
          have hy := yielded_undef hr hjd hN he
          have hw : ¬ Region.wanted o (yielded ops a.tmps) = true := by simp [Region.wanted, hg, hy]
          rw [if_neg hw]
          exact ⟨fun _ _ => trivial, (hK _ _ h).out F _ w hd (hr.put hdst (rep_undef _)) hh⟩
        · exact h.elim
      · exact h.elim
theorem CO.of_vcOps (hX : CxOk X) {ops : Array Oper} : ∀ {l : List Nat} {s : CA} {H : Hp}, vcOps X N ops Q l s H → CO X.P X.W N ρ ops l Q s H
  | [], s, H, h => CO.nil h
  | i :: l, s, H, h => step_sound hX h fun s' H' hk => CO.of_vcOps hX hk

theorem CO.of_vcL (hX : CxOk X) {ops : Array Oper} : ∀ (n k : Nat) (s : CA) (H : Hp), k + n = ops.size → vcL X N ops Q (ops.toList.drop k) s H → CO X.P X.W N ρ ops (List.range' k n) Q s H
  | 0, k, s, H, hk, h => by
    rw [List.drop_eq_nil_of_le (by simp; omega)] at h
    exact CO.nil h
  | n + 1, k, s, H, hk, h => by
    have hlt : k < ops.toList.length := by simp; omega
    rw [List.drop_eq_getElem_cons hlt] at h
    rw [List.range'_succ]
    have ho : ops[k]? = some (ops.toList[k]) := by simp [show k < ops.size by omega]
    refine step_sound (K := fun s' H' => vcL X N ops Q (ops.toList.drop (k + 1)) s' H') hX ?_ fun s' H' h' => CO.of_vcL hX n (k + 1) s' H' (by omega) h'
    unfold vcStep
    rw [ho]
    exact h
/-- Results, read. -/
def vcRes (X : Cx) (N : Nat) : List ResultVar → Env → Hp → List CV → (List CV → Prop) → Prop
  | [], _, _, acc, K => K acc
  | .tmp t :: r, e, H, acc, K => vcRes X N r e H (acc ++ [evC X N e (.tmp t)]) K
  | .cell a t :: r, e, H, acc, K => match X.T t with
    | some ti => match evC X N e (.tmp a) with
      | .ptr b o => ∃ cs, H b = some (.cells cs) ∧ vcLoad ti cs o fun c => vcRes X N r e H (acc ++ [c]) K
      | _ => False
    | none => False
def oneC : List CV → CV
  | [v] => v
  | vs => .tuple vs
def leaveQ (X : Cx) (N : Nat) (rs : List ResultVar) (R : CE → Hp → Prop) : List CD → CA → Hp → Prop
  | [], s, H => vcRes X N rs s.env H [] fun vs => R (.ret (oneC vs)) H
  | .mark r :: ds, s, H => H r = some .dfr ∧ leaveQ X N rs R ds s fun i => if i = r then none else H i
  | .call _ _ _ :: _, _, _ => False
def leaveP (R : CE → Hp → Prop) (v : CV) : List CD → Hp → Prop
  | [], H => R (.panic v) H
  | .mark r :: ds, H => H r = some .dfr ∧ leaveP R v ds fun i => if i = r then none else H i
  | .call _ _ _ :: _, _ => False
def bodyQ (X : Cx) (N : Nat) (rs : List ResultVar) (R : CE → Hp → Prop) : CP := fun x s H =>
  match x with
  | .normal => leaveQ X N rs R s.ds s H
  | .ret => leaveQ X N rs R s.ds s H
  | .panic v => leaveP R v s.ds H
  | _ => False
def rdRes (ts : Array Value) : ResultVar → Sem Value
  | .tmp t => pure (ts.getD t undef)
  | .cell b t => do loadVar t (← asAddr (ts.getD b undef))
theorem res_sound (hX : CxOk X) {e : Env} {F : Hp} {ts : Array Value} {w : World} {K : List CV → Prop} (hE : RepE X.W N e ts) (hh : Held X.W (hun H F) w) : ∀ (l : List ResultVar) (acc : List CV) (av : List Value), RepL X.W acc av → vcRes X N l e H acc K →
    ∃ vs cs, (l.mapM (rdRes ts)).run X.P w = .ok vs w ∧ RepL X.W cs (av ++ vs) ∧ K cs
  | [], acc, av, ha, h => ⟨[], acc, rfl, by simpa using ha, h⟩
  | .tmp t :: r, acc, av, ha, h => by
    have ht := ev_rep (s := ⟨e, []⟩) (a := ⟨ts, []⟩) hX ⟨hE, trivial⟩ (.tmp t)
    obtain ⟨vs, cs, h1, h2, h3⟩ := res_sound hX hE hh r (acc ++ [evC X N e (.tmp t)]) (av ++ [ts.getD t undef]) (ha.append (RepL.cons ht (RepL.nil _))) h
    refine ⟨ts.getD t undef :: vs, cs, ?_, by simpa using h2, h3⟩
    rw [List.mapM_cons]
    simp only [Sem.run_bind, rdRes, Sem.run_pure, Result.andThen_ok, h1]
  | .cell b t :: r, acc, av, ha, h => by
    simp only [vcRes] at h
    split at h
    · rename_i ti ht
      obtain ⟨f⟩ := tfact hX.hT ht
      split at h
      · rename_i q o hb
        obtain ⟨cs0, hcs, hl⟩ := h
        have hbr := ev_rep (s := ⟨e, []⟩) (a := ⟨ts, []⟩) hX ⟨hE, trivial⟩ (.tmp b)
        rw [hb] at hbr
        have hbv : ts.getD b undef = .pointer (some ⟨q, o, none⟩) := rep_ptr hbr
        obtain ⟨v, c, hw, hrc, hK⟩ := load_ptr_run f hh hcs hl
        have hasA : ∀ w, (asAddr (ts.getD b undef)).run X.P w = .ok ⟨q, o, none⟩ w := by intro w; rw [hbv]; rfl
        obtain ⟨vs, cs, h1, h2, h3⟩ := res_sound hX hE hh r (acc ++ [c]) (av ++ [v]) (ha.append (RepL.cons hrc (RepL.nil _))) hK
        refine ⟨v :: vs, cs, ?_, by simpa using h2, h3⟩
        rw [List.mapM_cons]
        simp only [Sem.run_bind, rdRes, Sem.run_pure, Result.andThen_ok, hasA, hw, h1]
      · exact h.elim
    · exact h.elim
theorem take_sound {P : Program} {W : World} {H F : Hp} {w : World} {r : Nat} (hd : Disj H F) (hh : Held W (hun H F) w) (hr : H r = some .dfr) :
    ∃ w', (Instr.takeDeferred r).run P w = .ok [] w' ∧ Disj (fun i => if i = r then none else H i) F ∧ Held W (hun (fun i => if i = r then none else H i) F) w' := by
  obtain ⟨hb, ob, hob, hrep⟩ := hh.at_ r _ (hun_left hr)
  have hrep : ob = .deferred (some []) := hrep
  subst hrep
  refine ⟨{ w with heap := w.heap.setIfInBounds r (.deferred none) }, ?_, fun i => ?_, ?_⟩
  · simp [Instr.takeDeferred, getObj, setObj, Sem.run, hob]
  · by_cases e : i = r
    · exact .inl (by simp [e])
    · rcases hd i with h | h
      · exact .inl (by simp [e, h])
      · exact .inr h
  · have hF : F r = none := (hd r).resolve_left (by simp [hr])
    refine ⟨hh.below.trans ⟨rfl, rfl, rfl, by simp, fun k hk => by simp [Array.getElem?_setIfInBounds, show ¬ r = k by omega]⟩, fun i o ho => ?_⟩
    by_cases e : i = r
    · subst e; simp [hun, hF] at ho
    · have ho' : hun H F i = some o := by simpa [hun, e] using ho
      obtain ⟨h1, ob', h2, h3⟩ := hh.at_ i o ho'
      exact ⟨h1, ob', by simp [Array.getElem?_setIfInBounds, show ¬ r = i from fun h => e h.symm]; exact h2, h3⟩
theorem results_eq (fn : Func) (ts : Array Value) : results fn ts = (do let vs ← fn.results.mapM (rdRes ts); pure (if h : vs.size = 1 then vs[0] else .tuple vs)) := rfl
theorem results_sound (hX : CxOk X) {e : Env} {F : Hp} {ts : Array Value} {w : World} {fn : Func} {K : CV → Prop} (hE : RepE X.W N e ts) (hh : Held X.W (hun H F) w) (h : vcRes X N fn.results.toList e H [] fun vs => K (oneC vs)) :
    ∃ v c, (results fn ts).run X.P w = .ok v w ∧ Rep X.W c v ∧ K c := by
  obtain ⟨vs, cs, h1, h2, h3⟩ := res_sound hX hE hh fn.results.toList [] [] (RepL.nil _) h
  simp only [List.nil_append] at h2
  refine ⟨if h : vs.toArray.size = 1 then vs.toArray[0] else .tuple vs.toArray, oneC cs, ?_, ?_, h3⟩
  · rw [results_eq, Sem.run_bind, Array.mapM_eq_mapM_toList, Sem.run_map, h1]
    rfl
  · match cs, vs, h2 with
    | [c], [v], h2 => exact h2.2 0 c v rfl rfl
    | [], [], h2 => exact Rep.mktuple h2
    | c :: d :: cs, v :: u :: vs, h2 =>
      rw [dif_neg (by simp)]
      exact Rep.mktuple h2
    | [], _ :: _, h2 => have := h2.1; simp at this
    | _ :: _, [], h2 => have := h2.1; simp at this
    | [_], _ :: _ :: _, h2 => have := h2.1; simp at this
    | _ :: _ :: _, [_], h2 => have := h2.1; simp at this
def liftR (W : World) (F : Hp) (R : CE → Hp → Prop) : Ending → World → Prop := fun e w' => ∃ x H', RepEnd W x e ∧ Disj H' F ∧ Held W (hun H' F) w' ∧ R x H'
theorem leave_sound (hX : CxOk X) {fn : Func} {R : CE → Hp → Prop} {F : Hp} {a : Act} : ∀ (ds : List CD) (dv : List Deferred) (H : Hp) (w : World), RepDs X.W ds dv → RepE X.W fn.ntmps s.env a.tmps → Disj H F → Held X.W (hun H F) w → leaveQ X fn.ntmps fn.results.toList R ds s H →
    LeavesInM (fen none) 0 X.P fn a.tmps (liftR X.W F R) dv .returning w
  | [], [], H, w, _, hE, hd, hh, h => by
    obtain ⟨v, c, h1, h2, h3⟩ := results_sound (N := fn.ntmps) (fn := fn) (K := fun c => R (.ret c) H) hX hE hh h
    exact ⟨v, h1, .ret c, H, h2, hd, hh, h3⟩
  | .mark r :: ds, d :: dv, H, w, hds, hE, hd, hh, h => by
    obtain ⟨rfl, hds⟩ := hds
    obtain ⟨hr, h⟩ := h
    obtain ⟨w', h1, h2, h3⟩ := take_sound (P := X.P) hd hh hr
    exact ⟨by simp, .inl ⟨r, w', rfl, h1, leave_sound hX ds dv _ w' hds hE h2 h3 h⟩⟩
  | .call _ _ _ :: _, _, _, _, _, _, _, _, h => h.elim
  | [], _ :: _, _, _, hds, _, _, _, _ => hds.elim
  | .mark _ :: _, [], _, _, hds, _, _, _, _ => hds.elim
theorem leaveP_sound {P : Program} {W : World} {fn : Func} {R : CE → Hp → Prop} {F : Hp} {ts : Array Value} {v : CV} {ch : List PanicEntry} (hv : ∃ u, ch = [{ v := u, recovered := false }] ∧ Rep W v u) : ∀ (ds : List CD) (dv : List Deferred) (H : Hp) (w : World), RepDs W ds dv → Disj H F → Held W (hun H F) w → leaveP R v ds H →
    LeavesInM (fen none) 0 P fn ts (liftR W F R) dv (.panicking ch) w
  | [], [], H, w, _, hd, hh, h => ⟨.panic v, H, hv, hd, hh, h⟩
  | .mark r :: ds, d :: dv, H, w, hds, hd, hh, h => by
    obtain ⟨rfl, hds⟩ := hds
    obtain ⟨hr, h⟩ := h
    obtain ⟨w', h1, h2, h3⟩ := take_sound (P := P) hd hh hr
    exact ⟨by simp, .inl ⟨r, w', rfl, h1, leaveP_sound hv ds dv _ w' hds h2 h3 h⟩⟩
  | .call _ _ _ :: _, _, _, _, _, _, _, h => h.elim
  | [], _ :: _, _, _, hds, _, _, _ => hds.elim
  | .mark _ :: _, [], _, _, hds, _, _, _ => hds.elim
/-- The frame at a function's begin. -/
def env0 (args : List CV) : Env := fun i => args.getD i (.tuple [])
/-- **A call's contract, out of the function's body.** -/
theorem CC.of_body (hX : CxOk X) {f : FuncId} {fn : Func} {c : Code} {args : List CV} {R : CE → Hp → Prop} (hf : X.P.funcs[f]? = some fn) (hb : fn.body = some c) (hnm : (fn.name == "runtime.NumGoroutine") = false) (hl : args.length ≤ fn.ntmps)
    (h : CW X.P X.W fn.ntmps none c (bodyQ X fn.ntmps fn.results.toList R) ⟨env0 args, []⟩ H) : CC X.P X.W f args H R := by
  refine ⟨⟨fn, hf, by rw [hb]; rfl, hnm⟩, fun F av w hd hr hh => ?_⟩
  have hal : args.length = av.size := by simpa using hr.1
  refine callsIn_of_wp_marks hf hb trivial (wpIn_mono (h.out F { tmps := av ++ Array.replicate (fn.ntmps - av.size) undef, defers := [] } w hd ⟨⟨by simp; omega, fun t ht => ?_⟩, trivial⟩ hh) ?_)
  · simp only [env0]
    rw [Array.getD_eq_getD_getElem?, List.getD_eq_getElem?_getD]
    rcases Nat.lt_or_ge t av.size with h | h
    · rw [Array.getElem?_append_left h, Array.getElem?_eq_getElem h, List.getElem?_eq_getElem (by omega : t < args.length)]
      exact hr.2 t _ _ (List.getElem?_eq_getElem _) (by simp [h])
    · rw [Array.getElem?_append_right h, List.getElem?_eq_none (by omega)]
      simp [show t - av.size < fn.ntmps - av.size by omega]
      exact rep_undef _
  · rintro e a' w' ⟨x, s', H', hx, hr', hd', hh', hq⟩
    cases x <;> cases e <;> simp only [RepX] at hx <;> first
      | exact leave_sound hX s'.ds a'.defers H' w' hr'.2 hr'.1 hd' hh' hq
      | exact leaveP_sound hx s'.ds a'.defers H' w' hr'.2 hd' hh' hq
      | exact hq.elim
end
end Go.Cl
set_option linter.unusedSimpArgs false
set_option linter.unusedVariables false
namespace Go.Cl
open Go.RowKit
/-- What a piece of code asks: loops, ranges over functions, scopes and regions that draw stay as they are ('CW'). -/
def vc (X : Cx) (N : Nat) (ρ : Option Nat) : Code → CP → CA → Hp → Prop
  | .skip, Q, s, H => Q .normal s H
  | .label _, Q, s, H => Q .normal s H
  | .exit id, Q, s, H => Q (.exit id) s H
  | .goto l, Q, s, H => Q (.goto l) s H
  | .ret, Q, s, H => Q .ret s H
  | .seq a b, Q, s, H => vc X N ρ a (thenX (fun s H => vc X N ρ b Q s H) Q) s H
  | .block id c, Q, s, H => vc X N ρ c (inBlockX id Q) s H
  | .cond c a b, Q, s, H => match evC X N s.env c with
    | .bool t => splitB t fun t => match t with | true => vc X N ρ a Q s H | false => vc X N ρ b Q s H
    | _ => False
  | .region id ops draw, Q, s, H => match draw with
    | false => vcL X N ops Q ops.toList s H
    | true => CW X.P X.W N ρ (.region id ops true) Q s H
  | c, Q, s, H => CW X.P X.W N ρ c Q s H
theorem vc_sound {X : Cx} (hX : CxOk X) {N : Nat} {ρ : Option Nat} : ∀ (c : Code) (Q : CP) (s : CA) (H : Hp), vc X N ρ c Q s H → CW X.P X.W N ρ c Q s H
  | .skip, Q, s, H, h => CW.skip h
  | .label _, Q, s, H, h => CW.label h
  | .exit id, Q, s, H, h => CW.exit h
  | .goto l, Q, s, H, h => CW.goto h
  | .ret, Q, s, H, h => CW.ret h
  | .seq a b, Q, s, H, h => CW.seq ((vc_sound hX a _ s H h).mono fun x s H hx => by
      cases x <;> first | exact vc_sound hX b Q s H hx | exact hx)
  | .block id c, Q, s, H, h => CW.block (vc_sound hX c _ s H h)
  | .cond c a b, Q, s, H, h => by
    simp only [vc] at h
    split at h
    · rename_i t he
      have h := splitB_elim h
      refine CW.cond (b := t) (fun a hr => ?_) (fun ht => ?_) (fun ht => ?_)
      · have := ev_rep hX hr c
        rw [he] at this
        exact rep_bool this
      · subst ht; exact vc_sound hX a Q s H h
      · subst ht; exact vc_sound hX b Q s H h
    · exact h.elim
  | .region id ops draw, Q, s, H, h => by
    cases draw with
    | false => exact CW.region (by rw [List.range_eq_range']; exact CO.of_vcL hX ops.size 0 s H (by omega) (by simpa [vc] using h))
    | true => exact h
  | .loop _, Q, s, H, h => h
  | .rangeFunc _ _ _ _, Q, s, H, h => h
  | .scope _, Q, s, H, h => h
  | .refuse _, Q, s, H, h => h
/-- **A call's contract, by computing its body.** -/
theorem CC.of_vc {X : Cx} (hX : CxOk X) {H : Hp} {f : FuncId} {fn : Func} {c : Code} {args : List CV} {R : CE → Hp → Prop} (hf : X.P.funcs[f]? = some fn) (hb : fn.body = some c) (hnm : (fn.name == "runtime.NumGoroutine") = false) (hl : (args.length ≤ fn.ntmps) )
    (h : vc X fn.ntmps none c (bodyQ X fn.ntmps fn.results.toList R) ⟨env0 args, []⟩ H) : CC X.P X.W f args H R := CC.of_body hX hf hb hnm hl (vc_sound hX c _ _ _ h)
theorem wrap_i64 {n : Int} (h1 : -9223372036854775808 ≤ n) (h2 : n ≤ 9223372036854775807) : IntKind.i64.wrap n = n := by
  simp [IntKind.wrap, IntKind.bits, IntKind.signed]; omega
end Go.Cl
set_option linter.unusedSimpArgs false
set_option linter.unusedVariables false
namespace Go.Cl
open Go.RowKit

section
variable {X : Cx} {N : Nat} {ρ : Option Nat} {Q : CP} {s : CA} {H : Hp} {T : Tab}
theorem bnd_congr {a b : Option CV} {d : Nat} {K : Nat → Prop} (h : a = b) : bnd a d K = bnd b d K := by rw [h]
theorem map_ev_congr {ev ev' : Operand → CV} {l : List Operand} (h : ∀ x ∈ l, ev x = ev' x) : l.map ev = l.map ev' := List.map_congr_left h
theorem parts_congr {ev ev' : Operand → CV} {ps : Array (Nat × Operand)} (h : ∀ x ∈ (ps.toList.map (·.2)), ev x = ev' x) : (ps.toList.map fun p => (p.1, ev p.2)) = (ps.toList.map fun p => (p.1, ev' p.2)) :=
  List.map_congr_left fun p hp => by rw [h p.2 (List.mem_map.2 ⟨p, hp, rfl⟩)]
theorem opt_congr {ev ev' : Operand → CV} {o : Option Operand} (h : ∀ x ∈ o.toArray, ev x = ev' x) : o.map ev = o.map ev' := by
  cases o with
  | none => rfl
  | some x => simp [h x (by simp)]
/-- An operation looks at its operands alone. -/
theorem vcOp_congr {o : Op} {ev ev' : Operand → CV} {K : CV → Hp → Prop} (h : ∀ x ∈ o.operands, ev x = ev' x) : vcOp T o ev H K = vcOp T o ev' H K := by
  cases o with
  | build t ps => simp only [vcOp]; rw [parts_congr (fun x hx => h x (by simpa [Op.operands] using hx))]
  | buildSlice t n ps => simp only [vcOp]; rw [parts_congr (fun x hx => h x (by simpa [Op.operands] using hx))]
  | makeFunc fn a b =>
    simp only [vcOp]
    rw [map_ev_congr (l := a.toList) (fun x hx => h x (by simp [Op.operands]; left; simpa using hx)), map_ev_congr (l := b.toList) (fun x hx => h x (by simp [Op.operands]; right; simpa using hx))]
  | slice t x lo hi mx =>
    cases mx with
    | some m =>
      cases lo with
      | some l => cases hi <;> rfl
      | none =>
        cases hi with
        | none => rfl
        | some hi => simp only [vcOp]; rw [h x (by simp [Op.operands]), h hi (by simp [Op.operands]), h m (by simp [Op.operands])]
    | none =>
      simp only [vcOp]
      rw [h x (by simp [Op.operands]), opt_congr (o := lo) (fun y hy => h y (by simp [Op.operands]; simp at hy; simp [hy])), opt_congr (o := hi) (fun y hy => h y (by simp [Op.operands]; simp at hy; simp [hy]))]
  | move x => simp only [vcOp]; rw [h x (by simp [Op.operands])]
  | assign x => simp only [vcOp]; rw [h x (by simp [Op.operands])]
  | pick c a b => simp only [vcOp]; rw [h c (by simp [Op.operands]), h a (by simp [Op.operands]), h b (by simp [Op.operands])]
  | alloc e => rfl
  | box e x => simp only [vcOp]; rw [h x (by simp [Op.operands])]
  | load t a => simp only [vcOp]; rw [h a (by simp [Op.operands])]
  | store t a v => simp only [vcOp]; rw [h a (by simp [Op.operands]), h v (by simp [Op.operands])]
  | nilCheck x => simp only [vcOp]; rw [h x (by simp [Op.operands])]
  | binOp op t x y t' => simp only [vcOp]; rw [h x (by simp [Op.operands]), h y (by simp [Op.operands])]
  | unOp op t x => simp only [vcOp]; rw [h x (by simp [Op.operands])]
  | convert a b x => simp only [vcOp]; rw [h x (by simp [Op.operands])]
  | makeInterface t x => simp only [vcOp]; rw [h x (by simp [Op.operands])]
  | makeSlice t l c => simp only [vcOp]; rw [h l (by simp [Op.operands]), h c (by simp [Op.operands])]
  | fieldAddr t x i => simp only [vcOp]; rw [h x (by simp [Op.operands])]
  | field t x i => simp only [vcOp]; rw [h x (by simp [Op.operands])]
  | indexAddr t x i => simp only [vcOp]; rw [h x (by simp [Op.operands]), h i (by simp [Op.operands])]
  | index t x i => simp only [vcOp]; rw [h x (by simp [Op.operands]), h i (by simp [Op.operands])]
  | extract x i => simp only [vcOp]; rw [h x (by simp [Op.operands])]
  | makeMap t x => cases x <;> rfl
  | lookup t x i ok => simp only [vcOp, vcMap]; rw [h x (by simp [Op.operands]), h i (by simp [Op.operands])]
  | mapUpdate t m k x => simp only [vcOp, vcMap]; rw [h m (by simp [Op.operands]), h k (by simp [Op.operands]), h x (by simp [Op.operands])]
  | range t x => simp only [vcOp, vcMap]; rw [h x (by simp [Op.operands])]
  | next it s => cases s <;> simp only [vcOp, vcMap] <;> rw [h it (by simp [Op.operands])]
  | insert t m k x => simp only [vcOp, vcMap]; rw [h m (by simp [Op.operands]), h k (by simp [Op.operands]), h x (by simp [Op.operands])]
  | entry it => simp only [vcOp, vcMap]; rw [h it (by simp [Op.operands])]
  | _ => rfl
/-- The temporaries that an operation reads. -/
def rdT (o : Op) : List Nat := o.operands.toList.filterMap fun | .tmp t => some t | _ => none
theorem evC_agree {e e' : Env} {o : Op} (h : ∀ t ∈ rdT o, e t = e' t) : ∀ x ∈ o.operands, evC X N e x = evC X N e' x := by
  intro x hx
  cases x with
  | tmp t =>
    simp only [evC]
    rw [h t (by simp only [rdT, List.mem_filterMap]; exact ⟨.tmp t, by simpa using hx, rfl⟩)]
  | _ => rfl
def noP (Q : CP) : CP := fun x s H => match x with | .panic _ => False | x => Q x s H
theorem vcDo_congr {o : Oper} {s s' : CA} {K : CV → Hp → Prop} (hp : ∀ x, o.op ≠ .panic x) (h : ∀ t ∈ rdT o.op, s.env t = s'.env t) : vcDo X N o s H (noP Q) K = vcDo X N o s' H (noP Q) K := by
  have ha := evC_agree (X := X) (N := N) h
  unfold vcDo
  split
  · rename_i c hc
    rw [hc] at ha
    have hl : evs X N s.env c.args.toList = evs X N s'.env c.args.toList := map_ev_congr (fun x hx => ha x (by
      simp only [Op.operands, Call.operands, Array.mem_append]; right; simpa using hx))
    unfold vcCall
    split
    · rename_i f hf
      have he : evC X N s.env f = evC X N s'.env f := ha f (by simp only [Op.operands, Call.operands, hf, Array.mem_append]; left; simp)
      rw [he, hl]
      rfl
    · rw [hl]
    · rfl
  · rename_i x hx
    exact absurd hx (hp x)
  · exact vcOp_congr ha
theorem vcLoad_mono {ti : TI} {cs : List CV} {o : Nat} {K K' : CV → Prop} (h : vcLoad ti cs o K) (hk : ∀ c, K c → K' c) : vcLoad ti cs o K' := by
  unfold vcLoad at h ⊢
  split
  · rename_i ha; rw [if_pos ha] at h; exact ⟨h.1, hk _ h.2⟩
  · rename_i ha; rw [if_neg ha] at h; obtain ⟨c, h1, h2⟩ := h; exact ⟨c, h1, hk _ h2⟩
theorem vcLoad_exact {ti : TI} {cs : List CV} {o : Nat} {K : CV → Prop} (h : vcLoad ti cs o K) : ∃ c, K c ∧ vcLoad ti cs o (fun c' => c' = c) := by
  unfold vcLoad at h ⊢
  split
  · rename_i ha; rw [if_pos ha] at h; exact ⟨_, h.2, h.1, rfl⟩
  · rename_i ha; rw [if_neg ha] at h; obtain ⟨c, h1, h2⟩ := h; exact ⟨c, h2, c, h1, rfl⟩
theorem vcCmp_mono {op : BinOp} {a b : Int} {K K' : CV → Prop} (h : vcCmp op a b K) (hk : ∀ c, K c → K' c) : vcCmp op a b K' := by
  cases op <;> simp only [vcCmp] at h ⊢ <;> first | exact hk _ h | exact h
theorem vcInt_mono {op : BinOp} {k : IntKind} {a b : Int} {K K' : CV → Prop} (h : vcInt op k a b K) (hk : ∀ c, K c → K' c) : vcInt op k a b K' := by
  cases op <;> simp only [vcInt] at h ⊢ <;> first
    | exact vcCmp_mono h hk
    | (obtain ⟨z, h1, h2⟩ := h; exact ⟨z, h1, hk _ h2⟩)
    | (obtain ⟨h0, z, h1, h2⟩ := h; exact ⟨h0, z, h1, hk _ h2⟩)
    | exact ⟨h.1, hk _ h.2⟩
    | exact hk _ h
theorem vcBin_mono {op : BinOp} {t : TypeId} {x y : CV} {K K' : CV → Prop} (h : vcBin T op t x y K) (hk : ∀ c, K c → K' c) : vcBin T op t x y K' := by
  unfold vcBin at h ⊢
  split at h
  · exact ⟨h.1, vcInt_mono h.2 hk⟩
  · refine ⟨h.1, ?_⟩
    obtain ⟨_, h⟩ := h
    cases op <;> first | exact hk _ h | exact h
  · cases op <;> first | exact hk _ h | exact h
  · refine ⟨h.1, ?_⟩
    obtain ⟨_, h⟩ := h
    cases op <;> first | exact hk _ h | exact h
  · refine ⟨h.1, ?_⟩
    obtain ⟨_, h⟩ := h
    cases op <;> first | exact hk _ h | exact h
  · refine ⟨h.1, h.2.1, ?_⟩
    obtain ⟨_, _, h⟩ := h
    cases op <;> first | exact hk _ h | exact h
  · refine ⟨h.1, ?_⟩
    obtain ⟨_, h⟩ := h
    cases op <;> first | exact hk _ h | exact h
  · exact h
theorem vcCmp_exact {op : BinOp} {a b : Int} {K : CV → Prop} (h : vcCmp op a b K) : ∃ c, K c ∧ vcCmp op a b (fun c' => c' = c) := by
  cases op <;> simp only [vcCmp] at h ⊢ <;> first | exact ⟨_, h, rfl⟩ | exact h.elim
theorem vcInt_exact {op : BinOp} {k : IntKind} {a b : Int} {K : CV → Prop} (h : vcInt op k a b K) : ∃ c, K c ∧ vcInt op k a b (fun c' => c' = c) := by
  cases op <;> simp only [vcInt] at h ⊢ <;> first
    | exact vcCmp_exact h
    | (obtain ⟨z, h1, h2⟩ := h; exact ⟨_, h2, z, h1, rfl⟩)
    | (obtain ⟨h0, z, h1, h2⟩ := h; exact ⟨_, h2, h0, z, h1, rfl⟩)
    | exact ⟨_, h.2, h.1, rfl⟩
    | exact ⟨_, h, rfl⟩
theorem vcBin_exact {op : BinOp} {t : TypeId} {x y : CV} {K : CV → Prop} (h : vcBin T op t x y K) : ∃ c, K c ∧ vcBin T op t x y (fun c' => c' = c) := by
  unfold vcBin at h ⊢
  split at h
  · obtain ⟨c, h1, h2⟩ := vcInt_exact h.2
    exact ⟨c, h1, h.1, h2⟩
  · obtain ⟨h0, h⟩ := h
    cases op <;> first | exact ⟨_, h, h0, rfl⟩ | exact h.elim
  · cases op <;> first | exact ⟨_, h, rfl⟩ | exact h.elim
  · obtain ⟨h0, h⟩ := h
    cases op <;> first | exact ⟨_, h, h0, rfl⟩ | exact h.elim
  · obtain ⟨h0, h⟩ := h
    cases op <;> first | exact ⟨_, h, h0, rfl⟩ | exact h.elim
  · obtain ⟨h0, h1, h⟩ := h
    cases op <;> first | exact ⟨_, h, h0, h1, rfl⟩ | exact h.elim
  · obtain ⟨h0, h⟩ := h
    cases op <;> first | exact ⟨_, h, h0, rfl⟩ | exact h.elim
  · exact h.elim
theorem srcC_mono {sz : Nat} {x : CV} {K K' : Nat → List CV → Prop} (h : srcC H sz x K) (hk : ∀ n l, K n l → K' n l) : srcC H sz x K' := by
  unfold srcC at h ⊢
  split at h
  · exact hk _ _ h
  · exact ⟨h.1, hk _ _ h.2⟩
  · obtain ⟨cs, h1, h2, h3⟩ := h; exact ⟨cs, h1, h2, hk _ _ h3⟩
  · exact h
theorem vcBuiltin_mono {b : Builtin} {ts : Array TypeId} {xs : List CV} {K K' : CV → Hp → Prop} (h : vcBuiltin T b ts xs H K) (hk : ∀ c H', K c H' → K' c H') : vcBuiltin T b ts xs H K' := by
  unfold vcBuiltin at h ⊢
  split at h
  · split at h
    · split at h <;> first | exact hk _ _ h | exact h
    · exact h
  · split at h
    · split at h
      · split at h
        · split at h
          · unfold vcAppendMake at h ⊢
            split at h
            · exact ⟨h.1, h.2.1, fun r c zs h1 h2 h3 => hk _ _ (h.2.2 r c zs h1 h2 h3)⟩
            · exact h
          · exact h
        · exact h
      · refine ⟨h.1, ?_⟩
        obtain ⟨_, h⟩ := h
        split at h
        · split at h
          · unfold vcAppend at h ⊢
            refine srcC_mono h fun m ys h => ?_
            split at h
            · exact ⟨h.1, fun hm => hk _ _ (h.2.1 hm), fun hm r c hr hc => hk _ _ (h.2.2 hm r c hr hc)⟩
            · obtain ⟨cs, h1, h2, h3, h4, h5, h6⟩ := h
              exact ⟨cs, h1, h2, h3, h4, fun hle => hk _ _ (h5 hle), fun hlt r c hr hc => hk _ _ (h6 hlt r c hr hc)⟩
            · exact h
          · exact h
        · exact h
    · exact h
  · exact hk _ _ h
  · exact hk _ _ h
  · split at h
    · split at h
      · exact hk _ _ h
      · exact h
    · exact h
  · split at h
    · split at h
      · exact hk _ _ h
      · exact h
    · exact h
  · unfold vcClear at h ⊢
    split at h
    · split at h
      · split at h
        · split at h
          · obtain ⟨cs, h1, h2, h3⟩ := h; exact ⟨cs, h1, h2, hk _ _ h3⟩
          · exact hk _ _ h
          · exact h
        · exact h
      · exact h
    · exact h
  · exact h
theorem vcSl3_mono {t : TypeId} {x hi mx : CV} {K K' : CV → Prop} (h : vcSl3 T t x hi mx K) (hk : ∀ c, K c → K' c) : vcSl3 T t x hi mx K' := by
  unfold vcSl3 at h ⊢
  split at h
  · split at h
    · exact ⟨h.1, h.2.1, h.2.2.1, h.2.2.2.1, hk _ h.2.2.2.2⟩
    · exact ⟨h.1, h.2.1, h.2.2.1, hk _ h.2.2.2⟩
    · exact h
  · exact h
theorem vcSl3_exact {t : TypeId} {x hi mx : CV} {K : CV → Prop} (h : vcSl3 T t x hi mx K) : ∃ c, K c ∧ vcSl3 T t x hi mx (fun c' => c' = c) := by
  unfold vcSl3 at h ⊢
  split at h
  · split at h
    · exact ⟨_, h.2.2.2.2, h.1, h.2.1, h.2.2.1, h.2.2.2.1, rfl⟩
    · exact ⟨_, h.2.2.2, h.1, h.2.1, h.2.2.1, rfl⟩
    · exact h.elim
  · exact h.elim
theorem vcOp_mono {o : Op} {ev : Operand → CV} {K K' : CV → Hp → Prop} (h : vcOp T o ev H K) (hk : ∀ c H', K c H' → K' c H') : vcOp T o ev H K' := by
  cases o with
  | move x => exact hk _ _ h
  | assign x => exact hk _ _ h
  | pick c a b => simp only [vcOp] at h ⊢; split <;> (rename_i e; simp only [e] at h); exact ⟨fun ht => hk _ _ (h.1 ht), fun ht => hk _ _ (h.2 ht)⟩
  | alloc e => simp only [vcOp] at h ⊢; split <;> (rename_i e; simp only [e] at h); exact fun r hr => hk _ _ (h r hr)
  | box e x => exact ⟨h.1, fun r hr => hk _ _ (h.2 r hr)⟩
  | build t ps =>
    simp only [vcOp] at h ⊢
    split at h
    · split at h
      · obtain ⟨cs, h1, h2⟩ := h; exact ⟨cs, h1, hk _ _ h2⟩
      · split at h
        · obtain ⟨cs, h1, h2⟩ := h; exact ⟨cs, h1, hk _ _ h2⟩
        · exact h
      · exact h
    · exact h
  | buildSlice t n ps =>
    simp only [vcOp] at h ⊢
    split at h
    · split at h
      · split at h
        · obtain ⟨h0, cs, h1, h2⟩ := h; exact ⟨h0, cs, h1, fun r hr => hk _ _ (h2 r hr)⟩
        · exact h
      · exact h
    · exact h
  | load t a =>
    simp only [vcOp] at h ⊢
    split at h
    · split at h
      · obtain ⟨cs, h1, h2⟩ := h; exact ⟨cs, h1, vcLoad_mono h2 fun c => hk c H⟩
      · exact vcLoad_mono h fun c => hk c H
      · exact h
    · exact h
  | store t a v =>
    simp only [vcOp] at h ⊢
    split at h
    · split at h
      · obtain ⟨cs, h1, h2, h3, h4, h5⟩ := h; exact ⟨cs, h1, h2, h3, h4, hk _ _ h5⟩
      · exact h
    · exact h
  | nilCheck x => simp only [vcOp] at h ⊢; split at h <;> first | exact hk _ _ h | exact h
  | binOp op t x y t' => exact vcBin_mono h fun c => hk c H
  | unOp op t x =>
    simp only [vcOp] at h ⊢
    split at h
    · exact hk _ _ h
    · obtain ⟨z, h1, h2⟩ := h; exact ⟨z, h1, hk _ _ h2⟩
    · exact h
  | convert a b x =>
    simp only [vcOp] at h ⊢
    split at h
    · split at h
      · obtain ⟨z, h1, h2⟩ := h; exact ⟨z, h1, hk _ _ h2⟩
      · exact h
    · exact h
  | makeInterface t x =>
    simp only [vcOp] at h ⊢
    split at h
    · exact ⟨h.1, hk _ _ h.2⟩
    · exact h
  | makeFunc fn a b => exact hk _ _ h
  | makeSlice t l c =>
    simp only [vcOp] at h ⊢
    split at h
    · split at h
      · split at h
        · split at h
          · obtain ⟨h1, h2, h3, h4, h5⟩ := h; exact ⟨h1, h2, h3, h4, fun r hr => hk _ _ (h5 r hr)⟩
          · exact h
        · exact h
      · exact h
    · exact h
  | slice t x lo hi mx =>
    cases mx with
    | some m =>
      cases lo with
      | some l => cases hi <;> exact h.elim
      | none =>
        cases hi with
        | none => exact h.elim
        | some hi => simp only [vcOp] at h ⊢; exact vcSl3_mono h fun c => hk c _
    | none =>
      simp only [vcOp] at h ⊢
      split at h
      · split at h
        · split at h
          · split at h
            · exact ⟨h.1, bnd_mono h.2 fun a ha => ⟨ha.1, bnd_mono ha.2 fun l hl => ⟨hl.1, hk _ _ hl.2⟩⟩⟩
            · exact bnd_mono h fun a ha => ⟨ha.1, bnd_mono ha.2 fun l hl => ⟨hl.1, hk _ _ hl.2⟩⟩
            · exact bnd_mono h fun a ha => ⟨ha.1, bnd_mono ha.2 fun l hl => ⟨hl.1, hk _ _ hl.2⟩⟩
            · exact h
          · exact h
        · split at h
          · exact bnd_mono h fun a ha => ⟨ha.1, bnd_mono ha.2 fun l hl => ⟨hl.1, hk _ _ hl.2⟩⟩
          · exact h
        · exact h
      · exact h
  | fieldAddr t x i =>
    simp only [vcOp] at h ⊢
    split at h
    · split at h
      · split at h
        · refine ⟨h.1, ?_⟩
          obtain ⟨_, h⟩ := h
          split at h <;> first | exact hk _ _ h | exact h
        · exact h
      · exact h
    · exact h
  | field t x i =>
    simp only [vcOp] at h ⊢
    split at h
    · split at h
      · split at h
        · split at h
          · split at h
            · rename_i ha; simp only [if_pos ha]; exact ⟨h.1, hk _ _ h.2⟩
            · rename_i ha; simp only [if_neg ha]; obtain ⟨c, h1, h2⟩ := h; exact ⟨c, h1, hk _ _ h2⟩
          · exact h
        · exact h
      · exact h
    · exact h
  | indexAddr t x i =>
    simp only [vcOp] at h ⊢
    split at h
    · split at h
      · split at h
        · split at h
          · exact ⟨h.1, h.2.1, hk _ _ h.2.2⟩
          · obtain ⟨h1, h2, el, h3, h4⟩ := h; exact ⟨h1, h2, el, h3, hk _ _ h4⟩
          · exact h
        · exact h
      · split at h
        · split at h
          · exact ⟨h.1, h.2.1, hk _ _ h.2.2⟩
          · exact ⟨h.1, h.2.1, hk _ _ h.2.2⟩
          · exact h
        · exact h
      · exact h
    · exact h
  | index t x i =>
    simp only [vcOp] at h ⊢
    split at h
    · split at h
      · obtain ⟨h1, h2, h3⟩ := h; exact ⟨h1, h2, hk _ _ h3⟩
      · split at h
        · obtain ⟨h1, h2, h3, c, h4, h5⟩ := h; exact ⟨h1, h2, h3, c, h4, hk _ _ h5⟩
        · exact h
      · exact h
    · exact h
  | extract x i =>
    simp only [vcOp] at h ⊢
    split at h
    · obtain ⟨c, h1, h2⟩ := h; exact ⟨c, h1, hk _ _ h2⟩
    · exact h
  | makeMap t x =>
    cases x with
    | some x => exact h.elim
    | none =>
      simp only [vcOp, vcMap] at h ⊢
      split at h
      · exact fun r hr => hk _ _ (h r hr)
      · exact h
  | lookup t x i ok =>
    simp only [vcOp, vcMap] at h ⊢
    split at h
    · refine ⟨h.1, ?_⟩
      obtain ⟨_, h⟩ := h
      split at h
      · exact hk _ _ h
      · obtain ⟨es, clk, h1, h2⟩ := h; exact ⟨es, clk, h1, hk _ _ h2⟩
      · exact h
    · exact h
  | mapUpdate t m k x =>
    simp only [vcOp, vcMap] at h ⊢
    split at h
    · obtain ⟨h0, es, clk, h1, h2⟩ := h; exact ⟨h0, es, clk, h1, hk _ _ h2⟩
    · exact h
  | range t x =>
    simp only [vcOp, vcMap] at h ⊢
    split at h
    · obtain ⟨es, clk, h1, h2⟩ := h; exact ⟨es, clk, h1, fun r hr => hk _ _ (h2 r hr)⟩
    · exact h
  | next it s =>
    cases s with
    | true => exact h.elim
    | false =>
      simp only [vcOp, vcMap] at h ⊢
      split at h
      · obtain ⟨h0, m, since, seen, last, ik, es, clk, h1, h2, h3, h4, h5, h6⟩ := h
        exact ⟨h0, m, since, seen, last, ik, es, clk, h1, h2, h3, h4, fun ha => hk _ _ (h5 ha), fun e he hn => hk _ _ (h6 e he hn)⟩
      · exact h
  | insert t m k x =>
    simp only [vcOp, vcMap] at h ⊢
    split at h
    · obtain ⟨h0, es, clk, h1, h2⟩ := h; exact ⟨h0, es, clk, h1, hk _ _ h2⟩
    · exact h
  | entry it =>
    simp only [vcOp, vcMap] at h ⊢
    split at h
    · obtain ⟨h0, m, since, seen, last, ik, es, e, st, h1, h2, h3, h4, h5⟩ := h
      exact ⟨h0, m, since, seen, last, ik, es, e, st, h1, h2, h3, h4, hk _ _ h5⟩
    · exact h
  | _ => exact h
def IsV (c : CV) (H : Hp) : CV → Hp → Prop := fun c' H' => c' = c ∧ H' = H
theorem IsV.mk {c : CV} {H : Hp} : IsV c H c H := ⟨rfl, rfl⟩
inductive Cls where
  | pure | load | alloc | eff
  deriving DecidableEq
def smallB : Callee → Bool
  | .builtin .len | .builtin .cap | .builtin .min | .builtin .max => true
  | _ => false
def clsO (o : Op) : Cls :=
  match o with
  | .move _ | .assign _ | .pick _ _ _ | .build _ _ | .nilCheck _ | .binOp _ _ _ _ _ | .unOp _ _ _ | .convert _ _ _ | .makeInterface _ _ | .makeFunc _ _ _ | .slice _ _ _ _ _ | .fieldAddr _ _ _ | .field _ _ _ | .indexAddr _ _ _ | .index _ _ _ | .extract _ _ => .pure
  | .load _ _ => .load
  | .alloc _ | .box _ _ | .buildSlice _ _ _ | .makeSlice _ _ _ => .alloc
  | .call c => if smallB c.callee = true then .pure else .eff
  | _ => .eff
theorem bnd_exact {o : Option CV} {d : Nat} {K : Nat → Prop} (h : bnd o d K) : ∃ n, K n ∧ bnd o d (fun n' => n' = n) := by
  unfold bnd at h ⊢
  split at h
  · exact ⟨_, h, rfl⟩
  · exact ⟨_, h.2, h.1, rfl⟩
  · exact h.elim
theorem bnd2_exact {hi lo : Option CV} {d d' : Nat} {A : Nat → Prop} {B : Nat → Nat → Prop} {K : Nat → Nat → Prop} (h : bnd hi d fun a => A a ∧ bnd lo d' fun l => B a l ∧ K a l) :
    ∃ a l, K a l ∧ bnd hi d fun a' => A a' ∧ bnd lo d' fun l' => B a' l' ∧ a' = a ∧ l' = l := by
  obtain ⟨a, ⟨ha, hb⟩, he⟩ := bnd_exact h
  obtain ⟨l, ⟨hl, hK⟩, he'⟩ := bnd_exact hb
  exact ⟨a, l, hK, bnd_mono he fun a' e => by subst e; exact ⟨ha, bnd_mono he' fun l' e => by subst e; exact ⟨hl, rfl, rfl⟩⟩⟩
/-- A pure operation has one value, whatever is held. -/
theorem pure_exact {o : Op} {ev : Operand → CV} {K : CV → Hp → Prop} (hc : clsO o = .pure) (h : vcOp T o ev H K) : ∃ c, K c H ∧ ∀ H', vcOp T o ev H' (IsV c H') := by
  cases o <;> simp only [clsO, reduceCtorEq] at hc
  case call => exact h.elim
  case move x => exact ⟨_, h, fun _ => IsV.mk⟩
  case assign x => exact ⟨_, h, fun _ => IsV.mk⟩
  case pick c a b =>
    simp only [vcOp] at h ⊢
    split at h
    · rename_i t e
      have h := splitB_elim h
      exact ⟨_, h, fun H' => ⟨fun ht => by subst ht; exact IsV.mk, fun ht => by subst ht; exact IsV.mk⟩⟩
    · exact h.elim
  case build t ps =>
    simp only [vcOp] at h ⊢
    split at h
    · split at h
      · obtain ⟨cs, h1, h2⟩ := h; exact ⟨_, h2, fun _ => ⟨cs, h1, IsV.mk⟩⟩
      · split at h
        · obtain ⟨cs, h1, h2⟩ := h; exact ⟨_, h2, fun _ => ⟨cs, h1, IsV.mk⟩⟩
        · exact h.elim
      · exact h.elim
    · exact h.elim
  case nilCheck x =>
    simp only [vcOp] at h ⊢
    split at h <;> first | exact ⟨_, h, fun _ => IsV.mk⟩ | exact h.elim
  case binOp op t x y t' =>
    obtain ⟨c, h1, h2⟩ := vcBin_exact h
    exact ⟨c, h1, fun H' => vcBin_mono h2 fun c' e => by subst e; exact IsV.mk⟩
  case unOp op t x =>
    simp only [vcOp] at h ⊢
    split at h
    · exact ⟨_, h, fun _ => IsV.mk⟩
    · obtain ⟨z, h1, h2⟩ := h; exact ⟨_, h2, fun _ => ⟨z, h1, IsV.mk⟩⟩
    · exact h.elim
  case convert a b x =>
    simp only [vcOp] at h ⊢
    split at h
    · split at h
      · obtain ⟨z, h1, h2⟩ := h; exact ⟨_, h2, fun _ => ⟨z, h1, IsV.mk⟩⟩
      · exact h.elim
    · exact h.elim
  case makeInterface t x =>
    simp only [vcOp] at h ⊢
    split at h
    · exact ⟨_, h.2, fun _ => ⟨h.1, IsV.mk⟩⟩
    · exact h.elim
  case makeFunc fn a b => exact ⟨_, h, fun _ => IsV.mk⟩
  case slice t x lo hi mx =>
    cases mx with
    | some m =>
      cases lo with
      | some l => cases hi <;> exact h.elim
      | none =>
        cases hi with
        | none => exact h.elim
        | some hi =>
          simp only [vcOp] at h ⊢
          obtain ⟨c, h1, h2⟩ := vcSl3_exact (K := fun c => K c H) h
          exact ⟨c, h1, fun H' => vcSl3_mono (K' := fun c' => IsV c H' c' H') h2 fun c' e => by subst e; exact IsV.mk⟩
    | none =>
      simp only [vcOp] at h ⊢
      split at h
      · split at h
        · split at h
          · split at h
            · obtain ⟨h0, h⟩ := h
              obtain ⟨a, l, hK, he⟩ := bnd2_exact (K := fun a l => K (.sl _ _) H) h
              exact ⟨_, hK, fun H' => ⟨h0, bnd_mono he fun a' ha => ⟨ha.1, bnd_mono ha.2 fun l' hl => ⟨hl.1, by obtain ⟨_, rfl, rfl⟩ := hl; exact IsV.mk⟩⟩⟩⟩
            · obtain ⟨a, l, hK, he⟩ := bnd2_exact (K := fun a l => K (.ref _ _ _ _) H) h
              exact ⟨_, hK, fun H' => bnd_mono he fun a' ha => ⟨ha.1, bnd_mono ha.2 fun l' hl => ⟨hl.1, by obtain ⟨_, rfl, rfl⟩ := hl; exact IsV.mk⟩⟩⟩
            · obtain ⟨a, l, hK, he⟩ := bnd2_exact (K := fun a l => K .nilsl H) h
              exact ⟨_, hK, fun H' => bnd_mono he fun a' ha => ⟨ha.1, bnd_mono ha.2 fun l' hl => ⟨hl.1, IsV.mk⟩⟩⟩
            · exact h.elim
          · exact h.elim
        · split at h
          · obtain ⟨a, l, hK, he⟩ := bnd2_exact (K := fun a l => K (.str _) H) h
            exact ⟨_, hK, fun H' => bnd_mono he fun a' ha => ⟨ha.1, bnd_mono ha.2 fun l' hl => ⟨hl.1, by obtain ⟨_, rfl, rfl⟩ := hl; exact IsV.mk⟩⟩⟩
          · exact h.elim
        · exact h.elim
      · exact h.elim
  case fieldAddr t x i =>
    simp only [vcOp] at h ⊢
    split at h
    · split at h
      · split at h
        · obtain ⟨h0, h⟩ := h
          split at h <;> first | exact ⟨_, h, fun _ => ⟨h0, IsV.mk⟩⟩ | exact h.elim
        · exact h.elim
      · exact h.elim
    · exact h.elim
  case field t x i =>
    simp only [vcOp] at h ⊢
    split at h
    · split at h
      · split at h
        · split at h
          · split at h
            · rename_i ha; exact ⟨_, h.2, fun _ => by simp only [if_pos ha]; exact ⟨h.1, IsV.mk⟩⟩
            · rename_i ha; obtain ⟨c, h1, h2⟩ := h; exact ⟨_, h2, fun _ => by simp only [if_neg ha]; exact ⟨c, h1, IsV.mk⟩⟩
          · exact h.elim
        · exact h.elim
      · exact h.elim
    · exact h.elim
  case indexAddr t x i =>
    simp only [vcOp] at h ⊢
    split at h
    · split at h
      · split at h
        · split at h
          · exact ⟨_, h.2.2, fun _ => ⟨h.1, h.2.1, IsV.mk⟩⟩
          · obtain ⟨h1, h2, el, h3, h4⟩ := h; exact ⟨_, h4, fun _ => ⟨h1, h2, el, h3, IsV.mk⟩⟩
          · exact h.elim
        · exact h.elim
      · split at h
        · split at h
          · exact ⟨_, h.2.2, fun _ => ⟨h.1, h.2.1, IsV.mk⟩⟩
          · exact ⟨_, h.2.2, fun _ => ⟨h.1, h.2.1, IsV.mk⟩⟩
          · exact h.elim
        · exact h.elim
      · exact h.elim
    · exact h.elim
  case index t x i =>
    simp only [vcOp] at h ⊢
    split at h
    · split at h
      · obtain ⟨h1, h2, h3⟩ := h; exact ⟨_, h3, fun _ => ⟨h1, h2, IsV.mk⟩⟩
      · split at h
        · obtain ⟨h1, h2, h3, c, h4, h5⟩ := h; exact ⟨_, h5, fun _ => ⟨h1, h2, h3, c, h4, IsV.mk⟩⟩
        · exact h.elim
      · exact h.elim
    · exact h.elim
  case extract x i =>
    simp only [vcOp] at h ⊢
    split at h
    · obtain ⟨c, h1, h2⟩ := h; exact ⟨_, h2, fun _ => ⟨c, h1, IsV.mk⟩⟩
    · exact h.elim
/-- A load has one value, and has it where more is held. -/
theorem load_exact {o : Op} {ev : Operand → CV} {K : CV → Hp → Prop} (hc : clsO o = .load) (h : vcOp T o ev H K) : ∃ c, K c H ∧ ∀ H', (∀ r ob, H r = some ob → H' r = some ob) → vcOp T o ev H' (IsV c H') := by
  cases o <;> simp only [clsO, reduceCtorEq] at hc
  case call => split at hc <;> cases hc
  case load t a =>
    simp only [vcOp] at h ⊢
    split at h
    · split at h
      · obtain ⟨cs, h1, h2⟩ := h
        obtain ⟨c, h3, h4⟩ := vcLoad_exact h2
        exact ⟨c, h3, fun H' hle => ⟨cs, hle _ _ h1, vcLoad_mono h4 fun c' e => by subst e; exact IsV.mk⟩⟩
      · obtain ⟨c, h3, h4⟩ := vcLoad_exact h
        exact ⟨c, h3, fun H' hle => vcLoad_mono h4 fun c' e => by subst e; exact IsV.mk⟩
      · exact h.elim
    · exact h.elim
end
end Go.Cl
