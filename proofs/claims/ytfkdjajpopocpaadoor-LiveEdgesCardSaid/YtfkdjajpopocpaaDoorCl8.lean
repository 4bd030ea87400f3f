/- DERIVED HERE. The clean layer: regions in the text's order, code, a function's contract out of its body. -/
import Derived.Test.YtfkdjajpopocpaaDoorCl7
set_option linter.unusedSimpArgs false
set_option linter.unusedVariables false
namespace Go.Cl
open Go.RowKit
section
variable {X : Cx} {N : Nat} {ρ : Option Nat} {Q : CP} {s : CA} {H : Hp}
theorem yielded_bool {W : World} {ops : Array Oper} {j d : Nat} {a : Act} (hr : RepA W N s a) (hd : (ops[j]?).bind (·.dst) = some d) (hN : d < N) {b : Bool} (he : s.env d = .bool b) : yielded ops a.tmps j = some b := by
  have h1 := hr.1.2 d hN
  rw [he] at h1
  have h2 := rep_bool h1
  have h3 : d < a.tmps.size := by rw [hr.1.1]; exact hN
  rw [Array.getD_eq_getD_getElem?, Array.getElem?_eq_getElem h3, Option.getD_some] at h2
  simp [yielded, hd, Array.getElem?_eq_getElem h3, h2]
theorem yielded_undef {W : World} {ops : Array Oper} {j d : Nat} {a : Act} (hr : RepA W N s a) (hd : (ops[j]?).bind (·.dst) = some d) (hN : d < N) (he : s.env d = .tuple []) : yielded ops a.tmps j = none := by
  have h1 := hr.1.2 d hN
  rw [he] at h1
  have h3 : d < a.tmps.size := by rw [hr.1.1]; exact hN
  rw [Array.getD_eq_getD_getElem?, Array.getElem?_eq_getElem h3, Option.getD_some] at h1
  generalize hv : a.tmps[d] = v at h1
  cases h1 with
  | tuple _ vs _ _ => simp [yielded, hd, Array.getElem?_eq_getElem h3, hv]
theorem step_sound (hX : CxOk X) {ops : Array Oper} {i : Nat} {l : List Nat} {K : CA → Hp → Prop} (h : vcStep X N ops i Q K s H) (hK : ∀ s' H', K s' H' → CO X.P X.W N ρ ops l Q s' H') : CO X.P X.W N ρ ops (i :: l) Q s H := by
  refine ⟨fun F a w hd hr hh => ?_⟩
  unfold vcStep at h
  simp only [wpOpsIn]
  split at h
  · exact h.elim
  · rename_i o ho
    simp only [ho]
    unfold vcStepO at h
    split at h
    case isFalse => exact h.elim
    rename_i hdst
    split at h
    · rename_i hg
      have hw : Region.wanted o (yielded ops a.tmps) = true := by simp [Region.wanted, hg]
      rw [if_pos hw]
      exact do_sound hX hd hr hh hdst h fun c v H' w' hv hd' hh' hk => (hK _ _ hk).out F _ w' hd' (hr.put hdst hv) hh'
    · rename_i j want hg
      split at h
      · rename_i d hjd
        split at h
        · rename_i b hb
          have hN : d < N := by
            simp only [evC] at hb
            split at hb
            · assumption
            · cases hb
          have he : s.env d = .bool b := by simpa [evC, hN] using hb
          have hy := yielded_bool hr hjd hN he
          have h := splitB_elim h
          rw [setv_self he] at h
          split at h
          · rename_i hbw
            have hw : Region.wanted o (yielded ops a.tmps) = true := by simp [Region.wanted, hg, hy, hbw]
            rw [if_pos hw]
            exact do_sound hX hd hr hh hdst h fun c v H' w' hv hd' hh' hk => (hK _ _ hk).out F _ w' hd' (hr.put hdst hv) hh'
          · rename_i hbw
            have hw : ¬ Region.wanted o (yielded ops a.tmps) = true := by simp [Region.wanted, hg, hy, hbw]
            rw [if_neg hw]
            exact ⟨fun _ _ => trivial, (hK _ _ h).out F _ w hd (hr.put hdst (rep_undef _)) hh⟩
        · rename_i hb
          have hN : d < N := by
            simp only [evC] at hb
            split at hb
            · assumption
            · cases hb
          have he : s.env d = .tuple [] := by simpa [evC, hN] using hb
          have hy := yielded_undef hr hjd hN he
          have hw : ¬ Region.wanted o (yielded ops a.tmps) = true := by simp [Region.wanted, hg, hy]
          rw [if_neg hw]
          exact ⟨fun _ _ => trivial, (hK _ _ h).out F _ w hd (hr.put hdst (rep_undef _)) hh⟩
        · exact h.elim
      · exact h.elim
theorem CO.of_vcOps (hX : CxOk X) {ops : Array Oper} : ∀ {l : List Nat} {s : CA} {H : Hp}, vcOps X N ops Q l s H → CO X.P X.W N ρ ops l Q s H
  | [], s, H, h => CO.nil h
  | i :: l, s, H, h => step_sound hX h fun s' H' hk => CO.of_vcOps hX hk

theorem CO.of_vcL (hX : CxOk X) {ops : Array Oper} : ∀ (n k : Nat) (s : CA) (H : Hp), k + n = ops.size → vcL X N ops Q (ops.toList.drop k) s H → CO X.P X.W N ρ ops (List.range' k n) Q s H
  | 0, k, s, H, hk, h => by
    rw [List.drop_eq_nil_of_le (by simp; omega)] at h
    exact CO.nil h
  | n + 1, k, s, H, hk, h => by
    have hlt : k < ops.toList.length := by simp; omega
    rw [List.drop_eq_getElem_cons hlt] at h
    rw [List.range'_succ]
    have ho : ops[k]? = some (ops.toList[k]) := by simp [show k < ops.size by omega]
    refine step_sound (K := fun s' H' => vcL X N ops Q (ops.toList.drop (k + 1)) s' H') hX ?_ fun s' H' h' => CO.of_vcL hX n (k + 1) s' H' (by omega) h'
    unfold vcStep
    rw [ho]
    exact h
/-- Results, read. -/
def vcRes (X : Cx) (N : Nat) : List ResultVar → Env → Hp → List CV → (List CV → Prop) → Prop
  | [], _, _, acc, K => K acc
  | .tmp t :: r, e, H, acc, K => vcRes X N r e H (acc ++ [evC X N e (.tmp t)]) K
  | .cell a t :: r, e, H, acc, K => match X.T t with
    | some ti => match evC X N e (.tmp a) with
      | .ptr b o => ∃ cs, H b = some (.cells cs) ∧ vcLoad ti cs o fun c => vcRes X N r e H (acc ++ [c]) K
      | _ => False
    | none => False
def oneC : List CV → CV
  | [v] => v
  | vs => .tuple vs
def leaveQ (X : Cx) (N : Nat) (rs : List ResultVar) (R : CE → Hp → Prop) : List CD → CA → Hp → Prop
  | [], s, H => vcRes X N rs s.env H [] fun vs => R (.ret (oneC vs)) H
  | .mark r :: ds, s, H => H r = some .dfr ∧ leaveQ X N rs R ds s fun i => if i = r then none else H i
  | .call _ _ _ :: _, _, _ => False
def leaveP (R : CE → Hp → Prop) (v : CV) : List CD → Hp → Prop
  | [], H => R (.panic v) H
  | .mark r :: ds, H => H r = some .dfr ∧ leaveP R v ds fun i => if i = r then none else H i
  | .call _ _ _ :: _, _ => False
def bodyQ (X : Cx) (N : Nat) (rs : List ResultVar) (R : CE → Hp → Prop) : CP := fun x s H =>
  match x with
  | .normal => leaveQ X N rs R s.ds s H
  | .ret => leaveQ X N rs R s.ds s H
  | .panic v => leaveP R v s.ds H
  | _ => False
def rdRes (ts : Array Value) : ResultVar → Sem Value
  | .tmp t => pure (ts.getD t undef)
  | .cell b t => do loadVar t (← asAddr (ts.getD b undef))
theorem res_sound (hX : CxOk X) {e : Env} {F : Hp} {ts : Array Value} {w : World} {K : List CV → Prop} (hE : RepE X.W N e ts) (hh : Held X.W (hun H F) w) : ∀ (l : List ResultVar) (acc : List CV) (av : List Value), RepL X.W acc av → vcRes X N l e H acc K →
    ∃ vs cs, (l.mapM (rdRes ts)).run X.P w = .ok vs w ∧ RepL X.W cs (av ++ vs) ∧ K cs
  | [], acc, av, ha, h => ⟨[], acc, rfl, by simpa using ha, h⟩
  | .tmp t :: r, acc, av, ha, h => by
    have ht := ev_rep (s := ⟨e, []⟩) (a := ⟨ts, []⟩) hX ⟨hE, trivial⟩ (.tmp t)
    obtain ⟨vs, cs, h1, h2, h3⟩ := res_sound hX hE hh r (acc ++ [evC X N e (.tmp t)]) (av ++ [ts.getD t undef]) (ha.append (RepL.cons ht (RepL.nil _))) h
    refine ⟨ts.getD t undef :: vs, cs, ?_, by simpa using h2, h3⟩
    rw [List.mapM_cons]
    simp only [Sem.run_bind, rdRes, Sem.run_pure, Result.andThen_ok, h1]
  | .cell b t :: r, acc, av, ha, h => by
    simp only [vcRes] at h
    split at h
    · rename_i ti ht
      obtain ⟨f⟩ := tfact hX.hT ht
      split at h
      · rename_i q o hb
        obtain ⟨cs0, hcs, hl⟩ := h
        have hbr := ev_rep (s := ⟨e, []⟩) (a := ⟨ts, []⟩) hX ⟨hE, trivial⟩ (.tmp b)
        rw [hb] at hbr
        have hbv : ts.getD b undef = .pointer (some ⟨q, o, none⟩) := rep_ptr hbr
        obtain ⟨v, c, hw, hrc, hK⟩ := load_ptr_run f hh hcs hl
        have hasA : ∀ w, (asAddr (ts.getD b undef)).run X.P w = .ok ⟨q, o, none⟩ w := by intro w; rw [hbv]; rfl
        obtain ⟨vs, cs, h1, h2, h3⟩ := res_sound hX hE hh r (acc ++ [c]) (av ++ [v]) (ha.append (RepL.cons hrc (RepL.nil _))) hK
        refine ⟨v :: vs, cs, ?_, by simpa using h2, h3⟩
        rw [List.mapM_cons]
        simp only [Sem.run_bind, rdRes, Sem.run_pure, Result.andThen_ok, hasA, hw, h1]
      · exact h.elim
    · exact h.elim
theorem take_sound {P : Program} {W : World} {H F : Hp} {w : World} {r : Nat} (hd : Disj H F) (hh : Held W (hun H F) w) (hr : H r = some .dfr) :
    ∃ w', (Instr.takeDeferred r).run P w = .ok [] w' ∧ Disj (fun i => if i = r then none else H i) F ∧ Held W (hun (fun i => if i = r then none else H i) F) w' := by
  obtain ⟨hb, ob, hob, hrep⟩ := hh.at_ r _ (hun_left hr)
  have hrep : ob = .deferred (some []) := hrep
  subst hrep
  refine ⟨{ w with heap := w.heap.setIfInBounds r (.deferred none) }, ?_, fun i => ?_, ?_⟩
  · simp [Instr.takeDeferred, getObj, setObj, Sem.run, hob]
  · by_cases e : i = r
    · exact .inl (by simp [e])
    · rcases hd i with h | h
      · exact .inl (by simp [e, h])
      · exact .inr h
  · have hF : F r = none := (hd r).resolve_left (by simp [hr])
    refine ⟨hh.below.trans ⟨rfl, rfl, rfl, by simp, fun k hk => by simp [Array.getElem?_setIfInBounds, show ¬ r = k by omega]⟩, fun i o ho => ?_⟩
    by_cases e : i = r
    · subst e; simp [hun, hF] at ho
    · have ho' : hun H F i = some o := by simpa [hun, e] using ho
      obtain ⟨h1, ob', h2, h3⟩ := hh.at_ i o ho'
      exact ⟨h1, ob', by simp [Array.getElem?_setIfInBounds, show ¬ r = i from fun h => e h.symm]; exact h2, h3⟩
theorem results_eq (fn : Func) (ts : Array Value) : results fn ts = (do let vs ← fn.results.mapM (rdRes ts); pure (if h : vs.size = 1 then vs[0] else .tuple vs)) := rfl
theorem results_sound (hX : CxOk X) {e : Env} {F : Hp} {ts : Array Value} {w : World} {fn : Func} {K : CV → Prop} (hE : RepE X.W N e ts) (hh : Held X.W (hun H F) w) (h : vcRes X N fn.results.toList e H [] fun vs => K (oneC vs)) :
    ∃ v c, (results fn ts).run X.P w = .ok v w ∧ Rep X.W c v ∧ K c := by
  obtain ⟨vs, cs, h1, h2, h3⟩ := res_sound hX hE hh fn.results.toList [] [] (RepL.nil _) h
  simp only [List.nil_append] at h2
  refine ⟨if h : vs.toArray.size = 1 then vs.toArray[0] else .tuple vs.toArray, oneC cs, ?_, ?_, h3⟩
  · rw [results_eq, Sem.run_bind, Array.mapM_eq_mapM_toList, Sem.run_map, h1]
    rfl
  · match cs, vs, h2 with
    | [c], [v], h2 => exact h2.2 0 c v rfl rfl
    | [], [], h2 => exact Rep.mktuple h2
    | c :: d :: cs, v :: u :: vs, h2 =>
      rw [dif_neg (by simp)]
      exact Rep.mktuple h2
    | [], _ :: _, h2 => have := h2.1; simp at this
    | _ :: _, [], h2 => have := h2.1; simp at this
    | [_], _ :: _ :: _, h2 => have := h2.1; simp at this
    | _ :: _ :: _, [_], h2 => have := h2.1; simp at this
def liftR (W : World) (F : Hp) (R : CE → Hp → Prop) : Ending → World → Prop := fun e w' => ∃ x H', RepEnd W x e ∧ Disj H' F ∧ Held W (hun H' F) w' ∧ R x H'
theorem leave_sound (hX : CxOk X) {fn : Func} {R : CE → Hp → Prop} {F : Hp} {a : Act} : ∀ (ds : List CD) (dv : List Deferred) (H : Hp) (w : World), RepDs X.W ds dv → RepE X.W fn.ntmps s.env a.tmps → Disj H F → Held X.W (hun H F) w → leaveQ X fn.ntmps fn.results.toList R ds s H →
    LeavesInM (fen none) 0 X.P fn a.tmps (liftR X.W F R) dv .returning w
  | [], [], H, w, _, hE, hd, hh, h => by
    obtain ⟨v, c, h1, h2, h3⟩ := results_sound (N := fn.ntmps) (fn := fn) (K := fun c => R (.ret c) H) hX hE hh h
    exact ⟨v, h1, .ret c, H, h2, hd, hh, h3⟩
  | .mark r :: ds, d :: dv, H, w, hds, hE, hd, hh, h => by
    obtain ⟨rfl, hds⟩ := hds
    obtain ⟨hr, h⟩ := h
    obtain ⟨w', h1, h2, h3⟩ := take_sound (P := X.P) hd hh hr
    exact ⟨by simp, .inl ⟨r, w', rfl, h1, leave_sound hX ds dv _ w' hds hE h2 h3 h⟩⟩
  | .call _ _ _ :: _, _, _, _, _, _, _, _, h => h.elim
  | [], _ :: _, _, _, hds, _, _, _, _ => hds.elim
  | .mark _ :: _, [], _, _, hds, _, _, _, _ => hds.elim
theorem leaveP_sound {P : Program} {W : World} {fn : Func} {R : CE → Hp → Prop} {F : Hp} {ts : Array Value} {v : CV} {ch : List PanicEntry} (hv : ∃ u, ch = [{ v := u, recovered := false }] ∧ Rep W v u) : ∀ (ds : List CD) (dv : List Deferred) (H : Hp) (w : World), RepDs W ds dv → Disj H F → Held W (hun H F) w → leaveP R v ds H →
    LeavesInM (fen none) 0 P fn ts (liftR W F R) dv (.panicking ch) w
  | [], [], H, w, _, hd, hh, h => ⟨.panic v, H, hv, hd, hh, h⟩
  | .mark r :: ds, d :: dv, H, w, hds, hd, hh, h => by
    obtain ⟨rfl, hds⟩ := hds
    obtain ⟨hr, h⟩ := h
    obtain ⟨w', h1, h2, h3⟩ := take_sound (P := P) hd hh hr
    exact ⟨by simp, .inl ⟨r, w', rfl, h1, leaveP_sound hv ds dv _ w' hds h2 h3 h⟩⟩
  | .call _ _ _ :: _, _, _, _, _, _, _, h => h.elim
  | [], _ :: _, _, _, hds, _, _, _ => hds.elim
  | .mark _ :: _, [], _, _, hds, _, _, _ => hds.elim
/-- The frame at a function's begin. -/
def env0 (args : List CV) : Env := fun i => args.getD i (.tuple [])
/-- **A call's contract, out of the function's body.** -/
theorem CC.of_body (hX : CxOk X) {f : FuncId} {fn : Func} {c : Code} {args : List CV} {R : CE → Hp → Prop} (hf : X.P.funcs[f]? = some fn) (hb : fn.body = some c) (hnm : (fn.name == "runtime.NumGoroutine") = false) (hl : args.length ≤ fn.ntmps)
    (h : CW X.P X.W fn.ntmps none c (bodyQ X fn.ntmps fn.results.toList R) ⟨env0 args, []⟩ H) : CC X.P X.W f args H R := by
  refine ⟨⟨fn, hf, by rw [hb]; rfl, hnm⟩, fun F av w hd hr hh => ?_⟩
  have hal : args.length = av.size := by simpa using hr.1
  refine callsIn_of_wp_marks hf hb trivial (wpIn_mono (h.out F { tmps := av ++ Array.replicate (fn.ntmps - av.size) undef, defers := [] } w hd ⟨⟨by simp; omega, fun t ht => ?_⟩, trivial⟩ hh) ?_)
  · simp only [env0]
    rw [Array.getD_eq_getD_getElem?, List.getD_eq_getElem?_getD]
    rcases Nat.lt_or_ge t av.size with h | h
    · rw [Array.getElem?_append_left h, Array.getElem?_eq_getElem h, List.getElem?_eq_getElem (by omega : t < args.length)]
      exact hr.2 t _ _ (List.getElem?_eq_getElem _) (by simp [h])
    · rw [Array.getElem?_append_right h, List.getElem?_eq_none (by omega)]
      simp [show t - av.size < fn.ntmps - av.size by omega]
      exact rep_undef _
  · rintro e a' w' ⟨x, s', H', hx, hr', hd', hh', hq⟩
    cases x <;> cases e <;> simp only [RepX] at hx <;> first
      | exact leave_sound hX s'.ds a'.defers H' w' hr'.2 hr'.1 hd' hh' hq
      | exact leaveP_sound hx s'.ds a'.defers H' w' hr'.2 hd' hh' hq
      | exact hq.elim
end
end Go.Cl
