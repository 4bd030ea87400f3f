/- DERIVED HERE. The clean layer: a region's steps, calls, code ('vc'), a function's contract out of its body. -/
import Derived.Test.YtfkdjajpopocpaaDoorCl6
set_option linter.unusedSimpArgs false
set_option linter.unusedVariables false
namespace Go.Cl
open Go.RowKit

/-- What stays the same through a walk: the program, its types, the world at the call, the globals. -/
structure Cx where
  P : Program
  T : Tab
  W : World
  G : Nat → CV
structure CxOk (X : Cx) : Prop where
  hT : TabOk X.P X.T
  hG : ∀ g, Rep X.W (X.G g) (.pointer (some ⟨g, 0, none⟩))

def evC (X : Cx) (N : Nat) (e : Env) : Operand → CV
  | .tmp t => if t < N then e t else .any
  | .const v => cvOf v
  | .global g => X.G g
  | .func f => .func (.func f) [] []
def evs (X : Cx) (N : Nat) (e : Env) (l : List Operand) : List CV := l.map (evC X N e)
def CA.put (s : CA) (d : Option Nat) (v : CV) : CA := { s with env := s.env.put d v }
def CA.setv (s : CA) (d : Nat) (v : CV) : CA := { s with env := s.env.set d v }
def dstOk (N : Nat) : Option Nat → Bool
  | some d => decide (d < N)
  | none => true

def vcCall (X : Cx) (N : Nat) (c : Call) (s : CA) (H : Hp) (Q : CP) (K : CV → Hp → Prop) : Prop :=
  match c.callee with
  | .value f => match evC X N s.env f with
    | .func (.func g) first cap => CC X.P X.W g (first ++ evs X N s.env c.args.toList ++ cap) H fun x H' => match x with | .ret v => K v H' | .panic v => Q (.panic v) s H'
    | .func (.yield l) first _ => CY X.P X.W l (first ++ evs X N s.env c.args.toList) H fun b H' => K (.bool b) H'
    | _ => False
  | .builtin b => vcBuiltin X.T b c.argTypes (evs X N s.env c.args.toList) H K
  | .invoke _ _ => False
def vcDo (X : Cx) (N : Nat) (o : Oper) (s : CA) (H : Hp) (Q : CP) (K : CV → Hp → Prop) : Prop :=
  match o.op with
  | .call c => vcCall X N c s H Q K
  | .panic x => match evC X N s.env x with | .iface t v => Q (.panic (.iface t v)) s H | _ => False
  | op => vcOp X.T op (evC X N s.env) H K
/-- One operation of a region, and on. -/
def vcStepO (X : Cx) (N : Nat) (ops : Array Oper) (o : Oper) (Q : CP) (K : CA → Hp → Prop) (s : CA) (H : Hp) : Prop :=
  if dstOk N o.dst = true then (match o.guard with
    | none => vcDo X N o s H Q fun c H' => K (s.put o.dst c) H'
    | some (j, want) => match (ops[j]?).bind (·.dst) with
      | some d => match evC X N s.env (.tmp d) with
        | .bool b => splitB b fun b' => if b' = want then vcDo X N o (s.setv d (.bool b')) H Q fun c H' => K ((s.setv d (.bool b')).put o.dst c) H' else K ((s.setv d (.bool b')).put o.dst (.tuple [])) H
        | .tuple [] => K (s.put o.dst (.tuple [])) H
        | _ => False
      | none => False) else False
def vcStep (X : Cx) (N : Nat) (ops : Array Oper) (i : Nat) (Q : CP) (K : CA → Hp → Prop) (s : CA) (H : Hp) : Prop :=
  match ops[i]? with
  | none => False
  | some o => vcStepO X N ops o Q K s H
/-- All of a region's operations, in the text's order. -/
def vcL (X : Cx) (N : Nat) (ops : Array Oper) (Q : CP) : List Oper → CA → Hp → Prop
  | [], s, H => Q .normal s H
  | o :: l, s, H => vcStepO X N ops o Q (fun s' H' => vcL X N ops Q l s' H') s H
def vcOps (X : Cx) (N : Nat) (ops : Array Oper) (Q : CP) : List Nat → CA → Hp → Prop
  | [], s, H => Q .normal s H
  | i :: l, s, H => vcStep X N ops i Q (fun s' H' => vcOps X N ops Q l s' H') s H

section
variable {X : Cx} {N : Nat} {ρ : Option Nat} {Q : CP} {s : CA} {H : Hp}
theorem ev_rep (hX : CxOk X) {a : Act} (h : RepA X.W N s a) (o : Operand) : Rep X.W (evC X N s.env o) (a.eval o) := by
  cases o with
  | tmp t =>
    simp only [evC, Act.eval]
    split
    · rename_i ht; exact h.1.2 t ht
    · exact .any _
  | const v => exact rep_cvOf _ v
  | global g => exact hX.hG g
  | func f => exact .func _ _ _ _ _ rfl rfl (fun i x v hx => by simp at hx) (fun i x v hx => by simp at hx)
theorem evs_rep (hX : CxOk X) {a : Act} (h : RepA X.W N s a) (l : Array Operand) : RepL X.W (evs X N s.env l.toList) (l.map a.eval).toList := by
  refine ⟨by simp [evs], fun i x v hx hv => ?_⟩
  simp only [evs, List.getElem?_map, Array.toList_map] at hx hv
  cases hq : l.toList[i]? with
  | none => simp [hq] at hx
  | some o => simp only [hq, Option.map_some, Option.some.injEq] at hx hv; subst hx; subst hv; exact ev_rep hX h o
theorem RepA.put {W : World} {a : Act} (h : RepA W N s a) {d : Option Nat} (hd : dstOk N d = true) {c : CV} {v : Value} (hc : Rep W c v) : RepA W N (s.put d c) (a.put d v) := by
  cases d with
  | none => exact h
  | some d => exact ⟨h.1.put (by simpa [dstOk] using hd) hc, h.2⟩
theorem env_set_self {e : Env} {d : Nat} {c : CV} (h : e d = c) : e.set d c = e := by
  funext i; simp only [Env.set]; split
  · rename_i hi; rw [hi, h]
  · rfl
theorem setv_self {d : Nat} {c : CV} (h : s.env d = c) : s.setv d c = s := by
  unfold CA.setv; rw [env_set_self h]
theorem rep_undef (W : World) : Rep W (.tuple []) undef := .tuple [] #[] rfl (fun i x v hx => by simp at hx)
theorem leads_nil {f : FuncId} : True := trivial

/-- A call of a function. -/
theorem invoke_func {P : Program} {W : World} {f : FuncId} {av : Array Value} {w : World} (h : ∃ fn, P.funcs[f]? = some fn ∧ fn.body.isSome = true ∧ (fn.name == "runtime.NumGoroutine") = false) : (callFunc f av).run P w = .ok (.enter f av) w := by
  obtain ⟨fn, h1, h2, h3⟩ := h
  have h4 : fn.body.isNone = false := by cases hb : fn.body <;> simp [hb] at h2 ⊢
  simp only [callFunc, Sem.run_bind, run_program, Result.andThen_ok, h1, h3, h4, Bool.false_eq_true, if_false, Sem.run_pure]
theorem do_sound (hX : CxOk X) {F : Hp} {a : Act} {w : World} {o : Oper} {Kc : CV → Hp → Prop} {next : Act → World → Prop} (hd : Disj H F) (hr : RepA X.W N s a) (hh : Held X.W (hun H F) w) (hdst : dstOk N o.dst = true)
    (h : vcDo X N o s H Q Kc) (hn : ∀ c v H' w', Rep X.W c v → Disj H' F → Held X.W (hun H' F) w' → Kc c H' → next (a.put o.dst v) w') : o.wpIn (fen ρ) 0 X.P a w next (lift X.W N F Q) := by
  refine ⟨fun _ _ => trivial, ?_⟩
  unfold vcDo at h
  split at h
  · rename_i c hop
    have hsem : o.semAt ρ a.eval = execOp a.eval o := Oper.semAt_eq ρ a.eval o (by rw [hop]; intro c h; cases h)
    show o.uponIn (fen ρ) 0 X.P a next (lift X.W N F Q) ((o.semAt ρ a.eval).run X.P w)
    rw [hsem]
    simp only [execOp, hop]
    unfold vcCall at h
    split at h
    · rename_i f hcal
      have hf := ev_rep hX hr f
      split at h
      · rename_i g first cap hfe
        rw [hfe] at hf
        have hres : (resolve a.eval c o.type).run X.P w = (Deferred.ofValue (a.eval f) (c.args.map a.eval)).run X.P w := by simp only [resolve, hcal]
        rw [Sem.run_bind, hres]
        generalize a.eval f = fv at hf ⊢
        cases hf with
        | func _ _ _ fv cv hfl hcl hfr hcr =>
          have hav : RepL X.W (first ++ evs X N s.env c.args.toList ++ cap) (fv ++ c.args.map a.eval ++ cv).toList := by
            simp only [Array.toList_append]
            exact (RepL.append ⟨by simpa using hfl, fun i x v hx hv => hfr i x v hx (by simpa using hv)⟩ (evs_rep hX hr c.args)).append ⟨by simpa using hcl, fun i x v hx hv => hcr i x v hx (by simpa using hv)⟩
          have hinv : (invoke (.fn (.func g) cv) (fv ++ c.args.map a.eval)).run X.P w = .ok (.enter g (fv ++ c.args.map a.eval ++ cv)) w := invoke_func (W := X.W) h.ent
          simp only [Deferred.ofValue, Sem.run_pure, Result.andThen_ok]
          rw [hinv, Oper.uponIn_enter]
          refine ⟨fun h => by simp [fen] at h, ?_⟩
          refine CallsIn.mono (h.out F _ w hd hav hh : CallsIn (fen none) 0 X.P g _ w _) ?_
          rintro e w' ⟨x, H', hx, hd', hh', hR⟩
          cases x <;> cases e <;> simp only [RepEnd] at hx <;> first
            | exact hn _ _ _ _ hx hd' hh' hR
            | exact ⟨.panic _, s, H', hx, hr, hd', hh', hR⟩
      · rename_i l first cap hfe
        rw [hfe] at hf
        have hres : (resolve a.eval c o.type).run X.P w = (Deferred.ofValue (a.eval f) (c.args.map a.eval)).run X.P w := by simp only [resolve, hcal]
        rw [Sem.run_bind, hres]
        generalize a.eval f = fv at hf ⊢
        cases hf with
        | func _ _ _ fv cv hfl hcl hfr hcr =>
          have hav : RepL X.W (first ++ evs X N s.env c.args.toList) (fv ++ c.args.map a.eval).toList := by
            simp only [Array.toList_append]
            exact RepL.append ⟨by simpa using hfl, fun i x v hx hv => hfr i x v hx (by simpa using hv)⟩ (evs_rep hX hr c.args)
          obtain ⟨fn, ts, asg, body, hy, hround⟩ := h.out F _ w hd hav hh
          simp only [Deferred.ofValue, Sem.run_pure, Result.andThen_ok]
          have hinv : (invoke (.fn (.yield l) cv) (fv ++ c.args.map a.eval)).run X.P w = .ok (.round l fn ts asg body) w := hy
          rw [hinv, Oper.uponIn_round]
          refine ⟨fun h => by simp [fen] at h, ?_⟩
          refine RoundIn.mono (hround : RoundIn (fen none) 0 X.P l fn ts asg body w _) ?_
          rintro e w' ⟨b, H', rfl, hd', hh', hR⟩
          exact hn _ _ _ _ (.bool b) hd' hh' hR
      · exact h.elim
    · rename_i b hcal
      have hres : (resolve a.eval c o.type).run X.P w = .ok { target := .builtin b c.argTypes o.type (c.args.map fun | .const _ => true | _ => false), args := c.args.map a.eval } w := by simp only [resolve, hcal]; rfl
      rw [Sem.run_bind, hres]
      simp only [Result.andThen_ok, invoke]
      have hargs := evs_rep hX hr c.args
      generalize evs X N s.env c.args.toList = xs at h hargs
      generalize c.args.map a.eval = av at hargs ⊢
      have fin : ∀ {sv : Sem Value}, GoodV X.W F Kc (sv.run X.P w) → o.uponIn (fen ρ) 0 X.P a next (lift X.W N F Q) ((do let v ← sv; pure (Next.value v) : Sem Next).run X.P w) := by
        rintro sv ⟨v, w', c', H', hrun, h1, h2, h3, h4⟩
        rw [Sem.run_bind, hrun]
        exact hn c' v H' w' h1 h2 h3 h4
      unfold vcBuiltin at h
      split at h
      · rename_i t x hts
        have hta : c.argTypes = #[t] := by apply Array.toList_inj.1; simpa using hts
        obtain ⟨v, rfl⟩ : ∃ v, av = #[v] := by
          have := hargs.1
          refine ⟨av[0]'(by simp at this; omega), ?_⟩
          apply Array.ext
          · simp at this; simp; omega
          · intro i h1 h2
            simp at this
            have : i = 0 := by omega
            subst this; rfl
        have hv : Rep X.W x v := hargs.2 0 x v rfl rfl
        split at h
        · rename_i ti ht
          obtain ⟨f⟩ := tfact hX.hT ht
          simp only [builtin]
          refine fin ?_
          rw [hta]
          split at h
          · rename_i hk
            generalize hgs : v = v' at hv
            cases hv with
            | sl _ ys A cc vs hn' hz hc hA hr' =>
              subst hgs
              simp only [Builtin.len_, Sem.run_bind, f.und, kind_slice f hk, Result.andThen_ok]
              simp [f.und, kind_slice f hk, goInt]
              exact GoodV.mk hd hh (.int _ _) h
          · rename_i hk
            rw [rep_ref hv]
            simp [Builtin.len_, f.und, kind_slice f hk, goInt]
            exact GoodV.mk hd hh (.int _ _) h
          · rename_i hk
            rw [rep_nilsl hv]
            simp [Builtin.len_, f.und, kind_slice f hk, goInt]
            exact GoodV.mk hd hh (.int _ _) h
          · rename_i hk
            rw [rep_str hv]
            simp [Builtin.len_, f.und, kind_str f hk, goInt]
            exact GoodV.mk hd hh (.int _ _) h
          · rename_i hk
            simp [Builtin.len_, f.und, kind_arr f hk, goInt]
            exact GoodV.mk hd hh (.int _ _) h
          · exact h.elim
        · exact h.elim
      · rename_i t t' x y hts
        have hta : c.argTypes = #[t, t'] := by apply Array.toList_inj.1; simpa using hts
        obtain ⟨v, u, rfl⟩ : ∃ v u, av = #[v, u] := by
          have := hargs.1
          refine ⟨av[0]'(by simp at this; omega), av[1]'(by simp at this; omega), ?_⟩
          apply Array.ext
          · simp at this; simp; omega
          · intro i h1 h2
            simp at this
            have : i = 0 ∨ i = 1 := by omega
            rcases this with rfl | rfl <;> rfl
        have hv : Rep X.W x v := hargs.2 0 x v rfl rfl
        have hu : Rep X.W y u := hargs.2 1 y u rfl rfl
        split at h
        · rename_i ti ti' ht ht'
          obtain ⟨hk', h⟩ := h
          split at h
          · rename_i e hk
            split at h
            · rename_i te hte
              simp only [builtin]
              rw [hta]
              exact fin (good_append hX.hT ht ht' hte hk hk' hd hh hv hu h)
            · exact h.elim
          · exact h.elim
        · exact h.elim
      · rename_i k a1 k' b1
        obtain ⟨v, u, rfl⟩ : ∃ v u, av = #[v, u] := by
          have := hargs.1
          refine ⟨av[0]'(by simp at this; omega), av[1]'(by simp at this; omega), ?_⟩
          apply Array.ext
          · simp at this; simp; omega
          · intro i h1 h2
            simp at this
            have : i = 0 ∨ i = 1 := by omega
            rcases this with rfl | rfl <;> rfl
        have hv := rep_int (hargs.2 0 _ v rfl rfl)
        have hu := rep_int (hargs.2 1 _ u rfl rfl)
        subst hv; subst hu
        simp only [builtin]
        refine fin ?_
        simp only [Builtin.min_, List.foldlM_cons, List.foldlM_nil, Builtin.min2, pure_bind, Sem.run_pure]
        exact GoodV.mk hd hh (.int _ _) h
      · rename_i k a1 k' b1
        obtain ⟨v, u, rfl⟩ : ∃ v u, av = #[v, u] := by
          have := hargs.1
          refine ⟨av[0]'(by simp at this; omega), av[1]'(by simp at this; omega), ?_⟩
          apply Array.ext
          · simp at this; simp; omega
          · intro i h1 h2
            simp at this
            have : i = 0 ∨ i = 1 := by omega
            rcases this with rfl | rfl <;> rfl
        have hv := rep_int (hargs.2 0 _ v rfl rfl)
        have hu := rep_int (hargs.2 1 _ u rfl rfl)
        subst hv; subst hu
        simp only [builtin]
        refine fin ?_
        simp only [Builtin.max_, List.foldlM_cons, List.foldlM_nil, Builtin.max2, pure_bind, Sem.run_pure]
        exact GoodV.mk hd hh (.int _ _) h
      · rename_i t r0 o0 n0 c0 hts
        have hta : c.argTypes = #[t] := by apply Array.toList_inj.1; simpa using hts
        obtain ⟨v, rfl⟩ : ∃ v, av = #[v] := by
          have := hargs.1
          refine ⟨av[0]'(by simp at this; omega), ?_⟩
          apply Array.ext
          · simp at this; simp; omega
          · intro i h1 h2
            simp at this
            have : i = 0 := by omega
            subst this; rfl
        have hv := rep_ref (hargs.2 0 _ v rfl rfl)
        subst hv
        split at h
        · rename_i ti ht
          obtain ⟨f⟩ := tfact hX.hT ht
          simp only [builtin]
          refine fin ?_
          rw [hta]
          split at h
          · rename_i e hk
            simp [Builtin.cap_, f.und, kind_slice f hk, goInt]
            exact GoodV.mk hd hh (.int _ _) h
          · exact h.elim
        · exact h.elim
      · exact h.elim
    · exact h.elim
  · rename_i x hop
    have hsem : o.semAt ρ a.eval = execOp a.eval o := Oper.semAt_eq ρ a.eval o (by rw [hop]; intro c h; cases h)
    show o.uponIn (fen ρ) 0 X.P a next (lift X.W N F Q) ((o.semAt ρ a.eval).run X.P w)
    rw [hsem]
    have hx := ev_rep hX hr x
    split at h
    · rename_i t v hxe
      rw [hxe] at hx
      simp only [execOp, hop]
      generalize a.eval x = xv at hx ⊢
      have hx' := hx
      cases hx with
      | iface _ _ v' hv' =>
        simp only [Instr.panic, Sem.run_bind, run_goPanic, Result.andThen_halt]
        exact ⟨.panic (.iface t v), s, H, ⟨_, rfl, hx'⟩, hr, hd, hh, h⟩
    · exact h.elim
  · rename_i hne1 hne2
    have hnd : ∀ c, o.op ≠ .defer c := by intro c hc; rw [hc] at h; exact h.elim
    have hsem : o.semAt ρ a.eval = execOp a.eval o := Oper.semAt_eq ρ a.eval o hnd
    show o.uponIn (fen ρ) 0 X.P a next (lift X.W N F Q) ((o.semAt ρ a.eval).run X.P w)
    rw [hsem]
    obtain ⟨nx, w', c, H', hrun, hnx, h2, h3, h4⟩ := op_sound hX.hT hd hh (fun x => ev_rep hX hr x) o h
    rw [hrun]
    rcases hnx with ⟨v, rfl, hv⟩ | ⟨rfl, rfl⟩
    · exact hn c v H' w' hv h2 h3 h4
    · exact hn .any undef H' w' (.any _) h2 h3 h4
end
end Go.Cl
