/- DERIVED HERE. code.find: the first error, caught. -/
import Derived.Test.YtoophlkbngagcaaGreatDoorCCq
import Derived.Test.YtoophlkbngagcaaGreatDoorRec
set_option linter.unusedSimpArgs false
set_option linter.unusedVariables false
namespace Go.Cl
open Go.Proofs Go.RowKit
variable {W : World} {G : Nat → CV} {s : CA} {H : Hp}
set_option maxRecDepth 8000
theorem ifc_und (W : World) (G : Nat → CV) (hX : CxOk (cx W G)) (w : World) : ∃ ms, (underlying 20).run Tryz.prog w = .ok (.interface ms) w := by
  obtain ⟨f⟩ := tfact hX.hT (t := 20) tab_20
  have hk := f.hk
  cases hd : f.d <;> rw [hd] at hk <;> first
    | (rename_i ms; exact ⟨ms, by rw [f.und, hd]⟩)
    | (simp [kindB] at hk)
theorem struct_und (W : World) (G : Nat → CV) (hX : CxOk (cx W G)) (w : World) : ∃ gs, (underlying 110).run Tryz.prog w = .ok (.struct gs) w := by
  obtain ⟨f⟩ := tfact hX.hT (t := 110) tab_110
  obtain ⟨gs, h, _⟩ := kind_struct f rfl
  exact ⟨gs, by rw [f.und, h]⟩
noncomputable def f70rest : Code := match Tryz.f98.body with | some (.seq _ c) => c | _ => .skip
noncomputable def f70r0 : Code := match Tryz.f98.body with | some (.seq c _) => c | _ => .skip
theorem f70_body : Tryz.f98.body = some (.seq f70r0 f70rest) := rfl
def Qd (R : Hp → Prop) : CP := fun x s' H' => (x = .normal ∨ x = .ret) ∧ s'.ds = [] ∧ R H'
theorem rep_nilif {v : Value} (h : Rep W .nilif v) : v = .nilIface := by cases h; rfl
theorem eqIn_nil (hX : CxOk (cx W G)) (d : Nat) (w : World) : (Op.equalIn (d + 1) 20 .nilIface .nilIface).run Tryz.prog w = .ok true w := by
  obtain ⟨ms, hm⟩ := ifc_und W G hX w
  simp only [Op.equalIn, Sem.run_bind, hm, Result.andThen_ok, Sem.run_pure]
theorem eqIn_some (hX : CxOk (cx W G)) (d : Nat) (t : TypeId) (pv : Value) (w : World) : (Op.equalIn (d + 1) 20 (.iface t pv) .nilIface).run Tryz.prog w = .ok false w := by
  obtain ⟨ms, hm⟩ := ifc_und W G hX w
  simp only [Op.equalIn, Sem.run_bind, hm, Result.andThen_ok, Sem.run_pure]
theorem run_neq_nil (hX : CxOk (cx W G)) (x y : Operand) (hy : ∃ v, y = .const v) (w : World) : ((do eqGuard .neq 20 x y .nilIface .nilIface; binOp .neq 20 .nilIface .nilIface : Sem Value)).run Tryz.prog w = .ok (.bool false) w := by
  obtain ⟨v, rfl⟩ := hy
  obtain ⟨ms, hm⟩ := ifc_und W G hX w
  have h1 : (eqGuard .neq 20 x (.const v) .nilIface .nilIface).run Tryz.prog w = .ok () w := by
    simp [eqGuard]
  have h2 : (Op.equal 20 .nilIface .nilIface).run Tryz.prog w = .ok true w := by
    unfold Op.equal
    rw [max_depth]
    exact eqIn_nil hX 9999 w
  rw [Sem.run_bind, h1]
  simp only [Result.andThen_ok, binOp, Sem.run_bind, h2, Sem.run_pure]
  rfl
theorem run_neq_some (hX : CxOk (cx W G)) (x y : Operand) (t : TypeId) (pv : Value) (w : World) : ((do eqGuard .neq 20 x y (.iface t pv) .nilIface; binOp .neq 20 (.iface t pv) .nilIface : Sem Value)).run Tryz.prog w = .ok (.bool true) w := by
  obtain ⟨ms, hm⟩ := ifc_und W G hX w
  have h2 : (Op.equal 20 (.iface t pv) .nilIface).run Tryz.prog w = .ok false w := by
    unfold Op.equal
    rw [max_depth]
    exact eqIn_some hX 9999 t pv w
  rw [Sem.run_bind, run_eqGuard (.inl (by simp)) (.inl (by simp))]
  simp only [Result.andThen_ok, binOp, Sem.run_bind, h2, Sem.run_pure]
  rfl
theorem run_assert (hX : CxOk (cx W G)) (pv : Value) (w : World) : (Instr.typeAssert (.iface 110 pv) 20 110 true).run Tryz.prog w = .ok (.tuple #[pv, .bool true]) w := by
  obtain ⟨gs, hs⟩ := struct_und W G hX w
  simp only [Instr.typeAssert, Sem.run_bind, hs, Result.andThen_ok, if_true, Sem.run_pure]
/-- Behind the recovery: nothing was there. -/
theorem find1_nil (hX : CxOk (cx W G)) (e : Env) (q2 : Nat) (H : Hp) (he : e 1 = .nilif) : CW Tryz.prog W 16 none f70rest (Qd fun H' => H' = H) ⟨e, []⟩ H := by
  unfold f70rest
  simp only [Tryz.f98]
  refine CW.cut (fun s' H' => s'.env 6 = .bool false ∧ s'.ds = [] ∧ H' = H) ?_ ?_
  · refine CW.region ?_
    show CO _ _ _ _ _ [0, 1] _ _ _
    refine CO.step hX (X := cx W G) rfl ?_
    simp [he]
    refine CO.bin (X := cx W G) rfl rfl rfl (by simp) (c := .bool false) ?_ ?_
    · intro a w hr
      have h5 := ev_rep hX hr (.tmp 5)
      rw [show evC (cx W G) 16 (Env.set e 5 .nilif) (.tmp 5) = .nilif by simp] at h5
      refine ⟨.bool false, ?_, .bool false⟩
      rw [rep_nilif h5]
      exact run_neq_nil hX _ _ ⟨_, rfl⟩ w
    · refine CO.nil ?_
      simp
  rintro ⟨e, ds⟩ H' ⟨e6, rfl, rfl⟩
  refine CW.walk1 hX mixed [] rfl ?_
  dsimp only at e6
  simp [e6, Qd]
theorem rep_fault {b a er : Int} {v : Value} (h : Rep W (faultV b a er) v) : ∃ pv, v = .iface 110 pv ∧ Rep W (.agg [ci b, ci a, ci er]) pv := by
  cases h with
  | iface t c v h => exact ⟨v, rfl, h⟩
/-- Behind the recovery: a fault. -/
theorem find1_some (hX : CxOk (cx W G)) (e : Env) (q2 : Nat) (b a er : Int) (f0 : List CV) (H : Hp) (he : e 1 = faultV b a er) (he0 : e 0 = .ptr q2 0) (hq : H q2 = some (.cells f0)) (hf0 : f0.length = 3) : CW Tryz.prog W 16 none f70rest (Qd fun H' => Le (H.set q2 (.cells [ci b, ci a, ci er])) H') ⟨e, []⟩ H := by
  unfold f70rest
  simp only [Tryz.f98]
  refine CW.cut (fun s' H' => s'.env 0 = .ptr q2 0 ∧ s'.env 1 = faultV b a er ∧ s'.env 6 = .bool true ∧ s'.ds = [] ∧ H' = H) ?_ ?_
  · refine CW.region ?_
    show CO _ _ _ _ _ [0, 1] _ _ _
    refine CO.step hX (X := cx W G) rfl ?_
    simp [he]
    refine CO.bin (X := cx W G) rfl rfl rfl (by simp) (c := .bool true) ?_ ?_
    · intro a' w hr
      have h5 := ev_rep hX hr (.tmp 5)
      rw [show evC (cx W G) 16 (Env.set e 5 (faultV b a er)) (.tmp 5) = faultV b a er by simp] at h5
      obtain ⟨pv, h6, _⟩ := rep_fault h5
      refine ⟨.bool true, ?_, .bool true⟩
      rw [h6]
      exact run_neq_some hX _ _ _ _ w
    · refine CO.nil ?_
      simp [he, he0]
  rintro ⟨e, ds⟩ H' ⟨e0, e1, e6, rfl, rfl⟩
  dsimp only at e0 e1 e6
  refine CW.cond (b := true) (fun a' hr => ?_) (fun _ => ?_) (fun h => by cases h)
  · have h6 := ev_rep hX hr (.tmp 6)
    rw [show evC (cx W G) 16 e (.tmp 6) = .bool true by simp [e6]] at h6
    exact rep_bool h6
  refine CW.cut (fun s' H2 => ∃ q5, H' q5 = none ∧ s'.env 0 = .ptr q2 0 ∧ s'.env 2 = .ptr q5 0 ∧ s'.env 3 = .bool true ∧ s'.ds = [] ∧ H2 = H'.set q5 (.cells [ci b, ci a, ci er])) ?_ ?_
  · refine CW.region ?_
    show CO _ _ _ _ _ [0, 1, 2, 3, 4, 5, 6, 7] _ _ _
    refine CO.step hX (X := cx W G) rfl ?_
    simp [e1]
    refine CO.assert (X := cx W G) rfl rfl rfl (by simp) (c := .tuple [.agg [ci b, ci a, ci er], .bool true]) ?_ ?_
    · intro a' w hr
      have h5 := ev_rep hX hr (.tmp 8)
      rw [show evC (cx W G) 16 (Env.set e 8 (faultV b a er)) (.tmp 8) = faultV b a er by simp] at h5
      obtain ⟨pv, h6, h7⟩ := rep_fault h5
      refine ⟨_, by rw [h6]; exact run_assert hX pv w, .tuple _ _ rfl fun i x v hx hv => ?_⟩
      rcases i with _|_|i
      · simp at hx hv; subst hx; subst hv; exact h7
      · simp at hx hv; subst hx; subst hv; exact .bool true
      · simp at hx
    · simp
      refine CO.step hX (X := cx W G) rfl ?_
      simp
      refine CO.step hX (X := cx W G) rfl ?_
      simp
      refine CO.step hX (X := cx W G) rfl ?_
      simp
      refine CO.step hX (X := cx W G) rfl ?_
      simp
      intro q5 hq5
      refine CO.step hX (X := cx W G) rfl ?_
      simp
      refine CO.step hX (X := cx W G) rfl ?_
      simp
      refine CO.nil ?_
      simp
      exact ⟨q5, hq5, e0, rfl, rfl⟩
  rintro ⟨e, ds⟩ H2 ⟨q5, hq5, e0, e2, e3, rfl, rfl⟩
  dsimp only at e0 e2 e3
  have hne : q2 ≠ q5 := fun h => by rw [← h, hq] at hq5; cases hq5
  refine CW.walk1 hX mixed [] rfl ?_
  simp [e0, e2, e3, Qd, hne, hq, hf0]
  rw [List.drop_eq_nil_of_le (by omega)]
  exact Le.set (Le.set_new hq5)
theorem f70_args (q2 : Nat) (av : Array Value) (hl : RepL W [.ptr q2 0] av.toList) : RepE W 16 (env0 [.ptr q2 0]) (av ++ Array.replicate (16 - av.size) undef) := by
  have hal : av.size = 1 := by simpa using hl.1.symm
  refine ⟨by simp [hal], fun t ht => ?_⟩
  simp only [env0]
  rw [Array.getD_eq_getD_getElem?, List.getD_eq_getElem?_getD]
  rcases Nat.lt_or_ge t av.size with h | h
  · rw [Array.getElem?_append_left h, Array.getElem?_eq_getElem h, List.getElem?_eq_getElem (by simp; omega)]
    exact hl.2 t _ _ (List.getElem?_eq_getElem _) (by simp [h])
  · rw [Array.getElem?_append_right h, List.getElem?_eq_none (by simp; omega)]
    simp [show t - av.size < 16 - av.size by omega]
    exact rep_undef _
theorem f70_wpS {R : Hp → Prop} {F : Hp} {a : Act} {w : World} {c₀ : Frame} {cs : List Frame} {um : FrameMode} (h : CW Tryz.prog W 16 none f70rest (Qd R) s H) (hr : RepA W 16 s a) (hd : Disj H F) (hh : Held W (hun H F) w) :
    f70rest.wpSIn (fen none) 0 Tryz.prog (bodyPostS Tryz.prog Tryz.f98 c₀ cs fun e u' w' => ∃ v, e = .returned v ∧ u' = um ∧ ∃ H', Disj H' F ∧ Held W (hun H' F) w' ∧ R H') a ({ c₀ with mode := um } :: cs) w := by
  refine wpSIn_of_wpIn rfl (wpIn_mono (h.out F a w hd hr hh) ?_)
  rintro e a' w' ⟨x, s', H', hx, hr', hd', hh', hq, hds, hR⟩
  have hdef : a'.defers = [] := by
    have := hr'.2
    rw [hds] at this
    cases hdd : a'.defers with
    | nil => rfl
    | cons d ds => rw [hdd] at this; exact this.elim
  have hres : (results Tryz.f98 a'.tmps).run Tryz.prog w' = .ok (.tuple #[]) w' := by
    rw [results_eq]
    simp [Tryz.f98]
  rcases hq with rfl | rfl <;> cases e <;> simp only [RepX] at hx
  · exact ⟨hdef, um, rfl, _, hres, _, rfl, rfl, H', hd', hh', hR⟩
  · exact ⟨hdef, um, rfl, _, hres, _, rfl, rfl, H', hd', hh', hR⟩
theorem r0_ret {Q : Exit → Act → List Frame → World → Prop} {a : Act} {c₀ : Frame} {cs : List Frame} {w : World} (hu : c₀.mode = .returning) (h : Q .normal ((a.put (some 4) .nilIface).put (some 1) ((a.put (some 4) .nilIface).eval (.tmp 4))) (c₀ :: cs) w) : f70r0.wpSIn (fen none) 0 Tryz.prog Q a (c₀ :: cs) w := by
  unfold f70r0
  simp only [Tryz.f98]
  refine wpSIn_region ?_
  show wpOpsSIn _ _ _ _ _ [0, 1] _ _ _
  simp [wpOpsSIn, Region.wanted, execOp, recoverD, hu, Oper.about, Sem.run_bind, resolve, invoke, builtin]
  exact ⟨fun _ _ => trivial, h⟩
theorem r0_pan {Q : Exit → Act → List Frame → World → Prop} {a : Act} {c₀ : Frame} {cs : List Frame} {w : World} {pv : Value} (hu : c₀.mode = .panicking [{ v := pv, recovered := false }]) (h : Q .normal ((a.put (some 4) pv).put (some 1) ((a.put (some 4) pv).eval (.tmp 4))) ({ c₀ with mode := .panicking [{ v := pv, recovered := true }] } :: cs) w) : f70r0.wpSIn (fen none) 0 Tryz.prog Q a (c₀ :: cs) w := by
  unfold f70r0
  simp only [Tryz.f98]
  refine wpSIn_region ?_
  show wpOpsSIn _ _ _ _ _ [0, 1] _ _ _
  simp [wpOpsSIn, Region.wanted, execOp, recoverD, hu, Oper.about, Sem.run_bind, resolve, invoke, builtin]
  exact ⟨fun _ _ => trivial, h⟩
theorem find1_ret (hX : CxOk (cx W G)) (q2 : Nat) (H : Hp) : DR Tryz.prog W 98 [.ptr q2 0] H fun H' => H' = H := by
  intro F av w hd hl hh
  refine callsDIn_of_wpSIn (fn := Tryz.f98) (c := .seq f70r0 f70rest) Tryz.func98 f70_body trivial fun c₀ cs hu => ?_
  refine wpSIn_seq (r0_ret hu ?_)
  have he := f70_args q2 av hl
  have hr0 : RepA W 16 ⟨env0 [.ptr q2 0], []⟩ ({ tmps := av ++ Array.replicate (16 - av.size) undef, defers := [] } : Act) := ⟨he, trivial⟩
  have hr1 : RepA W 16 ⟨(env0 [.ptr q2 0]).set 4 .nilif, []⟩ (({ tmps := av ++ Array.replicate (16 - av.size) undef, defers := [] } : Act).put (some 4) .nilIface) := RepA.put (d := some 4) (c := .nilif) hr0 (by simp) .nilif
  have hr2 := RepA.put (d := some 1) (c := .nilif) hr1 (by simp) (by
    have := ev_rep hX hr1 (.tmp 4)
    rwa [show evC (cx W G) 16 (Env.set (env0 [.ptr q2 0]) 4 .nilif) (.tmp 4) = .nilif by simp] at this)
  have hc := find1_nil hX (((env0 [.ptr q2 0]).set 4 .nilif).set 1 .nilif) q2 H (by simp)
  have := f70_wpS (c₀ := c₀) (cs := cs) (um := .returning) hc hr2 hd hh
  have hcm : ({ c₀ with mode := .returning } : Frame) = c₀ := by rw [← hu]
  rw [hcm] at this
  exact this
theorem find1_pan (hX : CxOk (cx W G)) (q2 : Nat) (b a er : Int) (f0 : List CV) (H : Hp) (hq : H q2 = some (.cells f0)) (hf0 : f0.length = 3) : DP Tryz.prog W 98 [.ptr q2 0] H (faultV b a er) fun H' => Le (H.set q2 (.cells [ci b, ci a, ci er])) H' := by
  intro F av w pv hd hl hh hpv
  refine callsDIn_of_wpSIn (fn := Tryz.f98) (c := .seq f70r0 f70rest) Tryz.func98 f70_body trivial fun c₀ cs hu => ?_
  refine wpSIn_seq (r0_pan hu ?_)
  have he := f70_args q2 av hl
  have hr0 : RepA W 16 ⟨env0 [.ptr q2 0], []⟩ ({ tmps := av ++ Array.replicate (16 - av.size) undef, defers := [] } : Act) := ⟨he, trivial⟩
  have hr1 : RepA W 16 ⟨(env0 [.ptr q2 0]).set 4 (faultV b a er), []⟩ (({ tmps := av ++ Array.replicate (16 - av.size) undef, defers := [] } : Act).put (some 4) pv) := RepA.put (d := some 4) (c := faultV b a er) hr0 (by simp) hpv
  have hr2 := RepA.put (d := some 1) (c := faultV b a er) hr1 (by simp) (by
    have := ev_rep hX hr1 (.tmp 4)
    rwa [show evC (cx W G) 16 (Env.set (env0 [.ptr q2 0]) 4 (faultV b a er)) (.tmp 4) = faultV b a er by simp] at this)
  have hc := find1_some hX (((env0 [.ptr q2 0]).set 4 (faultV b a er)).set 1 (faultV b a er)) q2 b a er f0 H (by simp) (by simp [env0]) hq hf0
  exact f70_wpS (c₀ := c₀) (cs := cs) (um := .panicking [{ v := pv, recovered := true }]) hc hr2 hd hh
theorem dmono {F : Fence} {n : Nat} {P : Program} {f : FuncId} {args : Array Value} {u : FrameMode} {w : World} {R R' : Ending → FrameMode → World → Prop} (h : CallsDIn F n P f args u w R) (hk : ∀ e u w, R e u w → R' e u w) : CallsDIn F n P f args u w R' :=
  ⟨h.1, fun c cs hc hr => by
    obtain ⟨e, u', w', fr, h1, h2⟩ := h.2 c cs hc hr
    exact ⟨e, u', w', fr, hk _ _ _ h1, h2⟩⟩
def findQ (u : UUnit) (H : Hp) : CP := fun x s' H' => ∃ q2, s'.env 2 = .ptr q2 0 ∧ s'.ds = [.call (.func 98) [.ptr q2 0] []] ∧ H q2 = none ∧ Le H H' ∧ H' q2 = some (.cells [ci 0, ci 0, ci 0]) ∧ ((x = .ret ∧ wfU u = true) ∨ ∃ b a er, x = .panic (faultV b a er) ∧ er = errU u)
def findM (u : UUnit) (q1 q2 : Nat) (H1 : Hp) : CA → Hp → Prop := fun s' H' => s'.env 1 = .ptr q1 0 ∧ s'.env 2 = .ptr q2 0 ∧ s'.ds = [.call (.func 98) [.ptr q2 0] []] ∧ H' = H1
theorem find_c (hX : CxOk (cx W G)) (hG : G 0 = .iptr formsC) (u : UUnit) (hu : UOk u) (H : Hp) : CC Tryz.prog W 77 [.agg (unitC u)] H fun x H' => ∃ b a er, x = .ret (.agg [ci b, ci a, ci er]) ∧ Le H H' ∧ er = errU u := by
  refine CC.of_leave hX (Qb := hold (findQ u H)) Tryz.func77 rfl rfl (Nat.le_of_ble_eq_true rfl) ?_ ?_
  · refine CW.walk hX mixed d77 rfl ?_
    simp
    intro q1 hq1 q2 h21 h12 hq2
    have hle : Le H ((H.set q1 (.cells (unitC u))).set q2 (.cells [ci 0, ci 0, ci 0])) := (Le.set_new hq1).trans (Le.set_new (by simp [h21, hq2]))
    refine CW.cut (findM u q1 q2 ((H.set q1 (.cells (unitC u))).set q2 (.cells [ci 0, ci 0, ci 0]))) ?_ ?_
    · refine CW.region ?_
      show CO _ _ _ _ _ [0, 1] _ _ _
      refine CO.step hX (X := cx W G) rfl ?_
      simp
      refine CO.defer hX (X := cx W G) rfl rfl rfl rfl (g := 98) (first := []) (cap := [.ptr q2 0]) (by simp) ?_
      refine CO.nil ?_
      simp [findM]
    generalize hH1 : (H.set q1 (.cells (unitC u))).set q2 (.cells [ci 0, ci 0, ci 0]) = H1 at hle
    have m1 : H1 q1 = some (.cells (unitC u)) := by rw [← hH1]; simp [h12]
    have m2 : H1 q2 = some (.cells [ci 0, ci 0, ci 0]) := by rw [← hH1]; simp
    clear hH1
    rintro ⟨e, ds⟩ H' ⟨e1, e2, rfl, rfl⟩
    dsimp only at e1 e2
    refine CW.walk hX mixed d77 rfl ?_
    simp only [unitC] at m1
    simp [e1, e2, m1, cfill]
    intro q6 hq6
    refine (unit_c hX hG u hu q6 _ (by simp [chkC, unitC])).k ?_
    have n2 : q2 ≠ q6 := fun e => by rw [← e, m2] at hq6; cases hq6
    rintro x H2 ⟨⟨hw, rfl⟩ | ⟨hw, b, a, hne, rfl⟩, hle2⟩
    all_goals
      have hl2 : Le H' H2 := fun i o hi => hle2 i o (by
        have : i ≠ q6 := fun e => by rw [e, hq6] at hi; cases hi
        simp [cut0, this, hi])
      have m2' := hl2 _ _ m2
      simp
    · refine CW.walk1 hX mixed d77 rfl ?_
      simp [e2, m2', cfill]
      refine ⟨q2, by simp [e2], rfl, hq2, ?_, by simp, .inl ⟨rfl, hw⟩⟩
      rw [hset_self m2']
      exact hle.trans hl2
    · exact ⟨q2, by simp [e2], rfl, hq2, hle.trans hl2, m2', .inr ⟨b, a, errU u, rfl, rfl⟩⟩
  · rintro F e a w ⟨x, s', H', hx, hr, hd, hh, q2, e2, hds, hq2, hle, m2, hcase⟩
    have hdf := hr.2
    rw [hds] at hdf
    obtain ⟨d, hdd, cv, av, hde, hcv, hav⟩ : ∃ d, a.defers = [d] ∧ ∃ cv av, d = { target := .fn (.func 98) cv, args := av } ∧ RepL W [.ptr q2 0] cv.toList ∧ RepL W [] av.toList := by
      cases hx2 : a.defers with
      | nil => rw [hx2] at hdf; exact hdf.elim
      | cons d ds =>
        rw [hx2] at hdf
        obtain ⟨⟨cv, av, h1, h2, h3⟩, h4⟩ := hdf
        cases ds with
        | nil => exact ⟨d, rfl, cv, av, h1, h2, h3⟩
        | cons _ _ => exact h4.elim
    subst hde
    have hargs : RepL W [.ptr q2 0] (av ++ cv).toList := by
      rw [Array.toList_append]
      exact RepL.append hav hcv
    have hinv : (invoke (.fn (.func 98) cv) av).run Tryz.prog w = .ok (.enter 98 (av ++ cv)) w := invoke_func (W := W) ⟨Tryz.f98, Tryz.func98, rfl, rfl⟩
    have hres : ∀ (H2 : Hp) (w2 : World) (b a2 er : Int), Held W (hun H2 F) w2 → H2 q2 = some (.cells [ci b, ci a2, ci er]) → ∃ v, (results Tryz.f77 a.tmps).run Tryz.prog w2 = .ok v w2 ∧ Rep W (.agg [ci b, ci a2, ci er]) v := by
      intro H2 w2 b a2 er hh2 hq
      obtain ⟨v, c, h1, h2, h3⟩ := results_sound (X := cx W G) (N := 9) (e := s'.env) (F := F) (H := H2) (fn := Tryz.f77) (K := fun c => c = .agg [ci b, ci a2, ci er]) hX hr.1 hh2 (by
        simp [Tryz.f77, e2, hq])
      exact ⟨v, h1, h3 ▸ h2⟩
    rcases hcase with ⟨rfl, hw⟩ | ⟨b, a2, er, rfl, hne⟩ <;> cases e <;> simp only [RepX] at hx
    · show LeavesInM _ _ _ _ _ _ a.defers .returning w
      rw [hdd]
      refine ⟨by simp, .inr ⟨by simp [fen], _, _, _, _, rfl, hinv, fun _ _ => trivial, ?_⟩⟩
      refine dmono (find1_ret hX q2 H' F _ w hd hargs hh) ?_
      rintro e u' w2 ⟨v, rfl, rfl, H2, hd2, hh2, rfl⟩
      obtain ⟨v, h1, h2⟩ := hres H2 w2 0 0 0 hh2 m2
      exact ⟨v, h1, .ret _, H2, h2, hd2, hh2, 0, 0, 0, rfl, hle, (errU_wf.2 hw).symm⟩
    · show LeavesInM _ _ _ _ _ _ a.defers (.panicking _) w
      obtain ⟨pv, rfl, hpv⟩ := hx
      rw [hdd]
      refine ⟨by simp, .inr ⟨by simp [fen], _, _, _, _, rfl, hinv, fun _ _ => trivial, ?_⟩⟩
      refine dmono (find1_pan hX q2 b a2 er _ H' m2 rfl F _ w pv hd hargs hh hpv) ?_
      rintro e u' w2 ⟨v, rfl, rfl, H2, hd2, hh2, hle2⟩
      have hq3 : H2 q2 = some (.cells [ci b, ci a2, ci er]) := hle2 q2 _ (by simp)
      obtain ⟨v, h1, h2⟩ := hres H2 w2 b a2 er hh2 hq3
      refine ⟨v, h1, .ret _, H2, h2, hd2, hh2, b, a2, er, rfl, (hle.put hq2).trans hle2, hne⟩
end Go.Cl
