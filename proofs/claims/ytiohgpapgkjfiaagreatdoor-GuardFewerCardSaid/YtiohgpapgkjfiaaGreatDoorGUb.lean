/- DERIVED HERE. The guard's shape and size. DERIVED HERE. The guard's look, Shapes, Size. DERIVED HERE. The reference of the guard: where blocks go, who is alone. DERIVED HERE. The reference of the guard: who is alone. DERIVED HERE. The reference of the guard: shapes. DERIVED HERE. The reference of the guard: all shapes, their sizes. DERIVED HERE. The reference's Same. DERIVED HERE. The small functions of the guard's laws. -/
import Derived.Test.YtiohgpapgkjfiaaGreatDoorGUa
set_option linter.unusedSimpArgs false
set_option linter.unusedVariables false
namespace Go.Cl.Gu
open Go.Proofs Go.Cl.Gd
variable {W : World} {G : Nat → CV}
set_option maxRecDepth 8000
set_option maxHeartbeats 1000000
/-- A shape, as it is told. -/
def shpV (s : Shp) : CV := .tuple [ci s.kind, ci s.to, ci s.or_, ci s.meet]
structure shS (H : Hp) (xc : CV) (x q8 q9 q10 : Nat) (e a b : UEnd) (s' : CA) (H' : Hp) : Prop where
  e0 : s'.env 0 = xc
  e1 : s'.env 1 = .int .i64 x
  e8 : s'.env 8 = .ptr q8 0
  e9 : s'.env 9 = .ptr q9 0
  e10 : s'.env 10 = .ptr q10 0
  ds : s'.ds = []
  le : Le H H'
  m8 : H' q8 = some (.cells [ci e.kind, ci e.a, ci e.to, ci e.els])
  m9 : H' q9 = some (.cells [ci a.kind, ci a.a, ci a.to, ci a.els])
  m10 : H' q10 = some (.cells [ci b.kind, ci b.a, ci b.to, ci b.els])
structure shT (H : Hp) (q8 q9 q10 : Nat) (e a b : UEnd) (f s : Bool) (s' : CA) (H' : Hp) : Prop where
  e8 : s'.env 8 = .ptr q8 0
  e9 : s'.env 9 = .ptr q9 0
  e10 : s'.env 10 = .ptr q10 0
  e11 : s'.env 11 = .bool f
  e12 : s'.env 12 = .bool s
  ds : s'.ds = []
  le : Le H H'
  m8 : H' q8 = some (.cells [ci e.kind, ci e.a, ci e.to, ci e.els])
  m9 : H' q9 = some (.cells [ci a.kind, ci a.a, ci a.to, ci a.els])
  m10 : H' q10 = some (.cells [ci b.kind, ci b.a, ci b.to, ci b.els])
theorem shape_c (hX : CxOk (cx W G)) (u : UUnit) (hu : wfU u = true) (ord : List Nat) (x : Nat) (hx : x < u.blocks.length) (H : Hp) :
    CC Tryz.prog W 37 [.iptr (openC u ord), .int .i64 x] H fun r H' => r = .ret (shpV (shapeP u ord x)) ∧ H' = H := by
  have hkx : u.blocks[x]? = some (blkAt u x) := by rw [blkAt, List.getD_eq_getElem?_getD, List.getElem?_eq_getElem hx]; rfl
  have e4 : ∀ h, u.blocks[x]'h = blkAt u x := fun h => by
    rw [List.getElem?_eq_getElem h] at hkx; injection hkx
  obtain ⟨g1, g2, g3, g4⟩ := wfB_facts hu hkx
  obtain ⟨w1, w2, w3, w4, w5⟩ := wfE_facts g4
  have hal := fun t x ht hx H => alone_c hX u ord t x ht hx H
  simp only [openC, unitC, List.cons_append, List.nil_append] at hal
  refine CC.shrink ?_
  refine CC.of_cw hX Tryz.func37 rfl rfl (Nat.le_of_ble_eq_true rfl) ?_
  refine CW.walk hX mixed d37 rfl ?_
  simp [openC, unitC]
  refine CW.walk hX mixed d37 rfl ?_
  simp [hx, e4, blkC]
  intro q8 hq8
  generalize hk : (blkAt u x).en = en at *
  have m8 : (H.set q8 (.cells [ci en.kind, ci en.a, ci en.to, ci en.els])) q8 = some (.cells [ci en.kind, ci en.a, ci en.to, ci en.els]) := set_at
  have hle8 : Le H (H.set q8 (.cells [ci en.kind, ci en.a, ci en.to, ci en.els])) := Le.set_new hq8
  generalize H.set q8 _ = H1 at m8 hle8 ⊢
  by_cases hk2 : en.kind = 2
  rotate_left
  · refine CW.walk hX mixed d37 rfl ?_
    simp [m8, hk2]
    exact ⟨hle8, by simp [shapeP, hk, hk2, shpV, noShp]⟩
  by_cases hte : en.to = en.els
  · refine CW.walk hX mixed d37 rfl ?_
    simp [m8, hk2, hte]
    exact ⟨hle8, by simp [shapeP, hk, hk2, hte, shpV, noShp]⟩
  refine CW.walk hX mixed d37 rfl ?_
  simp [m8, hk2, hte]
  obtain ⟨ht0, htl⟩ := w4 (.inr hk2)
  obtain ⟨he0, hel⟩ := w5 hk2
  obtain ⟨tn, htn⟩ := Int.eq_ofNat_of_zero_le ht0
  obtain ⟨sn, hsn⟩ := Int.eq_ofNat_of_zero_le he0
  have htl' : tn < u.blocks.length := by omega
  have hsl' : sn < u.blocks.length := by omega
  have hge : ∀ (j : Nat) (hj : j < u.blocks.length) h, u.blocks[j]'h = blkAt u j := fun j hj h => by
    have : u.blocks[j]? = some (blkAt u j) := by rw [blkAt, List.getD_eq_getElem?_getD, List.getElem?_eq_getElem hj]; rfl
    rw [List.getElem?_eq_getElem h] at this
    injection this
  have e5 := hge tn htl'
  have e6 := hge sn hsl'
  obtain ⟨A, hA⟩ : ∃ A, (blkAt u tn).en = A := ⟨_, rfl⟩
  obtain ⟨Bn, hBn⟩ : ∃ A, (blkAt u sn).en = A := ⟨_, rfl⟩
  obtain ⟨xc, hxc⟩ : ∃ xc, (CV.iptr [CV.sl 1 (u.sizes.map fun n => [ci n]), ci u.params, ci u.regs, ci u.code, ci u.spill, CV.sl 6 (u.blocks.map blkC), CV.sl 1 (ints (waysL u ord)), CV.sl 1 (boolS u.blocks.length fun t => decide (t ∈ ord))]) = xc := ⟨_, rfl⟩
  refine CW.cut (fun s' H' => ∃ q9 q10, shS H xc x q8 q9 q10 en A Bn s' H') ?_ ?_
  · have m8' := m8
    rw [htn, hsn] at m8
    refine CW.walk1 hX mixed d37 rfl ?_
    simp [d37, m8, htl', hsl', e5, e6, blkC]
    intro q9 hq9 q10 n1 n2 hq10
    simp [n1, n2]
    have n89 : ¬ q8 = q9 := fun e => by rw [← e, m8] at hq9; cases hq9
    have n810 : ¬ q8 = q10 := fun e => by rw [← e, m8] at hq10; cases hq10
    refine ⟨⟨?_, ?_, ?_⟩, ?_⟩
    · simp [stabI, Stab, IsV]
    · simp [stabI, Stab, IsV, n89, n810, m8]
    · simp [stabI, Stab, IsV]
    rw [hA, hBn]
    refine ⟨q9, q10, by simp [hxc], by simp, by simp, by simp, by simp, rfl, ?_, ?_, ?_, ?_⟩
    · exact fun r o hr => by
        have hr1 := hle8 _ _ hr
        have a1 : r ≠ q9 := fun e => by rw [e, hq9] at hr1; cases hr1
        have a2 : r ≠ q10 := fun e => by rw [e, hq10] at hr1; cases hr1
        rw [hset_ne a2, hset_ne a1, hset_ne a2, hset_ne a1]
        exact hr1
    · rw [hset_ne n810, hset_ne n89, hset_ne n810, hset_ne n89]; exact m8'
    · rw [hset_ne n2]; exact set_at
    · exact set_at
  clear m8 hle8
  rintro ⟨e, ds⟩ H2 ⟨q9, q10, e0, e1, e8, e9, e10, hds, hle, m8, m9, m10⟩
  dsimp only at e0 e1 e8 e9 e10 hds
  subst hds
  obtain ⟨f, hf⟩ : ∃ f, (aloneB u ord tn x && decide (A.kind = 1)) = f := ⟨_, rfl⟩
  obtain ⟨s, hs⟩ : ∃ s, (aloneB u ord sn x && decide (Bn.kind = 1)) = s := ⟨_, rfl⟩
  refine CW.cut (shT H q8 q9 q10 en A Bn f s) ?_ ?_
  · have h1 := hal tn x htl' hx
    have h2 := hal sn x hsl' hx
    rw [hxc] at h1 h2
    rw [htn, hsn] at m8
    refine CW.walk1 hX mixed d37 rfl ?_
    simp [d37, e0, e1, e8, m8]
    refine (h1 H2).k ?_
    rintro r H3 ⟨rfl, rfl⟩
    cases b1 : aloneB u ord tn x with
    | false =>
      simp [d37, e0, e1, e8, e9, m8, m9, b1]
      refine ⟨stabI_le rfl (Le.refl _), ?_⟩
      refine (h2 H3).k ?_
      rintro r H4 ⟨rfl, rfl⟩
      cases b2 : aloneB u ord sn x with
      | false =>
        simp [d37, e10, m10, b2]
        refine ⟨stabI_le rfl (Le.refl _), by simp [e8], by simp [e9], by simp [e10], ?_, ?_, rfl, hle, by rw [htn, hsn]; exact m8, m9, m10⟩
        · rw [← hf, b1]; simp <;> rfl
        · rw [← hs, b2]; simp <;> rfl
      | true =>
        simp [d37, e10, m10, b2]
        refine ⟨stabI_le rfl (Le.refl _), by simp [e8], by simp [e9], by simp [e10], ?_, ?_, rfl, hle, by rw [htn, hsn]; exact m8, m9, m10⟩
        · rw [← hf, b1]; simp <;> rfl
        · rw [← hs, b2]; simp <;> rfl
    | true =>
      simp [d37, e0, e1, e8, e9, m8, m9, b1]
      refine ⟨stabI_le rfl (Le.refl _), ?_⟩
      refine (h2 H3).k ?_
      rintro r H4 ⟨rfl, rfl⟩
      cases b2 : aloneB u ord sn x with
      | false =>
        simp [d37, e10, m10, b2]
        refine ⟨stabI_le rfl (Le.refl _), by simp [e8], by simp [e9], by simp [e10], ?_, ?_, rfl, hle, by rw [htn, hsn]; exact m8, m9, m10⟩
        · rw [← hf, b1]; simp <;> rfl
        · rw [← hs, b2]; simp <;> rfl
      | true =>
        simp [d37, e10, m10, b2]
        refine ⟨stabI_le rfl (Le.refl _), by simp [e8], by simp [e9], by simp [e10], ?_, ?_, rfl, hle, by rw [htn, hsn]; exact m8, m9, m10⟩
        · rw [← hf, b1]; simp <;> rfl
        · rw [← hs, b2]; simp <;> rfl
  clear e0 e1 e8 e9 e10 m8 m9 m10 hle
  clear e H2
  rintro ⟨e, ds⟩ H2 ⟨e8, e9, e10, e11, e12, hds, hle, m8, m9, m10⟩
  dsimp only at e8 e9 e10 e11 e12 hds
  subst hds
  have hsh : shapeP u ord x = (if f = true ∧ s = true ∧ A.to = Bn.to then (⟨1, en.to, en.els, A.to⟩ : Shp) else if f = true ∧ A.to = en.els then ⟨2, en.to, -1, en.els⟩ else if s = true ∧ Bn.to = en.to then ⟨3, -1, en.els, en.to⟩ else noShp) := by
    simp only [shapeP, hk, htn, hsn, Int.toNat_natCast, hA, hBn]
    rw [if_neg (by rintro (h | h); exact h hk2; rw [htn, hsn] at hte; exact hte h), hf, hs]
  rw [hsh]
  clear hsh hf hs
  obtain ⟨sv, hsv⟩ : ∃ sv, (if f = true ∧ s = true ∧ A.to = Bn.to then (⟨1, en.to, en.els, A.to⟩ : Shp) else if f = true ∧ A.to = en.els then ⟨2, en.to, -1, en.els⟩ else if s = true ∧ Bn.to = en.to then ⟨3, -1, en.els, en.to⟩ else noShp) = sv := ⟨_, rfl⟩
  rw [hsv]
  refine CW.cut (fun s' H' => sv = noShp ∧ s'.ds = [] ∧ Le H H') ?_ ?_
  rotate_left
  · rintro ⟨e, ds⟩ H3 ⟨rfl, hds, hle3⟩
    dsimp only at hds
    subst hds
    refine CW.walk1 hX mixed d37 rfl ?_
    simp [shpV, noShp]
    exact hle3
  refine CW.walk1 hX mixed d37 rfl ?_
  by_cases c1 : f = true ∧ s = true ∧ A.to = Bn.to
  · rw [if_pos c1] at hsv
    obtain ⟨rfl, rfl, c1⟩ := c1
    simp [d37, e8, e9, e10, e11, e12, m8, m9, m10, c1, ← hsv, shpV]
    exact hle
  rw [if_neg c1] at hsv
  by_cases c2 : f = true ∧ A.to = en.els
  · rw [if_pos c2] at hsv
    obtain ⟨rfl, c2⟩ := c2
    cases s with
    | false =>
      simp [d37, e8, e9, e10, e11, e12, m8, m9, m10, c2, ← hsv, shpV]
      exact hle
    | true =>
      have c1' : ¬ A.to = Bn.to := fun h => c1 ⟨rfl, rfl, h⟩
      simp [d37, e8, e9, e10, e11, e12, m8, m9, m10, c1', c2, ← hsv, shpV]
      exact ⟨fun h => c1' (by rw [c2]; exact h), fun _ => hle⟩
  rw [if_neg c2] at hsv
  by_cases c3 : s = true ∧ Bn.to = en.to
  · rw [if_pos c3] at hsv
    obtain ⟨rfl, c3⟩ := c3
    cases f with
    | false =>
      simp [d37, e8, e9, e10, e11, e12, m8, m9, m10, c3, ← hsv, shpV]
      exact hle
    | true =>
      have c1' : ¬ A.to = Bn.to := fun h => c1 ⟨rfl, rfl, h⟩
      have c2' : ¬ A.to = en.els := fun h => c2 ⟨rfl, h⟩
      simp [d37, e8, e9, e10, e11, e12, m8, m9, m10, c1', c2', c3, ← hsv, shpV]
      exact ⟨fun h => c1' (by rw [c3]; exact h), fun _ => hle⟩
  rw [if_neg c3] at hsv
  cases f with
  | false =>
    cases s with
    | false =>
      simp [d37, e8, e9, e10, e11, e12, m8, m9, m10, ← hsv]
      exact hle
    | true =>
      have c3' : ¬ Bn.to = en.to := fun h => c3 ⟨rfl, h⟩
      simp [d37, e8, e9, e10, e11, e12, m8, m9, m10, c3', ← hsv]
      exact hle
  | true =>
    have c2' : ¬ A.to = en.els := fun h => c2 ⟨rfl, h⟩
    cases s with
    | false =>
      simp [d37, e8, e9, e10, e11, e12, m8, m9, m10, c2', ← hsv]
      exact hle
    | true =>
      have c1' : ¬ A.to = Bn.to := fun h => c1 ⟨rfl, rfl, h⟩
      have c3' : ¬ Bn.to = en.to := fun h => c3 ⟨rfl, h⟩
      simp [d37, e8, e9, e10, e11, e12, m8, m9, m10, c1', c2', c3', ← hsv]
      exact hle
theorem shape_facts {u : UUnit} (hu : wfU u = true) {ord : List Nat} {x : Nat} (hx : x < u.blocks.length) : let s := shapeP u ord x; (s.kind = 0 ∧ s.to = -1 ∧ s.or_ = -1 ∧ s.meet = -1) ∨ ((s.kind = 1 ∨ s.kind = 2 ∨ s.kind = 3) ∧ (s.to = -1 ∨ (0 ≤ s.to ∧ s.to < u.blocks.length)) ∧ (s.or_ = -1 ∨ (0 ≤ s.or_ ∧ s.or_ < u.blocks.length)) ∧ (blkAt u x).en.kind = 2) := by
  have hkx : u.blocks[x]? = some (blkAt u x) := by rw [blkAt, List.getD_eq_getElem?_getD, List.getElem?_eq_getElem hx]; rfl
  obtain ⟨g1, g2, g3, g4⟩ := wfB_facts hu hkx
  obtain ⟨w1, w2, w3, w4, w5⟩ := wfE_facts g4
  simp only [shapeP]
  split
  · exact .inl ⟨rfl, rfl, rfl, rfl⟩
  · rename_i h
    have hk : (blkAt u x).en.kind = 2 := Decidable.byContradiction fun h2 => h (.inl h2)
    have a1 := w4 (.inr hk)
    have a2 := w5 hk
    split
    · exact .inr ⟨.inl rfl, .inr a1, .inr a2, hk⟩
    · split
      · exact .inr ⟨.inr (.inl rfl), .inr a1, .inl rfl, hk⟩
      · split
        · exact .inr ⟨.inr (.inr rfl), .inl rfl, .inr a2, hk⟩
        · exact .inl ⟨rfl, rfl, rfl, rfl⟩
structure szI (H1 : Hp) (xc : CV) (s : Shp) (r : Nat) (F : Nat → Nat) (d m : Nat) (s' : CA) (H' : Hp) : Prop where
  ex : ∃ i i25 : Nat, m = 2 - i ∧ i ≤ 2 ∧ i25 + d = i ∧ s'.env 0 = xc ∧ s'.env 6 = ci s.kind ∧ s'.env 10 = .int .i64 (F i) ∧ s'.env 23 = .ref r 0 2 2 ∧ s'.env 24 = .int .i64 2 ∧ s'.env 25 = .int .i64 i25 ∧ s'.ds = [] ∧ Le H1 H'
theorem size_c (hX : CxOk (cx W G)) (u : UUnit) (hu : wfU u = true) (ord : List Nat) (x : Nat) (hx : x < u.blocks.length) (H : Hp) :
    CC Tryz.prog W 38 [.iptr (openC u ord), .int .i64 x] H fun r H' => r = .ret (.tuple [ci (sizeP u ord x : Int), .bool (decide ((shapeP u ord x).kind ≠ 0))]) ∧ H' = H := by
  have hsf := shape_facts hu (ord := ord) hx
  have hsh := shape_c hX u hu ord x hx H
  obtain ⟨xc, hxc⟩ : ∃ xc, CV.iptr (openC u ord) = xc := ⟨_, rfl⟩
  rw [hxc] at hsh ⊢
  have hz : sizeP u ord x = (sideOps u (shapeP u ord x).to).length + (sideOps u (shapeP u ord x).or_).length := rfl
  rw [hz]
  generalize shapeP u ord x = s at hsf hsh ⊢
  refine CC.shrink ?_
  refine CC.of_cw hX Tryz.func38 rfl rfl (Nat.le_of_ble_eq_true rfl) ?_
  refine CW.walk hX mixed d38 rfl ?_
  simp
  refine CW.walk hX mixed d38 rfl ?_
  simp
  refine hsh.k ?_
  rintro r H1 ⟨rfl, rfl⟩
  simp [shpV]
  obtain ⟨F, hF⟩ : ∃ F : Nat → Nat, (fun i => if i = 0 then 0 else if i = 1 then (sideOps u s.to).length else (sideOps u s.to).length + (sideOps u s.or_).length) = F := ⟨_, rfl⟩
  have hF0 : F 0 = 0 := by rw [← hF]; rfl
  have hF2 : F 2 = (sideOps u s.to).length + (sideOps u s.or_).length := by rw [← hF]; rfl
  obtain ⟨sd, hsd⟩ : ∃ sd : Nat → Int, (fun i => if i = 0 then s.to else s.or_) = sd := ⟨_, rfl⟩
  have hFs : ∀ i, i < 2 → F (i + 1) = F i + (sideOps u (sd i)).length := fun i hi => by
    rw [← hF, ← hsd]
    rcases i with _|_|i
    · simp
    · simp
    · omega
  have hsb : ∀ i, i < 2 → (sd i = -1 ∨ (0 ≤ sd i ∧ sd i < u.blocks.length ∧ 0 < s.kind)) := fun i hi => by
    rw [← hsd]
    rcases hsf with ⟨h1, h2, h3, _⟩ | ⟨h1, h2, h3, _⟩
    · rcases i with _|_|i
      · exact .inl (by simp [h2])
      · exact .inl (by simp [h3])
      · omega
    · have hk : 0 < s.kind := by omega
      rcases i with _|_|i
      · rcases h2 with h2 | h2
        · exact .inl (by simp [h2])
        · exact .inr ⟨h2.1, h2.2, hk⟩
      · rcases h3 with h3 | h3
        · exact .inl (by simp [h3])
        · exact .inr ⟨h3.1, h3.2, hk⟩
      · omega
  have hcl : ∀ i, i < 2 → [ci s.to, ci s.or_][i]? = some (ci (sd i)) := fun i hi => by
    rw [← hsd]
    rcases i with _|_|i
    · rfl
    · rfl
    · omega
  have hsl : ∀ i, i < 2 → (sideOps u (sd i)).length ≤ 400 := fun i hi => by
    simp only [sideOps]
    split
    · simp
    · rename_i h
      have hb : (sd i).toNat < u.blocks.length := by
        rcases hsb i hi with h' | h'
        · omega
        · omega
      have hk : u.blocks[(sd i).toNat]? = some (blkAt u (sd i).toNat) := by rw [blkAt, List.getD_eq_getElem?_getD, List.getElem?_eq_getElem hb]; rfl
      exact (wfB_facts hu hk).2.1
  refine CW.walk hX mixed d38 rfl ?_
  simp
  refine CW.cut (fun s' H' => s'.env 6 = ci s.kind ∧ s'.env 10 = .int .i64 (F 2) ∧ s'.ds = [] ∧ Le H1 H') ?_ ?_
  · refine CW.walk hX mixed d38 rfl ?_
    simp [cfill]
    intro q hq
    rw [show List.drop 2 ((List.range 2).map fun i => [CV.int .i64 0][i % 1]?.getD CV.any) = [] from rfl]
    have hle0 : Le H1 (H1.set q (.cells [ci s.to, ci s.or_])) := Le.set_new hq
    have mq : (H1.set q (.cells [ci s.to, ci s.or_])) q = some (.cells [ci s.to, ci s.or_]) := set_at
    generalize H1.set q _ = H2 at hle0 mq ⊢
    refine CW.block ?_
    refine CW.loop (szI H2 xc s q F 0) ?_ (m := 2) ⟨0, 0, rfl, by omega, rfl, by simp, by simp, by simp [hF0], by simp, by simp, by simp, rfl, Le.refl _⟩
    rintro m ⟨e, ds⟩ H3 ⟨i, i25, rfl, hi, hi25, e0, e6, e10, e23, e24, e25, hds, hle3⟩
    obtain rfl : i25 = i := by omega
    dsimp only at e0 e6 e10 e23 e24 e25 hds
    subst hds
    by_cases hi2 : i25 < 2
    rotate_left
    · refine CW.walk hX mixed d38 rfl ?_
      simp [e24, e25, show ¬ (i25 : Int) < 2 by omega]
      refine CW.walk1 hX mixed d38 rfl ?_
      simp
      obtain rfl : i25 = 2 := by omega
      exact ⟨by simp [e6], by simp [e10], hle0.trans hle3⟩
    refine CW.walk hX mixed d38 rfl ?_
    simp [e24, e25, show (i25 : Int) < 2 by omega]
    refine CW.walk hX mixed d38 rfl ?_
    simp
    refine CW.cut (szI H2 xc s q F 1 (2 - (i25 + 1))) ?_ ?_
    rotate_left
    · clear e0 e6 e10 e23 e24 e25 hle3
      rintro ⟨e, ds⟩ H3 ⟨i2, i3, hm, hi2', hi3, e0, e6, e10, e23, e24, e25, hds, hle3⟩
      dsimp only at e0 e6 e10 e23 e24 e25 hds
      subst hds
      obtain rfl : i2 = i25 + 1 := by omega
      obtain rfl : i25 = i3 := by omega
      refine CW.walk1 hX mixed d38 rfl ?_
      simp [e25]
      exact ⟨2 - (i25 + 1), by omega, i25 + 1, i25 + 1, rfl, hi2', rfl, by simp [e0], by simp [e6], by simp [e10], by simp [e23], by simp [e24], by simp; rw [wrapI (by omega) (by omega)], rfl, hle3⟩
    refine CW.block ?_
    have mq3 := hle3 _ _ mq
    have hc := hcl i25 hi2
    have hcg : ∀ h, [ci s.to, ci s.or_][i25]'h = ci (sd i25) := fun h => by
      rw [List.getElem?_eq_getElem h] at hc; injection hc
    have hFi := hFs i25 hi2
    have hsli := hsl i25 hi2
    have hFl : F i25 ≤ 400 := by
      rcases i25 with _|_|i
      · omega
      · have h1 := hFs 0 (by omega)
        have h2 := hsl 0 (by omega)
        simp only [Nat.zero_add] at h1
        simp only [Nat.zero_add]
        omega
      · omega
    refine CW.walk hX mixed d38 rfl ?_
    simp [e23, e25, mq3, hi2, hcg, show (i25 : Int) < 2 by omega]
    refine CW.walk1 hX mixed d38 rfl ?_
    rcases hsb i25 hi2 with hn | ⟨hp1, hp2, hk⟩
    · have hz0 : sideOps u (sd i25) = [] := by simp [sideOps, hn]
      rw [hz0] at hFi
      by_cases hk : 0 < s.kind
      · simp [e6, hn, hk]
        exact ⟨i25 + 1, i25, by omega, by omega, rfl, by simp [e0], by simp [e6], by simp [e10, hFi], by simp [e23], by simp [e24], by simp [e25], rfl, hle3⟩
      · simp [e6, hn, hk]
        exact ⟨i25 + 1, i25, by omega, by omega, rfl, by simp [e0], by simp [e6], by simp [e10, hFi], by simp [e23], by simp [e24], by simp [e25], rfl, hle3⟩
    · obtain ⟨tn, htn⟩ := Int.eq_ofNat_of_zero_le hp1
      have htl : tn < u.blocks.length := by omega
      have hso : sideOps u (sd i25) = (blkAt u tn).ops := by simp [sideOps, htn, show ¬ (tn : Int) < 0 by omega]
      have e4 : ∀ h, u.blocks[tn]'h = blkAt u tn := fun h => by
        have : u.blocks[tn]? = some (blkAt u tn) := by rw [blkAt, List.getD_eq_getElem?_getD, List.getElem?_eq_getElem htl]; rfl
        rw [List.getElem?_eq_getElem h] at this
        injection this
      rw [hso] at hFi hsli
      have hww : IntKind.i64.wrap ((F i25 : Int) + ((blkAt u tn).ops.length : Int)) = (F i25 : Int) + ((blkAt u tn).ops.length : Int) := wrapI (by omega) (by omega)
      rw [← hxc] at e0
      simp [e0, e6, e10, htn, hk, openC, unitC, htl, e4, blkC, hww]
      exact ⟨i25 + 1, i25, by omega, by omega, rfl, by simp [e0, hxc], by simp [e6], by simp [hFi], by simp [e23], by simp [e24], by simp [e25], rfl, hle3⟩
  rintro ⟨e, ds⟩ H3 ⟨e6, e10, hds, hle3⟩
  dsimp only at e6 e10 hds
  subst hds
  refine CW.walk1 hX mixed d38 rfl ?_
  simp [e6, e10, hF2]
  refine ⟨hle3, ?_⟩
  rw [Bool.eq_iff_iff]
  simp
  rcases hsf with ⟨h, _⟩ | ⟨h, _⟩ <;> omega
end Go.Cl.Gu
set_option linter.unusedSimpArgs false
set_option linter.unusedVariables false
namespace Go.Cl.Gu
open Go.Proofs Go.Cl.Gd
variable {W : World} {G : Nat → CV}
set_option maxRecDepth 8000
set_option maxHeartbeats 1000000
/-- The error of functions with a block. -/
def thereE (u : UUnit) (b : Int) : Int := if errU u ≠ 0 then errU u else if b < 0 ∨ (u.blocks.length : Int) ≤ b then 2 else 0
structure LkR (u : UUnit) (H : Hp) (e : Int) (x : CE) (H' : Hp) : Prop where
  le : Le H H'
  er : e ≠ 0 → x = .ret (.tuple [.nilptr, ci e])
  ok : e = 0 → ∃ xp rw rr v0 v5 p c, x = .ret (.tuple [.ptr xp 0, ci 0]) ∧ PLeast (opsOf u) p c ∧ OpR H H' u xp rw rr v0 v5 (ordL (nextN u p) u.blocks.length)
theorem look_c (hX : CxOk (cx W G)) (hG : G 0 = .iptr formsC) (u : UUnit) (hu : UOk u) (hs : u.sizes.length ≤ 1000000) (b : Int) (H : Hp) (cs : List CV) (hv : UV H cs u) :
    CC Tryz.prog W 36 [.agg cs, ci b] H (LkR u H (thereE u b)) := by
  obtain ⟨w0, w5, rfl, hbr⟩ := hv.b
  refine CC.of_cw hX Tryz.func36 rfl rfl (Nat.le_of_ble_eq_true rfl) ?_
  refine CW.walk hX mixed d36 rfl ?_
  simp
  intro q1 hq1
  have hle1 : Le H (H.set q1 (.cells [w0, ci u.params, ci u.regs, ci u.code, ci u.spill, w5])) := Le.set_new hq1
  have m1 : (H.set q1 (.cells [w0, ci u.params, ci u.regs, ci u.code, ci u.spill, w5])) q1 = some (.cells [w0, ci u.params, ci u.regs, ci u.code, ci u.spill, w5]) := set_at
  generalize H.set q1 _ = H1 at hle1 m1 ⊢
  have hv1 := hv.mono hle1
  refine CW.walk hX mixed d36 rfl ?_
  simp [m1]
  refine (check_ef hX hG hu hv1.f).k ?_
  rintro x H2 ⟨rfl, rfl⟩
  by_cases he : errU u = 0
  rotate_left
  · simp [he]
    refine ⟨hle1, fun _ => ?_, fun h => ?_⟩
    · simp [thereE, he]
    · simp [thereE, he] at h
  simp [he]
  have hw : wfU u = true := errU_wf.1 he
  obtain ⟨f1, f2, f3, f4, f5, f6, f7, f8, f9, f10, f11⟩ := wfU_facts hw
  obtain ⟨rb, cb, rfl⟩ : ∃ r c, w5 = .ref r 0 u.blocks.length c := by
    rcases hbr with ⟨_, h0⟩ | ⟨r, c, cs, h, _⟩
    · rw [h0] at f7; simp at f7
    · exact ⟨r, c, h⟩
  refine CW.walk hX mixed d36 rfl ?_
  by_cases hb0 : b < 0
  · simp [m1, hb0]
    refine ⟨hle1, fun _ => ?_, fun h => ?_⟩
    · simp [thereE, he, hb0]
    · simp [thereE, he, hb0] at h
  by_cases hb1 : (u.blocks.length : Int) ≤ b
  · simp [m1, hb0, hb1]
    refine ⟨hle1, fun _ => ?_, fun h => ?_⟩
    · simp [thereE, he, hb0, hb1]
    · simp [thereE, he, hb0, hb1] at h
  simp [m1, hb0, hb1]
  have h0 : thereE u b = 0 := by simp [thereE, he, hb0, hb1]
  refine CW.walk hX mixed d36 rfl ?_
  simp [m1]
  refine (open_c hX hG u hw hs H2 _ hv1).k ?_
  rintro x H3 ⟨xp, rw, rr, v0, v5, p, c, rfl, hp, hR⟩
  simp
  refine CW.walk1 hX mixed d36 rfl ?_
  simp
  exact ⟨hle1.trans hR.le, fun h => absurd h0 h, fun _ => ⟨xp, rw, rr, v0, v5, p, c, rfl, hp, ⟨hle1.trans hR.le, hR.mx, hR.w0, hR.b5, hR.c5, hR.w, hR.r⟩⟩⟩
/-- The shapes, as the program and the reference tell them. -/
def shapesP (u : UUnit) (ord : List Nat) (n : Nat) : List (Int × Int) := ((List.range n).filter fun (b : Nat) => decide ((shapeP u ord b).kind ≠ 0)).map fun (b : Nat) => ((b : Int), (shapeP u ord b).kind)
def pairs (l : List (Int × Int)) : List (List CV) := l.map fun x => [ci x.1, ci x.2]
theorem shapesP_succ {u : UUnit} {ord : List Nat} {n : Nat} : shapesP u ord (n + 1) = shapesP u ord n ++ (if (shapeP u ord n).kind ≠ 0 then [((n : Int), (shapeP u ord n).kind)] else []) := by
  simp only [shapesP, List.range_succ, List.filter_append, List.map_append]
  congr 1
  by_cases h : (shapeP u ord n).kind = 0
  · simp [h]
  · simp [h]
theorem shapesP_len {u : UUnit} {ord : List Nat} {n : Nat} : (shapesP u ord n).length ≤ n := by
  simp only [shapesP, List.length_map]
  have := List.length_filter_le (fun (b : Nat) => decide ((shapeP u ord b).kind ≠ 0)) (List.range n)
  simpa using this
structure ssI (H1 : Hp) (u : UUnit) (ord : List Nat) (q1 xp : Nat) (d m : Nat) (s' : CA) (H' : Hp) : Prop where
  ex : ∃ (i i23 : Nat) (v : CV), m = u.blocks.length - i ∧ i ≤ u.blocks.length ∧ i23 + d = i ∧ s'.env 4 = .ptr xp 0 ∧ s'.env 6 = v ∧ s'.env 22 = .int .i64 u.blocks.length ∧ s'.env 23 = .int .i64 i23 ∧ s'.ds = [] ∧ Own H1 H' v 2 (pairs (shapesP u ord i))
structure ssX (H1 : Hp) (u : UUnit) (ord : List Nat) (s' : CA) (H' : Hp) : Prop where
  ex : ∃ v, s'.env 6 = v ∧ s'.ds = [] ∧ Own H1 H' v 2 (pairs (shapesP u ord u.blocks.length))
theorem shape_f (hX : CxOk (cx W G)) {u : UUnit} (hu : wfU u = true) {ord : List Nat} {x : Nat} (hx : x < u.blocks.length) {H : Hp} {xv : CV} (hf : Fz H xv (.iptr (openC u ord))) :
    CC Tryz.prog W 37 [xv, .int .i64 x] H fun r H' => r = .ret (shpV (shapeP u ord x)) ∧ H' = H := by
  refine (CC.freeze (args' := [.iptr (openC u ord), .int .i64 x]) (R := fun v => v = shpV (shapeP u ord x)) (by rfl) (fz2' hf _) (by rintro v rfl; simp [plainV, shpV]) fun w hw => ?_).mono ?_
  · exact (shape_c (W := w) (CxOk.later hX hw) u hu ord x hx _).mono fun r H' ⟨h1, _⟩ => ⟨_, h1, rfl⟩
  · rintro r H' ⟨v, rfl, rfl, rfl⟩
    exact ⟨rfl, rfl⟩
theorem size_f (hX : CxOk (cx W G)) {u : UUnit} (hu : wfU u = true) {ord : List Nat} {x : Nat} (hx : x < u.blocks.length) {H : Hp} {xv : CV} (hf : Fz H xv (.iptr (openC u ord))) :
    CC Tryz.prog W 38 [xv, .int .i64 x] H fun r H' => r = .ret (.tuple [ci (sizeP u ord x : Int), .bool (decide ((shapeP u ord x).kind ≠ 0))]) ∧ H' = H := by
  refine (CC.freeze (args' := [.iptr (openC u ord), .int .i64 x]) (R := fun v => v = .tuple [ci (sizeP u ord x : Int), .bool (decide ((shapeP u ord x).kind ≠ 0))]) (by rfl) (fz2' hf _) (by rintro v rfl; simp [plainV]) fun w hw => ?_).mono ?_
  · exact (size_c (W := w) (CxOk.later hX hw) u hu ord x hx _).mono fun r H' ⟨h1, _⟩ => ⟨_, h1, rfl⟩
  · rintro r H' ⟨v, rfl, rfl, rfl⟩
    exact ⟨rfl, rfl⟩
structure SsR (u : UUnit) (H : Hp) (x : CE) (H' : Hp) : Prop where
  le : Le H H'
  er : errU u ≠ 0 → x = .ret (.tuple [.nilsl, ci (errU u)])
  ok : errU u = 0 → ∃ v p c, x = .ret (.tuple [v, ci 0]) ∧ PLeast (opsOf u) p c ∧ Own H H' v 2 (pairs (shapesP u (ordL (nextN u p) u.blocks.length) u.blocks.length))
theorem shapes_c (hX : CxOk (cx W G)) (hG : G 0 = .iptr formsC) (u : UUnit) (hu : UOk u) (hs : u.sizes.length ≤ 1000000) (H : Hp) (cs : List CV) (hv : UV H cs u) :
    CC Tryz.prog W 11 [.agg cs] H (SsR u H) := by
  obtain ⟨w0, w5, rfl, hbr⟩ := hv.b
  refine CC.of_cw hX Tryz.func11 rfl rfl (Nat.le_of_ble_eq_true rfl) ?_
  refine CW.walk hX mixed d11 rfl ?_
  simp
  intro q1 hq1
  have hle1 : Le H (H.set q1 (.cells [w0, ci u.params, ci u.regs, ci u.code, ci u.spill, w5])) := Le.set_new hq1
  have m1 : (H.set q1 (.cells [w0, ci u.params, ci u.regs, ci u.code, ci u.spill, w5])) q1 = some (.cells [w0, ci u.params, ci u.regs, ci u.code, ci u.spill, w5]) := set_at
  generalize H.set q1 _ = H1 at hle1 m1 ⊢
  have hv1 := hv.mono hle1
  have hlk := look_c hX hG u hu hs 0 H1 _ hv1
  refine CW.walk hX mixed d11 rfl ?_
  simp [m1]
  refine hlk.k ?_
  rintro x H2 ⟨hle2, her, hok⟩
  by_cases he : errU u = 0
  rotate_left
  · have ht : thereE u 0 = errU u := by simp [thereE, he]
    rw [ht] at her
    obtain rfl := her he
    simp
    refine CW.walk hX mixed d11 rfl ?_
    simp [he]
    exact ⟨hle1.trans hle2, fun _ => rfl, fun h => absurd h he⟩
  have hw : wfU u = true := errU_wf.1 he
  obtain ⟨f1, f2, f3, f4, f5, f6, f7, f8, f9, f10, f11⟩ := wfU_facts hw
  have ht : thereE u 0 = 0 := by rw [thereE, if_neg (fun h => h he), if_neg (by omega)]
  obtain ⟨xp, rw, rr, v0, v5, p, c, rfl, hp, hR⟩ := hok ht
  obtain ⟨rb, cb, rfl⟩ : ∃ r c, w5 = .ref r 0 u.blocks.length c := by
    rcases hbr with ⟨_, h0⟩ | ⟨r, c, cs, h, _⟩
    · rw [h0] at f7; simp at f7
    · exact ⟨r, c, h⟩
  have m12 := hle2 _ _ m1
  have hfz := hR.fz
  generalize hord : ordL (nextN u p) u.blocks.length = ord at hfz
  simp
  refine CW.walk hX mixed d11 rfl ?_
  simp
  refine CW.walk hX mixed d11 rfl ?_
  simp
  have hPl := hp
  refine CW.cut (ssX H2 u ord) ?_ ?_
  · refine CW.walk hX mixed d11 rfl ?_
    simp [m12]
    refine CW.block ?_
    refine CW.loop (ssI H2 u ord q1 xp 0) ?_ (m := u.blocks.length) ⟨0, 0, .nilsl, rfl, by omega, rfl, by simp, by simp, by simp, by simp, rfl, Own.nil (Le.refl _)⟩
    rintro m ⟨e, ds⟩ H3 ⟨i, i23, v, rfl, hi, hi23, e4, e6, e22, e23, hds, how⟩
    obtain rfl : i23 = i := by omega
    dsimp only at e4 e6 e22 e23 hds
    subst hds
    by_cases hil : i23 < u.blocks.length
    rotate_left
    · refine CW.walk hX mixed d11 rfl ?_
      simp [e22, e23, hil]
      refine CW.walk1 hX mixed d11 rfl ?_
      simp
      obtain rfl : i23 = u.blocks.length := by omega
      exact ⟨v, by simp [e6], rfl, how⟩
    refine CW.walk hX mixed d11 rfl ?_
    simp [e22, e23, hil]
    refine CW.walk hX mixed d11 rfl ?_
    simp
    refine CW.cut (ssI H2 u ord q1 xp 1 (u.blocks.length - (i23 + 1))) ?_ ?_
    rotate_left
    · clear e4 e6 e22 e23 how
      rintro ⟨e, ds⟩ H3 ⟨i2, i3, v, hm, hi2, hi3, e4, e6, e22, e23, hds, how⟩
      dsimp only at e4 e6 e22 e23 hds
      subst hds
      obtain rfl : i2 = i23 + 1 := by omega
      obtain rfl : i23 = i3 := by omega
      refine CW.walk1 hX mixed d11 rfl ?_
      simp [e23]
      exact ⟨u.blocks.length - (i23 + 1), by omega, i23 + 1, i23 + 1, v, rfl, hi2, rfl, by simp [e4], by simp [e6], by simp [e22], by simp; rw [wrapI (by omega) (by omega)], rfl, how⟩
    refine CW.block ?_
    refine CW.walk hX mixed d11 rfl ?_
    simp [e23]
    refine CW.walk hX mixed d11 rfl ?_
    simp [e4]
    refine (shape_f hX hw hil (hfz.mono how.le)).k ?_
    rintro r H4 ⟨rfl, rfl⟩
    simp [shpV]
    have hsf := shape_facts hw (ord := ord) hil
    have hsu := shapesP_succ (u := u) (ord := ord) (n := i23)
    refine CW.walk1 hX mixed d11 rfl ?_
    by_cases hk : (shapeP u ord i23).kind = 0
    · simp [hk]
      exact ⟨i23 + 1, i23, v, rfl, by omega, rfl, by simp [e4], by simp [e6], by simp [e22], by simp [e23], rfl, by rw [hsu, if_neg (fun h => h hk), List.append_nil]; exact how⟩
    · have hk2 : 0 < (shapeP u ord i23).kind := by rcases hsf with ⟨h, _⟩ | ⟨h, _⟩ <;> omega
      simp [hk2, e6, cfill, -vcAppend]
      intro q hq
      refine (how.more hq).append2 (ys := [[ci (i23 : Int), ci (shapeP u ord i23).kind]]) (by simp) (by have := shapesP_len (u := u) (ord := ord) (n := i23); simp [pairs]; omega) (src_one set_at rfl) fun v' H5 how5 _ => ?_
      simp
      exact ⟨i23 + 1, i23, v', rfl, by omega, rfl, by simp [e4], by simp, by simp [e22], by simp [e23], rfl, by rw [hsu, if_pos hk]; simpa [pairs] using how5⟩
  rintro ⟨e, ds⟩ H3 ⟨v, e6, hds, how⟩
  dsimp only at e6 hds
  subst hds
  refine CW.walk1 hX mixed d11 rfl ?_
  simp [e6]
  exact ⟨(hle1.trans hle2).trans how.le, fun h => absurd he h, fun _ => ⟨v, p, c, rfl, hp, by rw [hord]; exact how.base (hle1.trans hle2)⟩⟩
/-- What Size answers. -/
structure SzR (u : UUnit) (H : Hp) (b : Int) (x : CE) (H' : Hp) : Prop where
  le : Le H H'
  er : thereE u b ≠ 0 → x = .ret (.tuple [ci 0, ci (thereE u b)])
  ok : thereE u b = 0 → ∃ p c, PLeast (opsOf u) p c ∧ ((shapeP u (ordL (nextN u p) u.blocks.length) b.toNat).kind = 0 → x = .ret (.tuple [ci 0, ci 5])) ∧ ((shapeP u (ordL (nextN u p) u.blocks.length) b.toNat).kind ≠ 0 → x = .ret (.tuple [ci (sizeP u (ordL (nextN u p) u.blocks.length) b.toNat : Int), ci 0]))
theorem thereE_ok {u : UUnit} {b : Int} (h : thereE u b = 0) : wfU u = true ∧ ∃ n : Nat, b = n ∧ n < u.blocks.length := by
  simp only [thereE] at h
  split at h
  · rename_i h1; exact absurd h h1
  · rename_i h1
    split at h
    · cases h
    · rename_i h2
      exact ⟨errU_wf.1 (by simpa using h1), b.toNat, by omega, by omega⟩
theorem sizeF_c (hX : CxOk (cx W G)) (hG : G 0 = .iptr formsC) (u : UUnit) (hu : UOk u) (hs : u.sizes.length ≤ 1000000) (b : Int) (H : Hp) (cs : List CV) (hv : UV H cs u) :
    CC Tryz.prog W 12 [.agg cs, ci b] H (SzR u H b) := by
  obtain ⟨w0, w5, rfl, hbr⟩ := hv.b
  refine CC.of_cw hX Tryz.func12 rfl rfl (Nat.le_of_ble_eq_true rfl) ?_
  refine CW.walk hX mixed d12 rfl ?_
  simp
  intro q1 hq1
  have hle1 : Le H (H.set q1 (.cells [w0, ci u.params, ci u.regs, ci u.code, ci u.spill, w5])) := Le.set_new hq1
  have m1 : (H.set q1 (.cells [w0, ci u.params, ci u.regs, ci u.code, ci u.spill, w5])) q1 = some (.cells [w0, ci u.params, ci u.regs, ci u.code, ci u.spill, w5]) := set_at
  generalize H.set q1 _ = H1 at hle1 m1 ⊢
  have hv1 := hv.mono hle1
  have hlk := look_c hX hG u hu hs b H1 _ hv1
  refine CW.walk hX mixed d12 rfl ?_
  simp [m1]
  refine hlk.k ?_
  rintro x H2 ⟨hle2, her, hok⟩
  by_cases he : thereE u b = 0
  rotate_left
  · obtain rfl := her he
    simp
    refine CW.walk hX mixed d12 rfl ?_
    simp [he]
    exact ⟨hle1.trans hle2, fun _ => rfl, fun h => absurd h he⟩
  obtain ⟨hw, n, rfl, hn⟩ := thereE_ok he
  obtain ⟨xp, rw, rr, v0, v5, p, c, rfl, hp, hR⟩ := hok he
  have hfz := hR.fz
  simp
  refine CW.walk hX mixed d12 rfl ?_
  simp
  refine CW.walk hX mixed d12 rfl ?_
  simp
  refine (size_f hX hw hn hfz).k ?_
  rintro r H3 ⟨rfl, rfl⟩
  simp
  refine CW.walk hX mixed d12 rfl ?_
  by_cases hk : (shapeP u (ordL (nextN u p) u.blocks.length) n).kind = 0
  · simp [hk]
    exact ⟨hle1.trans hle2, fun h => absurd he h, fun _ => ⟨p, c, hp, fun _ => rfl, fun h => absurd hk h⟩⟩
  · simp [hk]
    refine CW.walk1 hX mixed d12 rfl ?_
    simp
    exact ⟨hle1.trans hle2, fun h => absurd he h, fun _ => ⟨p, c, hp, fun h => absurd h hk, fun _ => rfl⟩⟩
end Go.Cl.Gu
set_option linter.unusedSimpArgs false
set_option linter.unusedVariables false
namespace Go.Cl.Gu
open Go.Proofs Go.Cl.Gd
variable {W : World} {G : Nat → CV}
set_option maxRecDepth 8000
set_option maxHeartbeats 1000000
theorem hasR_c (hX : CxOk (cx W G)) (l : List Int) (n : Int) (hl : l.length ≤ 1000000) (H : Hp) : CC Tryz.prog W 94 [.sl 1 (ints l), ci n] H fun x H' => x = .ret (.bool (decide (n ∈ l))) ∧ H' = H := by
  refine CC.of_ev hX mixed d94 Tryz.func94 rfl rfl (Nat.le_of_ble_eq_true rfl) d94_ok ?_
  simp [Tryz.f94, d94]
  refine CW.loop (fun j s' H' => ∃ k, k ≤ l.length ∧ j = l.length - k ∧ s'.env 0 = .sl 1 (ints l) ∧ s'.env 1 = ci n ∧ s'.env 5 = .int .i64 k ∧ s'.ds = [] ∧ H' = H ∧ ∀ (i : Nat) x, i < k → l[i]? = some x → x ≠ n) ?_ (m := l.length) ⟨0, by simp⟩
  rintro j ⟨e, ds⟩ H' ⟨k, hk, rfl, e0, e1, e5, rfl, rfl, hno⟩
  dsimp only at e0 e1 e5
  refine vw_sound hX mixed (D := d94) _ _ _ _ (by kernel_rfl) ?_
  by_cases hkl : k < l.length
  · obtain ⟨x, hxe⟩ : ∃ x, l[k] = x := ⟨_, rfl⟩
    have hx : l[k]? = some x := by rw [List.getElem?_eq_getElem hkl, hxe]
    simp [e0, e1, e5, hkl, ints_len, ints_at hx]
    refine ⟨fun h => List.mem_of_getElem? (by rw [hx, h]), fun h => ⟨l.length - (k + 1), by omega, k + 1, by omega, rfl, by rw [wrapI (by omega) (by omega)]; omega, fun i y hi hy => ?_⟩⟩
    rcases Nat.lt_or_ge i k with h2 | h2
    · exact hno i y h2 hy
    · have : i = k := by omega
      subst this
      rw [hx] at hy
      injection hy with hy
      rw [← hy]
      exact h
  · have : k = l.length := by omega
    subst this
    simp [e0, e1, e5, ints_len]
    intro hm
    obtain ⟨i, hi, hin⟩ := List.mem_iff_getElem.1 hm
    exact hno i n hi (by rw [List.getElem?_eq_getElem hi, hin]) rfl
theorem hasR_f (hX : CxOk (cx W G)) {H : Hp} {v : CV} {l : List Int} (n : Int) (hv : SlF H v l) (hl : l.length ≤ 1000000) : CC Tryz.prog W 94 [v, ci n] H fun x H' => x = .ret (.bool (decide (n ∈ l))) ∧ H' = H := by
  refine (CC.freeze (args' := [.sl 1 (ints l), ci n]) (R := fun v => v = .bool (decide (n ∈ l))) (by rfl) (fz2 hv.fz (.same _)) (by rintro v rfl; simp [plainV]) fun w hw => ?_).mono ?_
  · exact (hasR_c (W := w) (CxOk.later hX hw) l n hl _).mono fun x H' ⟨h1, _⟩ => ⟨_, h1, rfl⟩
  · rintro x H' ⟨v, rfl, rfl, rfl⟩
    exact ⟨rfl, rfl⟩
def exI (l : List UOp) : List Int := (l.filter fun o => decide (o.kind = 21)).map (·.n)
def catL (k : UBlk) : List Int := if 0 ≤ k.catch_ then [k.catch_] else []
/-- Where a block goes, as the reference tells it. -/
def goRef (k : UBlk) : List Int := goesL k.en ++ exI k.ops ++ catL k
theorem goRef_nat {k : UBlk} : ((goRef k).map Int.toNat).Perm (goN k) := by
  have h1 : (exI k.ops).map Int.toNat = (k.ops.filter fun o => decide (o.kind = 21)).map fun o => o.n.toNat := by simp [exI]
  have h2 : (catL k).map Int.toNat = if 0 ≤ k.catch_ then [k.catch_.toNat] else [] := by simp only [catL]; split <;> rfl
  simp only [goRef, List.map_append, h1, h2, goN]
  exact (List.perm_append_comm).append_right _
theorem goRef_len {u : UUnit} (hu : wfU u = true) {b : Nat} {k : UBlk} (hk : u.blocks[b]? = some k) : (goRef k).length ≤ 403 ∧ ∀ x ∈ goRef k, 0 ≤ x ∧ x < u.blocks.length := by
  obtain ⟨f1, f2, f3, f4, f5, f6, f7, f8, f9, f10, f11⟩ := wfU_facts hu
  obtain ⟨g1, g2, g3, g4⟩ := wfB_facts hu hk
  obtain ⟨w1, w2, w3, w4, w5⟩ := wfE_facts g4
  constructor
  · have h2 := List.length_filter_le (fun o : UOp => decide (o.kind = 21)) k.ops
    have h3 : (goesL k.en).length ≤ 2 := by simp only [goesL]; split; simp; split <;> simp
    have h4 : (catL k).length ≤ 1 := by simp only [catL]; split <;> simp
    simp only [goRef, List.length_append, exI, List.length_map]
    omega
  · intro x hx
    simp only [goRef, List.mem_append] at hx
    rcases hx with (hx | hx) | hx
    · simp only [goesL] at hx
      split at hx
      · rename_i h; simp at hx; subst hx; exact w4 (.inl h)
      · split at hx
        · rename_i h1 h; simp at hx; rcases hx with rfl | rfl; exact w4 (.inr h); exact w5 h
        · simp at hx
    · simp only [exI, List.mem_map, List.mem_filter, decide_eq_true_eq] at hx
      obtain ⟨o, ⟨ho, h21⟩, rfl⟩ := hx
      exact (wfO_facts (g3 o ho) f3).2.2.2.2.2.1 h21
    · simp only [catL] at hx
      split at hx
      · simp at hx
        subst hx
        rcases g1 with h | h
        · omega
        · exact h
      · simp at hx
structure rgI (B : Hp) (k : UBlk) (q1 : Nat) (d m : Nat) (s' : CA) (H' : Hp) : Prop where
  ex : ∃ (i i4 : Nat) (v : CV), m = k.ops.length - i ∧ i ≤ k.ops.length ∧ i4 + d = i ∧ s'.env 1 = .ptr q1 0 ∧ s'.env 3 = v ∧ s'.env 4 = .int .i64 i4 ∧ s'.ds = [] ∧ Own B H' v 1 (ints (goesL k.en ++ exI (k.ops.take i)))
structure rgS (B : Hp) (q1 : Nat) (l : List Int) (s' : CA) (H' : Hp) : Prop where
  ex : ∃ (v : CV), s'.env 1 = .ptr q1 0 ∧ s'.env 3 = v ∧ s'.ds = [] ∧ Own B H' v 1 (ints l)
theorem refGoes_c (hX : CxOk (cx W G)) (k : UBlk) (hl : k.ops.length ≤ 400) (H : Hp) : CC Tryz.prog W 95 [.agg (blkC k)] H fun x H' => ∃ v, x = .ret v ∧ Own H H' v 1 (ints (goRef k)) := by
  have hg2 : (goesL k.en).length ≤ 2 := by simp only [goesL]; split; simp; split <;> simp
  refine CC.of_cw hX Tryz.func95 rfl rfl (Nat.le_of_ble_eq_true rfl) ?_
  refine CW.walk hX mixed d95 rfl ?_
  simp
  intro q1 hq1
  have hle1 : Le H (H.set q1 (.cells (blkC k))) := Le.set_new hq1
  have m1 : (H.set q1 (.cells (blkC k))) q1 = some (.cells (blkC k)) := set_at
  generalize H.set q1 _ = B at hle1 m1 ⊢
  simp only [blkC] at m1
  refine CW.walk hX mixed d95 rfl ?_
  simp
  refine CW.cut (rgS B q1 (goesL k.en)) ?_ ?_
  · refine CW.walk1 hX mixed d95 rfl ?_
    by_cases h1 : k.en.kind = 1
    · simp [m1, h1, cfill, -vcAppend]
      intro q hq
      refine ((Own.nil (sz := 1) (Le.refl _)).more hq).append2 (ys := [[ci k.en.to]]) (by simp) (by simp) (src_one set_at rfl) fun v' H4 how4 _ => ?_
      simp
      exact ⟨v', by simp, by simp, rfl, by simpa [ints, goesL, h1] using how4⟩
    · by_cases h2 : k.en.kind = 2
      · simp [m1, h2, cfill, -vcAppend]
        intro q hq
        refine ((Own.nil (sz := 1) (Le.refl _)).more hq).append2 (ys := [[ci k.en.to], [ci k.en.els]]) (by simp) (by simp) (src_ref (ys := [[ci k.en.to], [ci k.en.els]]) set_at (by simp)) fun v' H4 how4 _ => ?_
        simp
        exact ⟨v', by simp, by simp, rfl, by simpa [ints, goesL, h1, h2] using how4⟩
      · simp [m1, h1, h2]
        exact ⟨.nilsl, by simp, by simp, rfl, by simp [goesL, h1, h2, ints]; exact Own.nil (Le.refl _)⟩
  rintro ⟨e, ds⟩ H2 ⟨v, e1, e3, hds, how⟩
  dsimp only at e1 e3 hds
  subst hds
  have hel : ∀ i, (exI (k.ops.take i)).length ≤ 400 := fun i => by
    simp only [exI, List.length_map]
    have := List.length_filter_le (fun o : UOp => decide (o.kind = 21)) (k.ops.take i)
    rw [List.length_take] at this
    omega
  refine CW.cut (rgS B q1 (goesL k.en ++ exI k.ops)) ?_ ?_
  · refine CW.walk hX mixed d95 rfl ?_
    simp
    refine CW.block ?_
    refine CW.loop (rgI B k q1 0) ?_ (m := k.ops.length) ⟨0, 0, v, rfl, by omega, rfl, by simp [e1], by simp [e3], by simp, rfl, by simpa [exI] using how⟩
    clear e1 e3 how
    clear e H2 v
    rintro m ⟨e, ds⟩ H2 ⟨i, i4, v, rfl, hi, hi4, e1, e3, e4, hds, how⟩
    obtain rfl : i4 = i := by omega
    dsimp only at e1 e3 e4 hds
    subst hds
    have m12 := how.le _ _ m1
    by_cases hil : i4 < k.ops.length
    rotate_left
    · refine CW.walk hX mixed d95 rfl ?_
      simp [e1, e4, m12, hil]
      rw [List.take_of_length_le (by omega)] at how
      exact ⟨v, by simp [e1], by simp [e3], rfl, how⟩
    obtain ⟨o, ho⟩ : ∃ o, k.ops[i4]? = some o := ⟨_, List.getElem?_eq_getElem hil⟩
    have hoe : k.ops[i4] = o := (List.getElem?_eq_some_iff.1 ho).2
    have hto : k.ops.take (i4 + 1) = k.ops.take i4 ++ [o] := by rw [List.take_add_one, ho]; rfl
    refine CW.walk hX mixed d95 rfl ?_
    simp [e1, e4, m12, hil]
    refine CW.cut (rgI B k q1 1 (k.ops.length - (i4 + 1))) ?_ ?_
    rotate_left
    · clear e1 e3 e4 how m12
      rintro ⟨e, ds⟩ H2 ⟨i2, i3, v, hm, hi2, hi3, e1, e3, e4, hds, how⟩
      dsimp only at e1 e3 e4 hds
      subst hds
      obtain rfl : i2 = i4 + 1 := by omega
      obtain rfl : i4 = i3 := by omega
      refine CW.walk1 hX mixed d95 rfl ?_
      simp [e4]
      exact ⟨k.ops.length - (i4 + 1), by omega, i4 + 1, i4 + 1, v, rfl, hi2, rfl, by simp [e1], by simp [e3], by simp; rw [wrapI (by omega) (by omega)], rfl, how⟩
    refine CW.block ?_
    have hlen := hel i4
    refine CW.walk1 hX mixed d95 rfl ?_
    by_cases h21 : o.kind = 21
    · have hex : exI (k.ops.take (i4 + 1)) = exI (k.ops.take i4) ++ [o.n] := by rw [hto]; simp [exI, h21]
      simp [e1, e3, e4, m12, hil, hoe, opC, h21, cfill, -vcAppend]
      intro q hq
      refine (how.more hq).append2 (ys := [[ci o.n]]) (by simp) (by simp [ints]; omega) (src_one set_at rfl) fun v' H4 how4 _ => ?_
      simp
      exact ⟨i4 + 1, i4, v', rfl, by omega, rfl, by simp [e1], by simp, by simp [e4], rfl, by rw [hex]; simpa [ints] using how4⟩
    · have hex : exI (k.ops.take (i4 + 1)) = exI (k.ops.take i4) := by rw [hto]; simp [exI, h21]
      simp [e1, e3, e4, m12, hil, hoe, opC, h21]
      exact ⟨i4 + 1, i4, v, rfl, by omega, rfl, by simp [e1], by simp [e3], by simp [e4], rfl, by rw [hex]; exact how⟩
  clear e1 e3 how
  clear e H2 v
  rintro ⟨e, ds⟩ H2 ⟨v, e1, e3, hds, how⟩
  dsimp only at e1 e3 hds
  subst hds
  have m12 := how.le _ _ m1
  have hlen : (exI k.ops).length ≤ 400 := by have := hel k.ops.length; rwa [List.take_length] at this
  refine CW.cut (rgS B q1 (goRef k)) ?_ ?_
  · refine CW.walk1 hX mixed d95 rfl ?_
    by_cases hc : 0 ≤ k.catch_
    · simp [e1, e3, m12, hc, cfill, -vcAppend]
      intro q hq
      refine (how.more hq).append2 (ys := [[ci k.catch_]]) (by simp) (by simp [ints]; omega) (src_one set_at rfl) fun v' H4 how4 _ => ?_
      simp
      exact ⟨v', by simp [e1], by simp, rfl, by simpa [ints, goRef, catL, hc] using how4⟩
    · simp [e1, e3, m12, hc]
      exact ⟨v, by simp [e1], by simp [e3], rfl, by simpa [goRef, catL, hc] using how⟩
  clear e1 e3 how m12
  clear e H2 v
  rintro ⟨e, ds⟩ H2 ⟨v, e1, e3, hds, how⟩
  dsimp only at e1 e3 hds
  subst hds
  refine CW.walk1 hX mixed d95 rfl ?_
  simp [e3]
  exact how.base hle1
end Go.Cl.Gu
set_option linter.unusedSimpArgs false
set_option linter.unusedVariables false
namespace Go.Cl.Gu
open Go.Proofs Go.Cl.Gd
variable {W : World} {G : Nat → CV}
set_option maxRecDepth 8000
set_option maxHeartbeats 1000000
theorem count_nat {l : List Int} {t : Nat} (h : ∀ x ∈ l, 0 ≤ x) : (l.map Int.toNat).count t = l.count (t : Int) := by
  induction l with
  | nil => rfl
  | cons x l ih =>
    have hx := h x (List.mem_cons_self ..)
    rw [List.map_cons, List.count_cons, List.count_cons, ih fun y hy => h y (List.mem_cons_of_mem _ hy)]
    congr 1
    by_cases e : x = (t : Int)
    · subst e; simp
    · have : ¬ x.toNat = t := by omega
      simp [e, this]
theorem goRef_count {u : UUnit} (hu : wfU u = true) {b t : Nat} (hb : b < u.blocks.length) : (goRef (blkAt u b)).count (t : Int) = (goN (blkAt u b)).count t := by
  have hk : u.blocks[b]? = some (blkAt u b) := by rw [blkAt, List.getD_eq_getElem?_getD, List.getElem?_eq_getElem hb]; rfl
  rw [← count_nat fun x hx => ((goRef_len hu hk).2 x hx).1]
  exact goRef_nat.count_eq t
theorem goRef_mem {u : UUnit} (hu : wfU u = true) {b t : Nat} (hb : b < u.blocks.length) : (t : Int) ∈ goRef (blkAt u b) ↔ t ∈ goN (blkAt u b) := by
  rw [← List.count_pos_iff, ← List.count_pos_iff, goRef_count hu hb]
structure raI (H1 : Hp) (u : UUnit) (q3 : Nat) (ord : List Nat) (vo : CV) (t x : Nat) (d m : Nat) (s' : CA) (H' : Hp) : Prop where
  ex : ∃ r r9 nn : Nat, m = ord.length - r ∧ r ≤ ord.length ∧ r9 + d = r ∧ s'.env 1 = .int .i64 t ∧ s'.env 2 = .int .i64 x ∧ s'.env 3 = .ptr q3 0 ∧ s'.env 7 = vo ∧ s'.env 8 = .int .i64 nn ∧ s'.env 9 = .int .i64 r9 ∧ s'.ds = [] ∧ Le H1 H' ∧ nn = (if x ∈ ord.take r then (goRef (blkAt u x)).count (t : Int) else 0) ∧ ∀ j ∈ ord.take r, j ≠ x → (t : Int) ∉ goRef (blkAt u j)
structure raJ (H1 : Hp) (u : UUnit) (q3 : Nat) (ord : List Nat) (vo : CV) (t x r b : Nat) (v : CV) (l : List Int) (n0 : Nat) (d m : Nat) (s' : CA) (H' : Hp) : Prop where
  ex : ∃ k k12 nn : Nat, m = l.length - k ∧ k ≤ l.length ∧ k12 + d = k ∧ s'.env 1 = .int .i64 t ∧ s'.env 2 = .int .i64 x ∧ s'.env 3 = .ptr q3 0 ∧ s'.env 7 = vo ∧ s'.env 8 = .int .i64 nn ∧ s'.env 9 = .int .i64 r ∧ s'.env 10 = .int .i64 b ∧ s'.env 11 = v ∧ s'.env 12 = .int .i64 k12 ∧ s'.ds = [] ∧ Le H1 H' ∧ nn = n0 + (if b = x then (l.take k).count (t : Int) else 0) ∧ (b ≠ x → (t : Int) ∉ l.take k)
structure raX (H1 : Hp) (u : UUnit) (q3 : Nat) (ord : List Nat) (t x : Nat) (s' : CA) (H' : Hp) : Prop where
  ex : s'.env 1 = .int .i64 t ∧ s'.env 2 = .int .i64 x ∧ s'.env 3 = .ptr q3 0 ∧ s'.env 8 = .int .i64 ((goRef (blkAt u x)).count (t : Int) : Nat) ∧ s'.ds = [] ∧ Le H1 H' ∧ ∀ j ∈ ord, j ≠ x → (t : Int) ∉ goRef (blkAt u j)
theorem refAlone_c (hX : CxOk (cx W G)) (u : UUnit) (hu : wfU u = true) (t x : Nat) (ht : t < u.blocks.length) (hx : x < u.blocks.length) (H : Hp) :
    CC Tryz.prog W 63 [.agg (unitC u), .int .i64 t, .int .i64 x] H fun r H' => ∃ p c, r = .ret (.bool (refAloneB u (ordL (nextN u p) u.blocks.length) t x)) ∧ PLeast (opsOf u) p c := by
  obtain ⟨f1, f2, f3, f4, f5, f6, f7, f8, f9, f10, f11⟩ := wfU_facts hu
  have hge : ∀ (j : Nat) (hj : j < u.blocks.length) h, u.blocks[j]'h = blkAt u j := fun j hj h => by
    have : u.blocks[j]? = some (blkAt u j) := by rw [blkAt, List.getD_eq_getElem?_getD, List.getElem?_eq_getElem hj]; rfl
    rw [List.getElem?_eq_getElem h] at this
    injection this
  have e4 := hge x hx
  have e5 := hge t ht
  refine CC.of_cw hX Tryz.func63 rfl rfl (Nat.le_of_ble_eq_true rfl) ?_
  refine CW.walk hX mixed d63 rfl ?_
  simp
  intro q3 hq3
  have m3 : (H.set q3 (.cells (unitC u))) q3 = some (.cells (unitC u)) := set_at
  generalize H.set q3 _ = H0 at m3 ⊢
  have hro := refOrder_c hX u hu H0
  simp only [unitC] at m3 hro
  refine CW.walk hX mixed d63 rfl ?_
  simp [m3]
  refine hro.k ?_
  rintro r H1 ⟨vo, p, c, rfl, hp, hle, hso⟩
  have m31 := hle _ _ m3
  have hNb : ∀ b, b < u.blocks.length → ∀ k ∈ nextN u p b, k < u.blocks.length := nextN_lt
  have hOR := ord_of (by omega : 0 < u.blocks.length) hNb (f := u.blocks.length) (Nat.le_refl _)
  have hlt := hOR.lt
  have hnl := nodup_le _ _ hOR.nd hlt
  change ∀ b ∈ ordL (nextN u p) u.blocks.length, b < u.blocks.length at hlt
  change (ordL (nextN u p) u.blocks.length).length ≤ _ at hnl
  have hnd := hOR.nd
  change (ordL (nextN u p) u.blocks.length).Nodup at hnd
  clear hOR hro
  simp
  obtain ⟨ord, hord⟩ : ∃ ord, ordL (nextN u p) u.blocks.length = ord := ⟨_, rfl⟩
  rw [hord] at hso hlt hnl hnd
  have hhas := hasR_f hX (x : Int) hso (by rw [natL_len]; omega)
  have hxm : (x : Int) ∈ natL ord ↔ x ∈ ord := by
    simp only [natL, List.mem_map]
    exact ⟨fun ⟨a, h, e⟩ => by rwa [show x = a by omega], fun h => ⟨x, h, rfl⟩⟩
  by_cases c0 : t = 0
  · refine CW.walk hX mixed d63 rfl ?_
    simp [d63, c0]
    exact ⟨p, by rw [hord]; simp [refAloneB], c, hp⟩
  have c0' : ¬ (t : Int) = 0 := by omega
  by_cases c1 : t = x
  · refine CW.walk hX mixed d63 rfl ?_
    subst c1
    simp [d63, c0]
    exact ⟨p, by rw [hord]; simp [refAloneB], c, hp⟩
  have c1' : ¬ (t : Int) = x := by omega
  by_cases c2 : (blkAt u t).catch_ = (blkAt u x).catch_
  rotate_left
  · refine CW.walk hX mixed d63 rfl ?_
    simp [d63, c0, c1', m31, ht, hx, e4, e5, blkC, c2]
    exact ⟨p, by rw [hord]; simp [refAloneB, c2], c, hp⟩
  by_cases c3 : x ∈ ord
  rotate_left
  · refine CW.walk hX mixed d63 rfl ?_
    simp [d63, c0, c1', m31, ht, hx, e4, e5, blkC, c2]
    refine hhas.k ?_
    rintro r H2 ⟨rfl, rfl⟩
    simp [d63, hxm, c3]
    exact ⟨p, by rw [hord]; simp [refAloneB, c3], c, hp⟩
  refine CW.walk hX mixed d63 rfl ?_
  simp [d63, c0, c1', m31, ht, hx, e4, e5, blkC, c2]
  refine hhas.k ?_
  rintro r H2 ⟨rfl, rfl⟩
  simp [d63, hxm, c3]
  have hcx := (goRef_len hu (by rw [List.getElem?_eq_getElem hx, e4] : u.blocks[x]? = some (blkAt u x))).1
  have hccx := List.count_le_length (a := (t : Int)) (l := goRef (blkAt u x))
  have hRf : ∀ b, b ∈ ord → b ≠ x → (t : Int) ∈ goRef (blkAt u b) → refAloneB u ord t x = false := fun b hb hbx hm => by
    simp only [refAloneB, decide_eq_false_iff_not]
    rintro ⟨_, _, _, _, h, _⟩
    exact h b hb hbx ((goRef_mem hu (hlt b hb)).1 hm)
  refine CW.walk hX mixed d63 rfl ?_
  simp
  refine CW.cut (raX H2 u q3 ord t x) ?_ ?_
  · refine CW.walk hX mixed d63 rfl ?_
    simp
    refine CW.block ?_
    refine CW.loop (raI H2 u q3 ord vo t x 0) ?_ (m := ord.length) ⟨0, 0, 0, rfl, by omega, rfl, by simp, by simp, by simp, by simp, by simp, by simp, rfl, Le.refl _, by simp, by simp⟩
    rintro m ⟨e, ds⟩ H3 ⟨r, r9, nn, rfl, hr, hr9, e1, e2, e3, e7, e8, e9, hds, hle3, hnn, hno⟩
    obtain rfl : r9 = r := by omega
    dsimp only at e1 e2 e3 e7 e8 e9 hds
    subst hds
    have hvl : (vo = .nilsl ∧ ord.length = 0) ∨ ∃ r c, vo = .ref r 0 ord.length c := by
      rcases hso with ⟨h1, h2⟩ | ⟨r, c, cs, h1, _⟩
      · exact .inl ⟨h1, by simpa [natL] using congrArg List.length h2⟩
      · exact .inr ⟨r, _, by simpa [natL] using h1⟩
    by_cases hrl : r9 < ord.length
    rotate_left
    · refine CW.walk hX mixed d63 rfl ?_
      simp [e7, e9]
      refine lenK_of hvl ?_
      simp [hrl]
      rw [List.take_of_length_le (by omega)] at hnn hno
      rw [if_pos c3] at hnn
      exact ⟨by simp [e1], by simp [e2], by simp [e3], by simp [e8, hnn], rfl, hle3, hno⟩
    obtain ⟨ro, co, cso, rfl, mo, hco⟩ : ∃ r c cs, vo = .ref r 0 ord.length c ∧ H2 r = some (.cells cs) ∧ ∀ (k : Nat) x, (natL ord)[k]? = some x → cs[k]? = some (ci x) := by
      rcases hso with ⟨_, h⟩ | ⟨r, cc, cs, h1, h2, h3⟩
      · simp [natL] at h; rw [h] at hrl; simp at hrl
      · exact ⟨r, _, cs, by rw [h1, natL_len], h2, h3⟩
    obtain ⟨b, hb⟩ : ∃ b, ord[r9]? = some b := ⟨_, List.getElem?_eq_getElem hrl⟩
    have hbm := List.mem_of_getElem? hb
    have hbl := hlt b hbm
    have htk : ord.take (r9 + 1) = ord.take r9 ++ [b] := by rw [List.take_add_one, hb]; rfl
    have hcb := hco r9 (b : Int) (by rw [natL, List.getElem?_map, hb]; rfl)
    have e6 := hge b hbl
    have hkb : u.blocks[b]? = some (blkAt u b) := by rw [List.getElem?_eq_getElem hbl, e6]
    have mo3 := hle3 _ _ mo
    have m33 := hle3 _ _ m31
    refine CW.walk hX mixed d63 rfl ?_
    simp [e7, e9, hrl]
    refine CW.cut (raI H2 u q3 ord (.ref ro 0 ord.length co) t x 1 (ord.length - (r9 + 1))) ?_ ?_
    rotate_left
    · clear e1 e2 e3 e7 e8 e9 hle3 hnn hno mo3 m33
      rintro ⟨e, ds⟩ H3 ⟨r2, r3, nn, hm, hr2, hr3, e1, e2, e3, e7, e8, e9, hds, hle3, hnn, hno⟩
      dsimp only at e1 e2 e3 e7 e8 e9 hds
      subst hds
      obtain rfl : r2 = r9 + 1 := by omega
      obtain rfl : r9 = r3 := by omega
      refine CW.walk1 hX mixed d63 rfl ?_
      simp [e9]
      exact ⟨ord.length - (r9 + 1), by omega, r9 + 1, r9 + 1, nn, rfl, hr2, rfl, by simp [e1], by simp [e2], by simp [e3], by simp [e7], by simp [e8], by simp; rw [wrapI (by omega) (by omega)], rfl, hle3, hnn, hno⟩
    refine CW.block ?_
    obtain ⟨hgl, hgp⟩ := goRef_len hu hkb
    have hgo := refGoes_c hX (blkAt u b) (wfB_facts hu hkb).2.1 H3
    simp only [blkC] at hgo
    refine CW.walk hX mixed d63 rfl ?_
    simp [e7, e9, hrl, mo3, hcb]
    refine CW.walk hX mixed d63 rfl ?_
    simp [e3, m33, hbl, e6, blkC]
    refine hgo.k ?_
    rintro rx H4 ⟨v, rfl, hown⟩
    have hsv := hown.slF
    obtain ⟨l, hl⟩ : ∃ l, goRef (blkAt u b) = l := ⟨_, rfl⟩
    rw [hl] at hsv hgl hgp
    have hle4 := hle3.trans hown.le
    clear hown hgo mo3 m33
    simp
    refine CW.walk hX mixed d63 rfl ?_
    simp
    refine CW.block ?_
    refine CW.loop (raJ H4 u q3 ord (.ref ro 0 ord.length co) t x r9 b v l nn 0) ?_ (m := l.length) ⟨0, 0, nn, rfl, by omega, rfl, by simp [e1], by simp [e2], by simp [e3], by simp [e7], by simp [e8], by simp [e9], by simp, by simp, by simp, rfl, Le.refl _, by simp, by simp⟩
    have hnx : b = x → x ∉ ord.take r9 := fun e hm => by
      subst e
      obtain ⟨j, hj, hje⟩ := List.mem_iff_getElem.1 hm
      rw [List.length_take] at hj
      rw [List.getElem_take] at hje
      have h1 : ord[j]? = some b := by rw [List.getElem?_eq_getElem (by omega), hje]
      have := (List.getElem?_inj (by omega : j < ord.length) hnd).1 (h1.trans hb.symm)
      omega
    have hbase := hle4
    clear e1 e2 e3 e7 e8 e9 hle3
    clear e
    rintro m ⟨e, ds⟩ H5 ⟨k, k12, n2, rfl, hk, hk12, e1, e2, e3, e7, e8, e9, e10, e11, e12, hds, hle5, hn2, hno2⟩
    obtain rfl : k12 = k := by omega
    dsimp only at e1 e2 e3 e7 e8 e9 e10 e11 e12 hds
    subst hds
    have hvl2 : (v = .nilsl ∧ l.length = 0) ∨ ∃ r c, v = .ref r 0 l.length c := by
      rcases hsv with ⟨h1, h2⟩ | ⟨r, c, cs, h1, _⟩
      · exact .inl ⟨h1, by simp [h2]⟩
      · exact .inr ⟨r, _, h1⟩
    by_cases hkl : k12 < l.length
    rotate_left
    · refine CW.walk hX mixed d63 rfl ?_
      simp [e11, e12]
      refine lenK_of hvl2 ?_
      simp [hkl]
      rw [List.take_of_length_le (by omega)] at hn2 hno2
      refine ⟨r9 + 1, r9, n2, by omega, by omega, rfl, by simp [e1], by simp [e2], by simp [e3], by simp [e7], by simp [e8], by simp [e9], rfl, hle4.trans hle5, ?_, ?_⟩
      · rw [hn2, hnn, htk]
        by_cases hbx : b = x
        · rw [if_pos hbx, if_neg (hnx hbx), if_pos (by simp [hbx]), ← hl, hbx]
          omega
        · have : x ∈ ord.take r9 ++ [b] ↔ x ∈ ord.take r9 := by
            simp
            intro h
            exact absurd h.symm hbx
          rw [if_neg hbx]
          by_cases hm : x ∈ ord.take r9
          · rw [if_pos hm, if_pos (this.2 hm)]
            omega
          · rw [if_neg hm, if_neg fun h => hm (this.1 h)]
      · intro j hj hjx
        rw [htk, List.mem_append] at hj
        rcases hj with hj | hj
        · exact hno j hj hjx
        · simp at hj
          subst hj
          rw [hl]
          exact hno2 hjx
    obtain ⟨rv, cv, csv, rfl, mv, hcv⟩ : ∃ r c cs, v = .ref r 0 l.length c ∧ H4 r = some (.cells cs) ∧ ∀ (k : Nat) x, l[k]? = some x → cs[k]? = some (ci x) := by
      rcases hsv with ⟨_, h⟩ | ⟨r, cc, cs, h1, h2, h3⟩
      · rw [h] at hkl; simp at hkl
      · exact ⟨r, _, cs, h1, h2, h3⟩
    obtain ⟨y, hy⟩ : ∃ y, l[k12]? = some y := ⟨_, List.getElem?_eq_getElem hkl⟩
    have htk2 : l.take (k12 + 1) = l.take k12 ++ [y] := by rw [List.take_add_one, hy]; rfl
    have hcy := hcv k12 y hy
    have mv5 := hle5 _ _ mv
    refine CW.walk hX mixed d63 rfl ?_
    simp [e11, e12, hkl]
    refine CW.cut (raJ H4 u q3 ord (.ref ro 0 ord.length co) t x r9 b (.ref rv 0 l.length cv) l nn 1 (l.length - (k12 + 1))) ?_ ?_
    rotate_left
    · clear e1 e2 e3 e7 e8 e9 e10 e11 e12 hle5 hn2 hno2 mv5
      rintro ⟨e, ds⟩ H5 ⟨k2, k3, n2, hm, hk2, hk3, e1, e2, e3, e7, e8, e9, e10, e11, e12, hds, hle5, hn2, hno2⟩
      dsimp only at e1 e2 e3 e7 e8 e9 e10 e11 e12 hds
      subst hds
      obtain rfl : k2 = k12 + 1 := by omega
      obtain rfl : k12 = k3 := by omega
      refine CW.walk1 hX mixed d63 rfl ?_
      simp [e12]
      exact ⟨l.length - (k12 + 1), by omega, k12 + 1, k12 + 1, n2, rfl, hk2, rfl, by simp [e1], by simp [e2], by simp [e3], by simp [e7], by simp [e8], by simp [e9], by simp [e10], by simp [e11], by simp; rw [wrapI (by omega) (by omega)], rfl, hle5, hn2, hno2⟩
    refine CW.block ?_
    refine CW.walk1 hX mixed d63 rfl ?_
    by_cases hyt : y = (t : Int)
    · by_cases hbx : b = x
      · have hn3 : n2 + 1 = nn + (if b = x then (l.take (k12 + 1)).count (t : Int) else 0) := by
          rw [hn2, if_pos hbx, if_pos hbx, htk2, List.count_append, hyt]
          simp
          omega
        have hsmall : n2 ≤ 1000 := by
          have h1 := List.count_le_length (a := (t : Int)) (l := l.take k12)
          rw [List.length_take] at h1
          have h2 : nn ≤ 403 := by rw [hnn]; split <;> omega
          rw [hn2]
          split <;> omega
        have hww : IntKind.i64.wrap ((n2 : Int) + 1) = ((n2 + 1 : Nat) : Int) := by rw [wrapI (by omega) (by omega)]; rfl
        have e10' := e10
        rw [hbx] at e10'
        simp [e1, e2, e8, e10', e11, e12, hkl, mv5, hcy, hyt, hww]
        exact ⟨k12 + 1, k12, n2 + 1, by omega, by omega, rfl, by simp [e1], by simp [e2], by simp [e3], by simp [e7], by simp, by simp [e9], by simp [e10], by simp [e11], by simp [e12], rfl, hle5, hn3, fun h => absurd hbx h⟩
      · have hbx' : ¬ (b : Int) = x := by omega
        simp [e1, e2, e8, e10, e11, e12, hkl, mv5, hcy, hyt, hbx']
        exact ⟨p, by rw [hord]; exact (hRf b hbm hbx (by rw [hl, ← hyt]; exact List.mem_of_getElem? hy)), c, hp⟩
    · have hn3 : n2 = nn + (if b = x then (l.take (k12 + 1)).count (t : Int) else 0) := by
        rw [hn2, htk2, List.count_append]
        have : List.count (t : Int) [y] = 0 := by simp [List.count_singleton, hyt]
        rw [this]
        rfl
      simp [e1, e2, e8, e10, e11, e12, hkl, mv5, hcy, hyt]
      exact ⟨k12 + 1, k12, n2, by omega, by omega, rfl, by simp [e1], by simp [e2], by simp [e3], by simp [e7], by simp [e8], by simp [e9], by simp [e10], by simp [e11], by simp [e12], rfl, hle5, hn3, fun h hm => by
        rw [htk2, List.mem_append] at hm
        rcases hm with hm | hm
        · exact hno2 h hm
        · simp at hm; exact hyt hm.symm⟩
  rintro ⟨e, ds⟩ H3 ⟨e1, e2, e3, e8, hds, hle3, hno⟩
  dsimp only at e1 e2 e3 e8 hds
  subst hds
  have m33 := hle3 _ _ m31
  have hcnt := goRef_count hu (t := t) hx
  obtain ⟨C, hC⟩ : ∃ C, (goRef (blkAt u x)).count (t : Int) = C := ⟨_, rfl⟩
  rw [hC] at e8 hcnt
  have hR : refAloneB u ord t x = decide (C = 1 ∧ t ∈ (goesL (blkAt u x).en).map Int.toNat) := by
    rw [Bool.eq_iff_iff]
    simp only [refAloneB, decide_eq_true_eq]
    constructor
    · rintro ⟨_, _, _, _, _, h1, h2⟩
      exact ⟨by omega, h2⟩
    · rintro ⟨h1, h2⟩
      exact ⟨c0, c1, c2, c3, fun i hi hix hm => hno i hi hix ((goRef_mem hu (hlt i hi)).2 hm), by omega, h2⟩
  refine CW.walk hX mixed d63 rfl ?_
  simp [e2, e3, m33, hx, e4, blkC]
  intro q13 hq13
  have m13 : (H3.set q13 (.cells [ci (blkAt u x).en.kind, ci (blkAt u x).en.a, ci (blkAt u x).en.to, ci (blkAt u x).en.els])) q13 = some (.cells [ci (blkAt u x).en.kind, ci (blkAt u x).en.a, ci (blkAt u x).en.to, ci (blkAt u x).en.els]) := set_at
  generalize H3.set q13 _ = H4 at m13 ⊢
  have hkx : u.blocks[x]? = some (blkAt u x) := by rw [List.getElem?_eq_getElem hx, e4]
  obtain ⟨w1, w2, w3, w4, w5⟩ := wfE_facts (wfB_facts hu hkx).2.2.2
  generalize (blkAt u x).en = en at m13 hR w1 w2 w3 w4 w5
  have hm : t ∈ (goesL en).map Int.toNat ↔ ((en.kind = 1 ∧ en.to = t) ∨ (en.kind = 2 ∧ (en.to = t ∨ en.els = t))) := by
    simp only [goesL]
    by_cases h1 : en.kind = 1
    · have := w4 (.inl h1)
      rw [if_pos h1]
      simp [h1]
      omega
    · by_cases h2 : en.kind = 2
      · have a1 := w4 (.inr h2)
        have a2 := w5 h2
        rw [if_neg h1, if_pos h2]
        simp [h2]
        omega
      · rw [if_neg h1, if_neg h2]
        simp [h1, h2]
  refine CW.walk1 hX mixed d63 rfl ?_
  by_cases d1 : C = 1
  rotate_left
  · have d1' : ¬ (C : Int) = 1 := by omega
    simp [e8, d1, d1']
    exact ⟨p, by rw [hord, hR]; simp [d1], c, hp⟩
  by_cases d2 : en.kind = 1
  · by_cases d3 : en.to = t
    · simp [e1, e8, d1, m13, d2, d3]
      exact ⟨p, by rw [hord, hR, decide_eq_true_eq]; exact ⟨d1, hm.2 (.inl ⟨d2, d3⟩)⟩, c, hp⟩
    · simp [e1, e8, d1, m13, d2, d3]
      exact ⟨p, by rw [hord, hR, decide_eq_false_iff_not]; rintro ⟨_, h⟩; rcases hm.1 h with h | h; exact d3 h.2; omega, c, hp⟩
  by_cases d4 : en.kind = 2
  · by_cases d3 : en.to = t
    · simp [e1, e8, d1, m13, d4, d3]
      exact ⟨p, by rw [hord, hR, decide_eq_true_eq]; exact ⟨d1, hm.2 (.inr ⟨d4, .inl d3⟩)⟩, c, hp⟩
    · by_cases d5 : en.els = t
      · simp [e1, e8, d1, m13, d4, d3, d5]
        exact ⟨p, by rw [hord, hR, decide_eq_true_eq]; exact ⟨d1, hm.2 (.inr ⟨d4, .inr d5⟩)⟩, c, hp⟩
      · simp [e1, e8, d1, m13, d4, d3, d5]
        have hF : decide (C = 1 ∧ t ∈ (goesL en).map Int.toNat) = false := by
          rw [decide_eq_false_iff_not]
          rintro ⟨_, h⟩
          rcases hm.1 h with h | h
          · exact d3 h.2
          · rcases h.2 with h | h
            · exact d3 h
            · exact d5 h
        exact ⟨p, by rw [hord, hR, hF]; simp [d5], c, hp⟩
  · simp [e1, e8, d1, m13, d2, d4]
    exact ⟨p, by rw [hord, hR, decide_eq_false_iff_not]; rintro ⟨_, h⟩; rcases hm.1 h with h | h; exact d2 h.1; exact d4 h.1, c, hp⟩
end Go.Cl.Gu
set_option linter.unusedSimpArgs false
set_option linter.unusedVariables false
namespace Go.Cl.Gu
open Go.Proofs Go.Cl.Gd
variable {W : World} {G : Nat → CV}
set_option maxRecDepth 8000
set_option maxHeartbeats 1000000
theorem fz3a {H : Hp} {x y : CV} (h : Fz H x y) (a b : CV) : ∀ (i : Nat) p q, [x, a, b][i]? = some p → [y, a, b][i]? = some q → Fz H p q := by
  intro i p q hp hq
  rcases i with _|_|_|i
  · simp at hp hq; subst hp; subst hq; exact h
  · simp at hp hq; subst hp; subst hq; exact .same _
  · simp at hp hq; subst hp; subst hq; exact .same _
  · simp at hp
theorem refAlone_f (hX : CxOk (cx W G)) {u : UUnit} (hu : wfU u = true) {t x : Nat} (ht : t < u.blocks.length) (hx : x < u.blocks.length) {H : Hp} {cs : List CV} (hf : Fz H (.agg cs) (.agg (unitC u))) :
    CC Tryz.prog W 63 [.agg cs, .int .i64 t, .int .i64 x] H fun r H' => (∃ p c, r = .ret (.bool (refAloneB u (ordL (nextN u p) u.blocks.length) t x)) ∧ PLeast (opsOf u) p c) ∧ H' = H := by
  refine (CC.freeze (args' := [.agg (unitC u), .int .i64 t, .int .i64 x]) (R := fun v => ∃ p c, v = .bool (refAloneB u (ordL (nextN u p) u.blocks.length) t x) ∧ PLeast (opsOf u) p c) (by rfl) (fz3a hf _ _) (by rintro v ⟨p, c, rfl, _⟩; simp [plainV]) fun w hw => ?_).mono ?_
  · exact (refAlone_c (W := w) (CxOk.later hX hw) u hu t x ht hx _).mono fun r H' ⟨p, c, h1, h2⟩ => ⟨_, h1, p, c, rfl, h2⟩
  · rintro r H' ⟨v, rfl, ⟨p, c, rfl, h⟩, rfl⟩
    exact ⟨⟨p, c, rfl, h⟩, rfl⟩
/-- As the program tells it, where the block is one to which the other one goes by its End. -/
theorem refAlone_e (hX : CxOk (cx W G)) (u : UUnit) (hu : wfU u = true) {p c : Nat → Bool} (hp : PLeast (opsOf u) p c) (t x : Nat) (ht : t < u.blocks.length) (hx : x < u.blocks.length) (htx : t ∈ (goesL (blkAt u x).en).map Int.toNat) (H : Hp) :
    CC Tryz.prog W 63 [.agg (unitC u), .int .i64 t, .int .i64 x] H fun r H' => r = .ret (.bool (aloneB u (ordL (nextN u p) u.blocks.length) t x)) ∧ H' = H := by
  obtain ⟨f1, f2, f3, f4, f5, f6, f7, f8, f9, f10, f11⟩ := wfU_facts hu
  refine (refAlone_f hX hu ht hx (.same _)).mono ?_
  rintro r H' ⟨⟨p2, c2, rfl, hp2⟩, rfl⟩
  obtain ⟨rfl, rfl⟩ := hp.unique hp2
  have hNb : ∀ b, b < u.blocks.length → ∀ k ∈ nextN u p b, k < u.blocks.length := nextN_lt
  have hnd : (ordL (nextN u p) u.blocks.length).Nodup := (ord_of (by omega : 0 < u.blocks.length) hNb (f := u.blocks.length) (Nat.le_refl _)).nd
  exact ⟨by rw [alone_eq hnd htx], rfl⟩
theorem jumps_c (hX : CxOk (cx W G)) (k : UBlk) (t : Int) (H : Hp) : CC Tryz.prog W 64 [.agg (blkC k), ci t] H fun r H' => r = .ret (.bool (decide (k.en.kind = 1 ∧ k.en.to = t))) ∧ H' = H := by
  refine CC.shrink ?_
  refine CC.of_ev hX mixed d64 Tryz.func64 rfl rfl (Nat.le_of_ble_eq_true rfl) d64_ok ?_
  by_cases h1 : k.en.kind = 1
  · simp [Tryz.f64, d64, blkC, h1]
    intro q hq
    refine ⟨Le.set_new hq, ?_⟩
    rw [Bool.eq_iff_iff]
    simp
  · simp [Tryz.f64, d64, blkC, h1]
    intro q hq
    exact Le.set_new hq
/-- A shape, as the reference tells it. -/
def rshV (s : Shp) : CV := .tuple [ci s.kind, ci (if s.kind = 0 then 0 else s.meet)]
def selS (f s : Bool) (A B : UEnd) (to els : Int) : Shp := if (f && decide (A.kind = 1)) = true ∧ (s && decide (B.kind = 1)) = true ∧ A.to = B.to then (⟨1, to, els, A.to⟩ : Shp) else if (f && decide (A.kind = 1)) = true ∧ A.to = els then ⟨2, to, -1, els⟩ else if (s && decide (B.kind = 1)) = true ∧ B.to = to then ⟨3, -1, els, to⟩ else noShp
section
variable {A B : UEnd} {to els : Int}
theorem sel1 : selS false false A B to els = noShp := by simp [selS]
theorem sel2 (h : B.kind = 1 ∧ B.to = to) : selS false true A B to els = ⟨3, -1, els, to⟩ := by simp [selS, h]
theorem sel3 (h : ¬(B.kind = 1 ∧ B.to = to)) : selS false true A B to els = noShp := by
  simp only [selS, Bool.false_and, Bool.true_and, decide_eq_true_eq, Bool.false_eq_true, false_and, if_false]
  rw [if_neg h]
theorem sel4 (h : A.kind = 1 ∧ A.to = els) : selS true false A B to els = ⟨2, to, -1, els⟩ := by simp [selS, h]
theorem sel5 (h : ¬(A.kind = 1 ∧ A.to = els)) : selS true false A B to els = noShp := by
  simp only [selS, Bool.false_and, Bool.true_and, decide_eq_true_eq, Bool.false_eq_true, false_and, and_false, if_false]
  rw [if_neg h]
theorem sel6 (ha : A.kind = 1) (h : B.kind = 1 ∧ B.to = A.to) : selS true true A B to els = ⟨1, to, els, A.to⟩ := by simp [selS, ha, h]
theorem selN (ha : A.kind = 1) (h : ¬(B.kind = 1 ∧ B.to = A.to)) : selS true true A B to els = if A.to = els then ⟨2, to, -1, els⟩ else if B.kind = 1 ∧ B.to = to then ⟨3, -1, els, to⟩ else noShp := by
  simp only [selS, Bool.true_and, decide_eq_true_eq]
  rw [if_neg fun q => h ⟨q.2.1, q.2.2.symm⟩]
  simp [ha]
theorem sel7 (ha : A.kind = 1) (h : ¬(B.kind = 1 ∧ B.to = A.to)) (h2 : A.kind = 1 ∧ A.to = els) : selS true true A B to els = ⟨2, to, -1, els⟩ := by rw [selN ha h, if_pos h2.2]
theorem sel8 (ha : A.kind = 1) (h : ¬(B.kind = 1 ∧ B.to = A.to)) (h2 : ¬(A.kind = 1 ∧ A.to = els)) (h3 : B.kind = 1 ∧ B.to = to) : selS true true A B to els = ⟨3, -1, els, to⟩ := by rw [selN ha h, if_neg fun q => h2 ⟨ha, q⟩, if_pos h3]
theorem sel9 (ha : A.kind = 1) (h : ¬(B.kind = 1 ∧ B.to = A.to)) (h2 : ¬(A.kind = 1 ∧ A.to = els)) (h3 : ¬(B.kind = 1 ∧ B.to = to)) : selS true true A B to els = noShp := by rw [selN ha h, if_neg fun q => h2 ⟨ha, q⟩, if_neg h3]
theorem sel10 (ha : ¬A.kind = 1) (h3 : B.kind = 1 ∧ B.to = to) : selS true true A B to els = ⟨3, -1, els, to⟩ := by simp [selS, ha, h3]
theorem sel11 (ha : ¬A.kind = 1) (h3 : ¬(B.kind = 1 ∧ B.to = to)) : selS true true A B to els = noShp := by
  simp only [selS, Bool.true_and, decide_eq_true_eq, ha, false_and, if_false]
  rw [if_neg h3]
end
structure rsS (H : Hp) (u : UUnit) (q2 q6 : Nat) (e : UEnd) (f s : Bool) (s' : CA) (H' : Hp) : Prop where
  e2 : s'.env 2 = .ptr q2 0
  e6 : s'.env 6 = .ptr q6 0
  e7 : s'.env 7 = .bool f
  e8 : s'.env 8 = .bool s
  ds : s'.ds = []
  le : Le H H'
  m2 : H' q2 = some (.cells [.sl 1 (u.sizes.map fun n => [ci n]), ci u.params, ci u.regs, ci u.code, ci u.spill, .sl 6 (u.blocks.map blkC)])
  m6 : H' q6 = some (.cells [ci e.kind, ci e.a, ci e.to, ci e.els])
structure rsT (H : Hp) (q6 q9 q10 : Nat) (e : UEnd) (a b : UBlk) (f s : Bool) (s' : CA) (H' : Hp) : Prop where
  e6 : s'.env 6 = .ptr q6 0
  e7 : s'.env 7 = .bool f
  e8 : s'.env 8 = .bool s
  e9 : s'.env 9 = .ptr q9 0
  e10 : s'.env 10 = .ptr q10 0
  ds : s'.ds = []
  le : Le H H'
  m6 : H' q6 = some (.cells [ci e.kind, ci e.a, ci e.to, ci e.els])
  m9 : H' q9 = some (.cells [.sl 7 (a.ops.map opC), ci a.en.kind, ci a.en.a, ci a.en.to, ci a.en.els, ci a.catch_])
  m10 : H' q10 = some (.cells [.sl 7 (b.ops.map opC), ci b.en.kind, ci b.en.a, ci b.en.to, ci b.en.els, ci b.catch_])
theorem refShape_c (hX : CxOk (cx W G)) (u : UUnit) (hu : wfU u = true) {p c : Nat → Bool} (hp : PLeast (opsOf u) p c) (x : Nat) (hx : x < u.blocks.length) (H : Hp) :
    CC Tryz.prog W 41 [.agg (unitC u), .int .i64 x] H fun r H' => r = .ret (rshV (shapeP u (ordL (nextN u p) u.blocks.length) x)) ∧ H' = H := by
  have hkx : u.blocks[x]? = some (blkAt u x) := by rw [blkAt, List.getD_eq_getElem?_getD, List.getElem?_eq_getElem hx]; rfl
  have e4 : ∀ h, u.blocks[x]'h = blkAt u x := fun h => by
    rw [List.getElem?_eq_getElem h] at hkx; injection hkx
  obtain ⟨g1, g2, g3, g4⟩ := wfB_facts hu hkx
  obtain ⟨w1, w2, w3, w4, w5⟩ := wfE_facts g4
  have hal := fun t ht htx H => refAlone_e hX u hu hp t x ht hx htx H
  generalize ordL (nextN u p) u.blocks.length = ord at hal ⊢
  refine CC.shrink ?_
  refine CC.of_cw hX Tryz.func41 rfl rfl (Nat.le_of_ble_eq_true rfl) ?_
  refine CW.walk hX mixed d41 rfl ?_
  simp
  intro q2 hq2
  have hle2 : Le H (H.set q2 (.cells (unitC u))) := Le.set_new hq2
  have m2 : (H.set q2 (.cells (unitC u))) q2 = some (.cells (unitC u)) := set_at
  generalize H.set q2 _ = H0 at hle2 m2 ⊢
  simp only [unitC] at m2 hal
  refine CW.walk hX mixed d41 rfl ?_
  simp [m2, hx, e4, blkC]
  intro q6 hq6
  generalize hk : (blkAt u x).en = en at *
  have m6 : (H0.set q6 (.cells [ci en.kind, ci en.a, ci en.to, ci en.els])) q6 = some (.cells [ci en.kind, ci en.a, ci en.to, ci en.els]) := set_at
  have hle6 : Le H0 (H0.set q6 (.cells [ci en.kind, ci en.a, ci en.to, ci en.els])) := Le.set_new hq6
  generalize H0.set q6 _ = H1 at m6 hle6 ⊢
  have m21 := hle6 _ _ m2
  have hle := hle2.trans hle6
  by_cases hk2 : en.kind = 2
  rotate_left
  · refine CW.walk hX mixed d41 rfl ?_
    simp [m6, hk2]
    exact ⟨hle, by simp [shapeP, hk, hk2, rshV, noShp]⟩
  by_cases hte : en.to = en.els
  · refine CW.walk hX mixed d41 rfl ?_
    simp [m6, hk2, hte]
    exact ⟨hle, by simp [shapeP, hk, hk2, hte, rshV, noShp]⟩
  refine CW.walk hX mixed d41 rfl ?_
  simp [m6, hk2, hte]
  obtain ⟨ht0, htl⟩ := w4 (.inr hk2)
  obtain ⟨he0, hel⟩ := w5 hk2
  obtain ⟨tn, htn⟩ := Int.eq_ofNat_of_zero_le ht0
  obtain ⟨sn, hsn⟩ := Int.eq_ofNat_of_zero_le he0
  have htl' : tn < u.blocks.length := by omega
  have hsl' : sn < u.blocks.length := by omega
  have hgo1 : tn ∈ (goesL en).map Int.toNat := by simp [goesL, hk2, htn]
  have hgo2 : sn ∈ (goesL en).map Int.toNat := by simp [goesL, hk2, hsn]
  have h1 := hal tn htl' hgo1
  have h2 := hal sn hsl' hgo2
  have hge : ∀ (j : Nat) (hj : j < u.blocks.length) h, u.blocks[j]'h = blkAt u j := fun j hj h => by
    have : u.blocks[j]? = some (blkAt u j) := by rw [blkAt, List.getD_eq_getElem?_getD, List.getElem?_eq_getElem hj]; rfl
    rw [List.getElem?_eq_getElem h] at this
    injection this
  have e5 := hge tn htl'
  have e6 := hge sn hsl'
  obtain ⟨A, hA⟩ : ∃ A, blkAt u tn = A := ⟨_, rfl⟩
  obtain ⟨Bn, hBn⟩ : ∃ A, blkAt u sn = A := ⟨_, rfl⟩
  obtain ⟨f, hf⟩ : ∃ f, aloneB u ord tn x = f := ⟨_, rfl⟩
  obtain ⟨s, hs⟩ : ∃ s, aloneB u ord sn x = s := ⟨_, rfl⟩
  rw [hf] at h1
  rw [hs] at h2
  refine CW.cut (rsS H u q2 q6 en f s) ?_ ?_
  · have m6' := m6
    rw [htn, hsn] at m6
    refine CW.walk1 hX mixed d41 rfl ?_
    simp [d41, m21, m6]
    refine (h1 H1).k ?_
    rintro r H2 ⟨rfl, rfl⟩
    simp [d41, m21, m6]
    refine ⟨⟨stabI_le rfl (Le.refl _), stabI_le rfl (Le.refl _)⟩, ?_⟩
    refine (h2 H2).k ?_
    rintro r H3 ⟨rfl, rfl⟩
    simp [d41]
    exact ⟨by simp, by simp, by simp, by simp, rfl, hle, m21, m6'⟩
  clear m6 m21 hle m2 hle6 hle2
  rintro ⟨e, ds⟩ H2 ⟨e2, e6', e7, e8, hds, hle, m2, m6⟩
  dsimp only at e2 e6' e7 e8 hds
  subst hds
  refine CW.cut (fun s' H' => ∃ q9 q10, rsT H q6 q9 q10 en A Bn f s s' H') ?_ ?_
  · have m6' := m6
    rw [htn, hsn] at m6
    refine CW.walk1 hX mixed d41 rfl ?_
    simp [d41, e2, e6', m2, m6, htl', hsl', e5, e6, blkC]
    intro q9 hq9 q10 n1 n2 hq10
    simp [n1, n2]
    have n69 : ¬ q6 = q9 := fun e => by rw [← e, m6] at hq9; cases hq9
    have n610 : ¬ q6 = q10 := fun e => by rw [← e, m6] at hq10; cases hq10
    have n29 : ¬ q2 = q9 := fun e => by rw [← e, m2] at hq9; cases hq9
    have n210 : ¬ q2 = q10 := fun e => by rw [← e, m2] at hq10; cases hq10
    refine ⟨⟨?_, ?_, ?_⟩, ?_⟩
    · simp [stabI, Stab, IsV, n69, n610, n29, n210, m2, m6]
    · simp [stabI, Stab, IsV, n69, n610, n29, n210, m2, m6]
    · simp [stabI, Stab, IsV, n69, n610, n29, n210, m2, m6]
    rw [hA, hBn]
    refine ⟨q9, q10, by simp [e6'], by simp [e7], by simp [e8], by simp, by simp, rfl, ?_, ?_, ?_, ?_⟩
    · exact fun r o hr => by
        have hr1 := hle _ _ hr
        have a1 : r ≠ q9 := fun e => by rw [e, hq9] at hr1; cases hr1
        have a2 : r ≠ q10 := fun e => by rw [e, hq10] at hr1; cases hr1
        rw [hset_ne a2, hset_ne a1, hset_ne a2, hset_ne a1]
        exact hr1
    · rw [hset_ne n610, hset_ne n69, hset_ne n610, hset_ne n69]; exact m6'
    · rw [hset_ne n2]; exact set_at
    · exact set_at
  clear m6 m2 hle e2 e6' e7 e8
  rintro ⟨e, ds⟩ H3 ⟨q9, q10, e6', e7, e8, e9, e10, hds, hle, m6, m9, m10⟩
  dsimp only at e6' e7 e8 e9 e10 hds
  subst hds
  have hsh : shapeP u ord x = selS f s A.en Bn.en en.to en.els := by
    simp only [shapeP, hk, htn, hsn, Int.toNat_natCast, hA, hBn, hf, hs, selS]
    rw [if_neg (by rintro (h | h); exact h hk2; rw [htn, hsn] at hte; exact hte h)]
  rw [hsh]
  clear hsh
  obtain ⟨sv, hsv⟩ : ∃ sv, selS f s A.en Bn.en en.to en.els = sv := ⟨_, rfl⟩
  rw [hsv]
  refine CW.cut (fun s' H' => sv = noShp ∧ s'.ds = [] ∧ Le H H') ?_ ?_
  rotate_left
  · rintro ⟨e, ds⟩ H3 ⟨rfl, hds, hle3⟩
    dsimp only at hds
    subst hds
    refine CW.walk1 hX mixed d41 rfl ?_
    simp [rshV, noShp]
    exact hle3
  have hj := fun t H => jumps_c hX A t H
  have hj2 := fun t H => jumps_c hX Bn t H
  simp only [blkC] at hj hj2
  refine CW.walk1 hX mixed d41 rfl ?_
  cases f with
  | false =>
    cases s with
    | false =>
      simp [d41, e6', e7, e8, e9, e10, m6, m9, m10]
      first | exact ⟨hle, by rw [← hsv, sel1]; simp [rshV]⟩ | exact ⟨by rw [← hsv, sel1], hle⟩ | exact ⟨hle, by rw [← hsv, sel1]; rfl⟩
    | true =>
      simp [d41, e6', e7, e8, e9, e10, m6, m9, m10]
      refine (hj2 en.to _).k ?_
      rintro r H4 ⟨rfl, rfl⟩
      by_cases b3 : Bn.en.kind = 1 ∧ Bn.en.to = en.to
      · simp [d41, e6', m6, b3]
        first | exact ⟨hle, by rw [← hsv, sel2 b3]; simp [rshV]⟩ | exact ⟨by rw [← hsv, sel2 b3], hle⟩ | exact ⟨hle, by rw [← hsv, sel2 b3]; rfl⟩
      · simp [d41, b3]
        first | exact ⟨hle, by rw [← hsv, sel3 b3]; simp [rshV]⟩ | exact ⟨by rw [← hsv, sel3 b3], hle⟩ | exact ⟨hle, by rw [← hsv, sel3 b3]; rfl⟩
  | true =>
    cases s with
    | false =>
      simp [d41, e6', e7, e8, e9, e10, m6, m9, m10]
      refine (hj en.els _).k ?_
      rintro r H4 ⟨rfl, rfl⟩
      by_cases b2 : A.en.kind = 1 ∧ A.en.to = en.els
      · simp [d41, e6', m6, b2]
        first | exact ⟨hle, by rw [← hsv, sel4 b2]; simp [rshV]⟩ | exact ⟨by rw [← hsv, sel4 b2], hle⟩ | exact ⟨hle, by rw [← hsv, sel4 b2]; rfl⟩
      · simp [d41, e8, b2]
        first | exact ⟨hle, by rw [← hsv, sel5 b2]; simp [rshV]⟩ | exact ⟨by rw [← hsv, sel5 b2], hle⟩ | exact ⟨hle, by rw [← hsv, sel5 b2]; rfl⟩
    | true =>
      by_cases ka : A.en.kind = 1
      · simp [d41, e6', e7, e8, e9, e10, m6, m9, m10, ka]
        refine (hj2 A.en.to _).k ?_
        rintro r H4 ⟨rfl, rfl⟩
        by_cases b1 : Bn.en.kind = 1 ∧ Bn.en.to = A.en.to
        · simp [d41, e9, m9, b1, e6', m6]
          first | exact ⟨hle, by rw [← hsv, sel6 ka b1]; simp [rshV]⟩ | exact ⟨by rw [← hsv, sel6 ka b1], hle⟩ | exact ⟨hle, by rw [← hsv, sel6 ka b1]; rfl⟩
        · simp [d41, e6', e7, e8, e9, e10, m6, m9, m10, b1]
          refine (hj en.els _).k ?_
          rintro r H5 ⟨rfl, rfl⟩
          by_cases b2 : A.en.kind = 1 ∧ A.en.to = en.els
          · simp [d41, e6', m6, b2]
            first | exact ⟨hle, by rw [← hsv, sel7 ka b1 b2]; simp [rshV]⟩ | exact ⟨by rw [← hsv, sel7 ka b1 b2], hle⟩ | exact ⟨hle, by rw [← hsv, sel7 ka b1 b2]; rfl⟩
          · simp [d41, e6', e8, e10, m6, m10, b2]
            refine (hj2 en.to _).k ?_
            rintro r H4 ⟨rfl, rfl⟩
            by_cases b3 : Bn.en.kind = 1 ∧ Bn.en.to = en.to
            · simp [d41, e6', m6, b3]
              first | exact ⟨hle, by rw [← hsv, sel8 ka b1 b2 b3]; simp [rshV]⟩ | exact ⟨by rw [← hsv, sel8 ka b1 b2 b3], hle⟩ | exact ⟨hle, by rw [← hsv, sel8 ka b1 b2 b3]; rfl⟩
            · simp [d41, b3]
              first | exact ⟨hle, by rw [← hsv, sel9 ka b1 b2 b3]; simp [rshV]⟩ | exact ⟨by rw [← hsv, sel9 ka b1 b2 b3], hle⟩ | exact ⟨hle, by rw [← hsv, sel9 ka b1 b2 b3]; rfl⟩
      · simp [d41, e6', e7, e8, e9, e10, m6, m9, m10, ka]
        refine (hj en.els _).k ?_
        rintro r H5 ⟨rfl, rfl⟩
        simp [d41, e6', e8, e10, m6, m10, ka]
        refine (hj2 en.to _).k ?_
        rintro r H4 ⟨rfl, rfl⟩
        by_cases b3 : Bn.en.kind = 1 ∧ Bn.en.to = en.to
        · simp [d41, e6', m6, b3]
          first | exact ⟨hle, by rw [← hsv, sel10 ka b3]; simp [rshV]⟩ | exact ⟨by rw [← hsv, sel10 ka b3], hle⟩ | exact ⟨hle, by rw [← hsv, sel10 ka b3]; rfl⟩
        · simp [d41, b3]
          first | exact ⟨hle, by rw [← hsv, sel11 ka b3]; simp [rshV]⟩ | exact ⟨by rw [← hsv, sel11 ka b3], hle⟩ | exact ⟨hle, by rw [← hsv, sel11 ka b3]; rfl⟩
end Go.Cl.Gu
set_option linter.unusedSimpArgs false
set_option linter.unusedVariables false
namespace Go.Cl.Gu
open Go.Proofs Go.Cl.Gd
variable {W : World} {G : Nat → CV}
set_option maxRecDepth 8000
set_option maxHeartbeats 1000000
/-- The sides of a shape of a kind. -/
def sdA (u : UUnit) (e : UEnd) (kind : Int) : CV := if kind = 3 then .nilsl else .sl 7 ((blkAt u e.to.toNat).ops.map opC)
def sdB (u : UUnit) (e : UEnd) (kind : Int) : CV := if kind = 2 then .nilsl else .sl 7 ((blkAt u e.els.toNat).ops.map opC)
theorem sides_c (hX : CxOk (cx W G)) (u : UUnit) (hu : wfU u = true) (x : Nat) (hx : x < u.blocks.length) (hk2 : (blkAt u x).en.kind = 2) (kind : Int) (H : Hp) :
    CC Tryz.prog W 42 [.agg (unitC u), .int .i64 x, ci kind] H fun r H' => r = .ret (.tuple [sdA u (blkAt u x).en kind, sdB u (blkAt u x).en kind]) ∧ H' = H := by
  have hkx : u.blocks[x]? = some (blkAt u x) := by rw [blkAt, List.getD_eq_getElem?_getD, List.getElem?_eq_getElem hx]; rfl
  have hge : ∀ (j : Nat) (hj : j < u.blocks.length) h, u.blocks[j]'h = blkAt u j := fun j hj h => by
    have : u.blocks[j]? = some (blkAt u j) := by rw [blkAt, List.getD_eq_getElem?_getD, List.getElem?_eq_getElem hj]; rfl
    rw [List.getElem?_eq_getElem h] at this
    injection this
  have e4 := hge x hx
  obtain ⟨w1, w2, w3, w4, w5⟩ := wfE_facts (wfB_facts hu hkx).2.2.2
  obtain ⟨ht0, htl⟩ := w4 (.inr hk2)
  obtain ⟨he0, hel⟩ := w5 hk2
  obtain ⟨tn, htn⟩ := Int.eq_ofNat_of_zero_le ht0
  obtain ⟨sn, hsn⟩ := Int.eq_ofNat_of_zero_le he0
  have htl' : tn < u.blocks.length := by omega
  have hsl' : sn < u.blocks.length := by omega
  have e5 := hge tn htl'
  have e6 := hge sn hsl'
  refine CC.shrink ?_
  refine CC.of_cw hX Tryz.func42 rfl rfl (Nat.le_of_ble_eq_true rfl) ?_
  refine CW.walk hX mixed d42 rfl ?_
  simp
  intro q3 hq3
  have hle3 : Le H (H.set q3 (.cells (unitC u))) := Le.set_new hq3
  have m3 : (H.set q3 (.cells (unitC u))) q3 = some (.cells (unitC u)) := set_at
  generalize H.set q3 _ = H1 at hle3 m3 ⊢
  simp only [unitC] at m3
  refine CW.walk hX mixed d42 rfl ?_
  simp [m3, hx, e4, blkC, htn, hsn]
  intro q8 hq8
  generalize hk : (blkAt u x).en = en at *
  have m8 : (H1.set q8 (.cells [ci en.kind, ci en.a, ci (tn : Int), ci (sn : Int)])) q8 = some (.cells [ci en.kind, ci en.a, ci (tn : Int), ci (sn : Int)]) := set_at
  have hle8 : Le H1 (H1.set q8 (.cells [ci en.kind, ci en.a, ci (tn : Int), ci (sn : Int)])) := Le.set_new hq8
  generalize H1.set q8 _ = H2 at m8 hle8 ⊢
  have m32 := hle8 _ _ m3
  have hle := hle3.trans hle8
  refine CW.walk hX mixed d42 rfl ?_
  simp
  refine CW.cut (fun s' H' => H' = H2 ∧ s'.env 2 = ci kind ∧ s'.env 3 = .ptr q3 0 ∧ s'.env 8 = .ptr q8 0 ∧ s'.env 9 = sdA u en kind ∧ s'.env 10 = .nilsl ∧ s'.ds = []) ?_ ?_
  · refine CW.walk1 hX mixed d42 rfl ?_
    by_cases k3 : kind = 3
    · simp [k3, sdA]
    · simp [k3, m32, m8, htl', e5, blkC, sdA, htn]
  rintro ⟨e, ds⟩ H3 ⟨rfl, e2, e3, e8, e9, e10, hds⟩
  dsimp only at e2 e3 e8 e9 e10 hds
  subst hds
  refine CW.cut (fun s' H' => H' = H3 ∧ s'.env 9 = sdA u en kind ∧ s'.env 10 = sdB u en kind ∧ s'.ds = []) ?_ ?_
  · refine CW.walk1 hX mixed d42 rfl ?_
    by_cases k3 : kind = 2
    · have e2' := e2
      rw [k3] at e2'
      simp [e2', e9, e10, sdB, k3]
    · simp [e2, e3, e8, e9, k3, m32, m8, hsl', e6, blkC, sdB, hsn]
  rintro ⟨e, ds⟩ H4 ⟨rfl, e9, e10, hds⟩
  dsimp only at e9 e10 hds
  subst hds
  refine CW.walk1 hX mixed d42 rfl ?_
  simp [e9, e10]
  exact hle
theorem shape_kinds (u : UUnit) (ord : List Nat) (x : Nat) : (shapeP u ord x).kind = 0 ∨ ((blkAt u x).en.kind = 2 ∧ (((shapeP u ord x).kind = 1 ∧ (shapeP u ord x).to = (blkAt u x).en.to ∧ (shapeP u ord x).or_ = (blkAt u x).en.els) ∨ ((shapeP u ord x).kind = 2 ∧ (shapeP u ord x).to = (blkAt u x).en.to ∧ (shapeP u ord x).or_ = -1) ∨ ((shapeP u ord x).kind = 3 ∧ (shapeP u ord x).to = -1 ∧ (shapeP u ord x).or_ = (blkAt u x).en.els))) := by
  simp only [shapeP]
  split
  · exact .inl rfl
  · rename_i h
    have hk : (blkAt u x).en.kind = 2 := Decidable.byContradiction fun h2 => h (.inl h2)
    split
    · exact .inr ⟨hk, .inl ⟨rfl, rfl, rfl⟩⟩
    · split
      · exact .inr ⟨hk, .inr (.inl ⟨rfl, rfl, rfl⟩)⟩
      · split
        · exact .inr ⟨hk, .inr (.inr ⟨rfl, rfl, rfl⟩)⟩
        · exact .inl rfl
theorem refSize_c (hX : CxOk (cx W G)) (u : UUnit) (hu : wfU u = true) {p c : Nat → Bool} (hp : PLeast (opsOf u) p c) (x : Nat) (hx : x < u.blocks.length) (H : Hp) :
    CC Tryz.prog W 18 [.agg (unitC u), .int .i64 x] H fun r H' => r = .ret (.tuple [ci (if (shapeP u (ordL (nextN u p) u.blocks.length) x).kind = 0 then 0 else (sizeP u (ordL (nextN u p) u.blocks.length) x : Int)), .bool (decide ((shapeP u (ordL (nextN u p) u.blocks.length) x).kind ≠ 0))]) ∧ H' = H := by
  have hsh := refShape_c hX u hu hp x hx
  generalize ordL (nextN u p) u.blocks.length = ord at hsh ⊢
  have hkx : u.blocks[x]? = some (blkAt u x) := by rw [blkAt, List.getD_eq_getElem?_getD, List.getElem?_eq_getElem hx]; rfl
  have hsk := shape_kinds u ord x
  have hsz : sizeP u ord x = (sideOps u (shapeP u ord x).to).length + (sideOps u (shapeP u ord x).or_).length := rfl
  obtain ⟨w1, w2, w3, w4, w5⟩ := wfE_facts (wfB_facts hu hkx).2.2.2
  have hsd := fun h k H => sides_c hX u hu x hx h k H
  have hsl : ∀ t : Int, 0 ≤ t → t < u.blocks.length → ((blkAt u t.toNat).ops.length ≤ 400 ∧ sideOps u t = (blkAt u t.toNat).ops) := fun t h0 h1 => by
    have hk : u.blocks[t.toNat]? = some (blkAt u t.toNat) := by rw [blkAt, List.getD_eq_getElem?_getD, List.getElem?_eq_getElem (by omega)]; rfl
    exact ⟨(wfB_facts hu hk).2.1, by simp [sideOps, show ¬ t < 0 by omega]⟩
  refine CC.shrink ?_
  refine CC.of_cw hX Tryz.func18 rfl rfl (Nat.le_of_ble_eq_true rfl) ?_
  refine CW.walk hX mixed d18 rfl ?_
  simp
  intro q2 hq2
  have hle2 : Le H (H.set q2 (.cells (unitC u))) := Le.set_new hq2
  have m2 : (H.set q2 (.cells (unitC u))) q2 = some (.cells (unitC u)) := set_at
  generalize H.set q2 _ = H1 at hle2 m2 ⊢
  simp only [unitC] at m2 hsh hsd
  rw [hsz]
  generalize shapeP u ord x = s at hsk hsh ⊢
  refine CW.walk hX mixed d18 rfl ?_
  simp [m2]
  refine (hsh H1).k ?_
  rintro r H2 ⟨rfl, rfl⟩
  simp [rshV]
  refine CW.walk hX mixed d18 rfl ?_
  rcases hsk with h0 | ⟨hk2, hk⟩
  · simp [h0]
    exact hle2
  have hne : ¬ s.kind = 0 := by omega
  simp [hne]
  refine CW.walk hX mixed d18 rfl ?_
  simp [m2]
  refine (hsd hk2 s.kind H2).k ?_
  rintro r H3 ⟨rfl, rfl⟩
  simp
  obtain ⟨a1, a2⟩ := w4 (.inr hk2)
  obtain ⟨b1, b2⟩ := w5 hk2
  obtain ⟨la, lb⟩ := hsl _ a1 a2
  obtain ⟨lc, ld⟩ := hsl _ b1 b2
  have hm1 : sideOps u (-1) = [] := by simp [sideOps]
  refine CW.walk1 hX mixed d18 rfl ?_
  rcases hk with ⟨h1, h2, h3⟩ | ⟨h1, h2, h3⟩ | ⟨h1, h2, h3⟩
  · rw [h2, h3, lb, ld]
    have hw : IntKind.i64.wrap (((blkAt u (blkAt u x).en.to.toNat).ops.length : Int) + ((blkAt u (blkAt u x).en.els.toNat).ops.length : Int)) = ((blkAt u (blkAt u x).en.to.toNat).ops.length : Int) + ((blkAt u (blkAt u x).en.els.toNat).ops.length : Int) := wrapI (by omega) (by omega)
    simp [sdA, sdB, h1, hw]
    exact hle2
  · rw [h2, h3, lb, hm1]
    have hw : IntKind.i64.wrap (((blkAt u (blkAt u x).en.to.toNat).ops.length : Int)) = ((blkAt u (blkAt u x).en.to.toNat).ops.length : Int) := wrapI (by omega) (by omega)
    simp [sdA, sdB, h1, hw]
    exact hle2
  · rw [h2, h3, ld, hm1]
    have hw : IntKind.i64.wrap (((blkAt u (blkAt u x).en.els.toNat).ops.length : Int)) = ((blkAt u (blkAt u x).en.els.toNat).ops.length : Int) := wrapI (by omega) (by omega)
    simp [sdA, sdB, h1, hw]
    exact hle2
end Go.Cl.Gu
set_option linter.unusedSimpArgs false
set_option linter.unusedVariables false
namespace Go.Cl.Gu
open Go.Proofs Go.Cl.Gd
variable {W : World} {G : Nat → CV}
set_option maxRecDepth 8000
set_option maxHeartbeats 1000000
theorem eqAll_op (x y : UOp) : eqAll (opC x) (opC y) = decide (x = y) := by
  rw [Bool.eq_iff_iff]
  cases x
  cases y
  simp [opC, eqAll]
theorem eqAll_end (x y : UEnd) : eqAll (endC x) (endC y) = decide (x = y) := by
  rw [Bool.eq_iff_iff]
  cases x
  cases y
  simp [endC, eqAll]
theorem neq_op {x y : UOp} {K : CV → Prop} (h : K (.bool (!decide (x = y)))) : vcBin tab .neq 74 (.agg (opC x)) (.agg (opC y)) K :=
  ⟨⟨_, _, tab_74, rfl, rfl, rfl, rfl⟩, by rw [eqAll_op]; exact h⟩
theorem neq_end {x y : UEnd} {K : CV → Prop} (h : K (.bool (!decide (x = y)))) : vcBin tab .neq 69 (.agg (endC x)) (.agg (endC y)) K :=
  ⟨⟨_, _, tab_69, rfl, rfl, rfl, rfl⟩, by rw [eqAll_end]; exact h⟩
theorem sameOps_c (hX : CxOk (cx W G)) (a b : List UOp) (hl : a.length ≤ 1000000) (H : Hp) : CC Tryz.prog W 59 [.sl 7 (a.map opC), .sl 7 (b.map opC)] H fun x H' => x = .ret (.bool (decide (a = b))) ∧ H' = H := by
  refine CC.of_cw hX Tryz.func59 rfl rfl (Nat.le_of_ble_eq_true rfl) ?_
  refine CW.walk hX mixed d59 rfl ?_
  simp
  by_cases hlen : a.length = b.length
  rotate_left
  · have hlen' : ¬ (a.length : Int) = b.length := by omega
    refine CW.walk hX mixed d59 rfl ?_
    simp [hlen']
    exact fun h => hlen (by rw [h])
  refine CW.walk hX mixed d59 rfl ?_
  simp [hlen]
  refine CW.cut (fun s' H' => a = b ∧ s'.ds = [] ∧ H' = H) ?_ ?_
  rotate_left
  · rintro ⟨e, ds⟩ H2 ⟨h, hds, rfl⟩
    dsimp only at hds
    subst hds
    refine CW.walk1 hX mixed d59 rfl ?_
    simp [h]
  refine CW.walk hX mixed d59 rfl ?_
  simp
  refine CW.block ?_
  refine CW.loop (fun m s' H' => ∃ i : Nat, m = a.length - i ∧ i ≤ a.length ∧ s'.env 0 = .sl 7 (a.map opC) ∧ s'.env 1 = .sl 7 (b.map opC) ∧ s'.env 5 = .int .i64 i ∧ s'.ds = [] ∧ H' = H ∧ a.take i = b.take i) ?_ (m := a.length) ⟨0, rfl, by omega, by simp, by simp, by simp, rfl, rfl, by simp⟩
  rintro m ⟨e, ds⟩ H2 ⟨i, rfl, hi, e0, e1, e5, hds, rfl, heq⟩
  dsimp only at e0 e1 e5 hds
  subst hds
  by_cases hil : i < a.length
  rotate_left
  · refine CW.walk hX mixed d59 rfl ?_
    simp [e0, e5, hil]
    rwa [List.take_of_length_le (by omega), List.take_of_length_le (by omega)] at heq
  obtain ⟨x, hx⟩ : ∃ x, a[i]? = some x := ⟨_, List.getElem?_eq_getElem hil⟩
  obtain ⟨y, hy⟩ : ∃ y, b[i]? = some y := ⟨_, List.getElem?_eq_getElem (by omega)⟩
  have hxe : a[i] = x := (List.getElem?_eq_some_iff.1 hx).2
  have hye : b[i]'(by omega) = y := (List.getElem?_eq_some_iff.1 hy).2
  have hxy := eqAll_op x y
  have hil2 : i < b.length := by omega
  refine CW.walk hX mixed d59 rfl ?_
  simp [e0, e5, hil]
  refine CW.walk hX mixed d59 rfl ?_
  have hl7 : ∀ o : UOp, (opC o).length = 7 := fun _ => rfl
  have ht7 : ∀ o : UOp, List.take 7 (opC o) = opC o := fun _ => rfl
  simp [d59, e0, e1, e5, hil, hil2, hxe, hye, hl7, ht7]
  refine neq_op ?_
  simp [d59]
  refine ⟨fun hne h => hne ?_, fun hxy' => ?_⟩
  · rw [h] at hx
    rw [hx] at hy
    injection hy
  refine CW.walk1 hX mixed d59 rfl ?_
  simp [e5]
  refine ⟨a.length - (i + 1), by omega, i + 1, by omega, by omega, by simp [e0], by simp [e1], by simp; rw [wrapI (by omega) (by omega)], ?_⟩
  rw [List.take_add_one, List.take_add_one, hx, hy, heq, hxy']
/-- A block's cells without its operations. -/
theorem blk_eq {x y : UBlk} : x = y ↔ x.ops = y.ops ∧ x.en = y.en ∧ x.catch_ = y.catch_ := by
  cases x
  cases y
  simp
theorem sameBlocks_c (hX : CxOk (cx W G)) (a b : List UBlk) (hl : a.length ≤ 1000000) (ho : ∀ k ∈ a, k.ops.length ≤ 1000000) (H : Hp) : CC Tryz.prog W 39 [.sl 6 (a.map blkC), .sl 6 (b.map blkC)] H fun x H' => x = .ret (.bool (decide (a = b))) ∧ H' = H := by
  refine CC.of_cw hX Tryz.func39 rfl rfl (Nat.le_of_ble_eq_true rfl) ?_
  refine CW.walk hX mixed d39 rfl ?_
  simp
  by_cases hlen : a.length = b.length
  rotate_left
  · have hlen' : ¬ (a.length : Int) = b.length := by omega
    refine CW.walk hX mixed d39 rfl ?_
    simp [hlen']
    exact fun h => hlen (by rw [h])
  refine CW.walk hX mixed d39 rfl ?_
  simp [hlen]
  refine CW.cut (fun s' H' => a = b ∧ s'.ds = [] ∧ H' = H) ?_ ?_
  rotate_left
  · rintro ⟨e, ds⟩ H2 ⟨h, hds, rfl⟩
    dsimp only at hds
    subst hds
    refine CW.walk1 hX mixed d39 rfl ?_
    simp [h]
  refine CW.walk hX mixed d39 rfl ?_
  simp
  refine CW.block ?_
  refine CW.loop (fun m s' H' => ∃ i : Nat, m = a.length - i ∧ i ≤ a.length ∧ s'.env 0 = .sl 6 (a.map blkC) ∧ s'.env 1 = .sl 6 (b.map blkC) ∧ s'.env 5 = .int .i64 i ∧ s'.ds = [] ∧ H' = H ∧ a.take i = b.take i) ?_ (m := a.length) ⟨0, rfl, by omega, by simp, by simp, by simp, rfl, rfl, by simp⟩
  rintro m ⟨e, ds⟩ H2 ⟨i, rfl, hi, e0, e1, e5, hds, rfl, heq⟩
  dsimp only at e0 e1 e5 hds
  subst hds
  by_cases hil : i < a.length
  rotate_left
  · refine CW.walk hX mixed d39 rfl ?_
    simp [e0, e5, hil]
    rwa [List.take_of_length_le (by omega), List.take_of_length_le (by omega)] at heq
  obtain ⟨x, hx⟩ : ∃ x, a[i]? = some x := ⟨_, List.getElem?_eq_getElem hil⟩
  obtain ⟨y, hy⟩ : ∃ y, b[i]? = some y := ⟨_, List.getElem?_eq_getElem (by omega)⟩
  have hxe : a[i] = x := (List.getElem?_eq_some_iff.1 hx).2
  have hye : b[i]'(by omega) = y := (List.getElem?_eq_some_iff.1 hy).2
  have hil2 : i < b.length := by omega
  refine CW.walk hX mixed d39 rfl ?_
  simp [e0, e5, hil]
  refine CW.walk hX mixed d39 rfl ?_
  simp [d39, e0, e1, e5, hil, hil2, hxe, hye, blkC]
  refine (sameOps_c hX x.ops y.ops (ho x (List.mem_of_getElem? hx)) H2).k ?_
  rintro r H3 ⟨rfl, rfl⟩
  have hend : ∀ e : UEnd, CV.agg [ci e.kind, ci e.a, ci e.to, ci e.els] = .agg (endC e) := fun _ => rfl
  by_cases h1 : x.ops = y.ops
  · simp [d39, e0, e1, e5, hil, hil2, hxe, hye, blkC, h1]
    refine neq_end (x := x.en) (y := y.en) ?_
    by_cases h2 : x.en = y.en
    · by_cases h3 : x.catch_ = y.catch_
      · have hxy : x = y := blk_eq.2 ⟨h1, h2, h3⟩
        simp [d39, e0, e1, e5, hil, hil2, hxe, hye, blkC, h1, h2, h3]
        refine CW.walk1 hX mixed d39 rfl ?_
        simp [e5]
        refine ⟨a.length - (i + 1), by omega, i + 1, by omega, by omega, by simp [e0], by simp [e1], by simp; rw [wrapI (by omega) (by omega)], ?_⟩
        rw [List.take_add_one, List.take_add_one, hx, hy, heq, hxy]
      · simp [d39, e0, e1, e5, hil, hil2, hxe, hye, blkC, h1, h2, h3]
        intro h
        rw [h] at hx
        rw [hx] at hy
        injection hy with hy
        exact h3 (by rw [hy])
    · simp [d39, e0, e1, e5, hil, hil2, hxe, hye, blkC, h1, h2]
      intro h
      rw [h] at hx
      rw [hx] at hy
      injection hy with hy
      exact h2 (by rw [hy])
  · simp [d39, e0, e1, e5, hil, hil2, hxe, hye, blkC, h1]
    intro h
    rw [h] at hx
    rw [hx] at hy
    injection hy with hy
    exact h1 (by rw [hy])
theorem unit_eq {x y : UUnit} : x = y ↔ x.sizes = y.sizes ∧ x.params = y.params ∧ x.regs = y.regs ∧ x.code = y.code ∧ x.spill = y.spill ∧ x.blocks = y.blocks := by
  cases x
  cases y
  simp
theorem same_c (hX : CxOk (cx W G)) (a b : UUnit) (hs : a.sizes.length ≤ 1000000) (hl : a.blocks.length ≤ 1000000) (ho : ∀ k ∈ a.blocks, k.ops.length ≤ 1000000) (H : Hp) : CC Tryz.prog W 13 [.agg (unitC a), .agg (unitC b)] H fun x H' => x = .ret (.bool (decide (a = b))) ∧ H' = H := by
  refine CC.shrink ?_
  refine CC.of_cw hX Tryz.func13 rfl rfl (Nat.le_of_ble_eq_true rfl) ?_
  refine CW.walk hX mixed d13 rfl ?_
  simp
  intro q2 hq2 q3 h32 h23 hq3
  have m2 : ((H.set q2 (.cells (unitC a))).set q3 (.cells (unitC b))) q2 = some (.cells (unitC a)) := by rw [hset_ne h23]; exact set_at
  have m3 : ((H.set q2 (.cells (unitC a))).set q3 (.cells (unitC b))) q3 = some (.cells (unitC b)) := set_at
  have hle : Le H ((H.set q2 (.cells (unitC a))).set q3 (.cells (unitC b))) := (Le.set_new hq2).trans (Le.set_new (by rw [hset_none_iff]; exact ⟨h32, hq3⟩))
  generalize (H.set q2 (.cells (unitC a))).set q3 (.cells (unitC b)) = H1 at m2 m3 hle ⊢
  simp only [unitC] at m2 m3
  refine CW.walk hX mixed d13 rfl ?_
  by_cases c0 : a.sizes.length = b.sizes.length
  rotate_left
  · have c0' : ¬ (a.sizes.length : Int) = b.sizes.length := by omega
    simp [m2, m3, c0']
    exact ⟨hle, fun h => c0 (by rw [h])⟩
  by_cases c1 : a.params = b.params
  rotate_left
  · simp [m2, m3, c0, c1]
    exact ⟨hle, fun h => c1 (by rw [h])⟩
  by_cases c2 : a.regs = b.regs
  rotate_left
  · simp [m2, m3, c0, c1, c2]
    exact ⟨hle, fun h => c2 (by rw [h])⟩
  by_cases c3 : a.code = b.code
  rotate_left
  · simp [m2, m3, c0, c1, c2, c3]
    exact ⟨hle, fun h => c3 (by rw [h])⟩
  by_cases c4 : a.spill = b.spill
  rotate_left
  · simp [m2, m3, c0, c1, c2, c3, c4]
    exact ⟨hle, fun h => c4 (by rw [h])⟩
  simp [m2, m3, c0, c1, c2, c3, c4]
  have hun : a = b ↔ a.sizes = b.sizes ∧ a.blocks = b.blocks := by
    rw [unit_eq]
    exact ⟨fun h => ⟨h.1, h.2.2.2.2.2⟩, fun h => ⟨h.1, c1, c2, c3, c4, h.2⟩⟩
  rw [c1, c2, c3, c4] at m2
  refine CW.cut (fun s' H' => a.sizes = b.sizes ∧ s'.env 2 = .ptr q2 0 ∧ s'.env 3 = .ptr q3 0 ∧ s'.ds = [] ∧ H' = H1) ?_ ?_
  rotate_left
  · rintro ⟨e, ds⟩ H2 ⟨h, e2, e3, hds, rfl⟩
    dsimp only at hds e2 e3
    subst hds
    refine CW.walk hX mixed d13 rfl ?_
    simp [e2, e3, m2, m3]
    refine (sameBlocks_c hX a.blocks b.blocks hl ho H2).k ?_
    rintro r H3 ⟨rfl, rfl⟩
    simp
    refine CW.walk1 hX mixed d13 rfl ?_
    simp
    exact ⟨hle, by rw [hun]; exact ⟨fun q => ⟨h, q⟩, fun q => q.2⟩⟩
  refine CW.walk hX mixed d13 rfl ?_
  simp
  refine CW.block ?_
  refine CW.loop (fun m s' H' => ∃ i : Nat, m = a.sizes.length - i ∧ i ≤ a.sizes.length ∧ s'.env 2 = .ptr q2 0 ∧ s'.env 3 = .ptr q3 0 ∧ s'.env 5 = .int .i64 i ∧ s'.ds = [] ∧ H' = H1 ∧ a.sizes.take i = b.sizes.take i) ?_ (m := a.sizes.length) ⟨0, rfl, by omega, by simp, by simp, by simp, rfl, rfl, by simp⟩
  rintro m ⟨e, ds⟩ H2 ⟨i, rfl, hi, e2, e3, e5, hds, rfl, heq⟩
  dsimp only at e2 e3 e5 hds
  subst hds
  by_cases hil : i < a.sizes.length
  rotate_left
  · refine CW.walk hX mixed d13 rfl ?_
    simp [e2, e5, m2, hil]
    rw [List.take_of_length_le (by omega), List.take_of_length_le (by omega)] at heq
    exact ⟨heq, e3⟩
  obtain ⟨x, hx⟩ : ∃ x, a.sizes[i]? = some x := ⟨_, List.getElem?_eq_getElem hil⟩
  obtain ⟨y, hy⟩ : ∃ y, b.sizes[i]? = some y := ⟨_, List.getElem?_eq_getElem (by omega)⟩
  have hxe : a.sizes[i] = x := (List.getElem?_eq_some_iff.1 hx).2
  have hye : b.sizes[i]'(by omega) = y := (List.getElem?_eq_some_iff.1 hy).2
  have hil2 : i < b.sizes.length := by omega
  refine CW.walk hX mixed d13 rfl ?_
  simp [e2, e5, m2, hil]
  refine CW.walk hX mixed d13 rfl ?_
  by_cases hxy : x = y
  · simp [d13, e2, e3, e5, m2, m3, hil, hil2, hxe, hye, hxy]
    refine CW.walk1 hX mixed d13 rfl ?_
    simp [e5]
    refine ⟨a.sizes.length - (i + 1), by omega, i + 1, by omega, by omega, by simp [e2], by simp [e3], by simp; rw [wrapI (by omega) (by omega)], ?_⟩
    rw [List.take_add_one, List.take_add_one, hx, hy, heq, hxy]
  · simp [d13, e2, e3, e5, m2, m3, hil, hil2, hxe, hye, hxy]
    refine ⟨hle, fun h => hxy ?_⟩
    rw [h] at hx
    rw [hx] at hy
    injection hy
end Go.Cl.Gu
set_option linter.unusedSimpArgs false
set_option linter.unusedVariables false
namespace Go.Cl.Gu
open Go.Proofs Go.Cl.Gd
variable {W : World} {G : Nat → CV}
set_option maxRecDepth 8000
set_option maxHeartbeats 1000000
theorem cut16_ok (u : UUnit) : CutOk (cutU u 16 60) := by
  refine ⟨by simp [cutU]; omega, by simp [cutU]; omega, fun b hb => ?_⟩
  simp only [cutU, List.mem_map] at hb
  obtain ⟨i, _, rfl⟩ := hb
  simp only [cutBlk]
  have := List.length_take_le (remO u.blocks 60 i).toNat (u.blocks.getD i dB).ops
  have := (remO_bd (u := u) (O := 60) i).2
  omega
theorem cut16_c (hX : CxOk (cx W G)) (u : UUnit) (H : Hp) : CC Tryz.prog W 10 [.agg (unitC u)] H fun x H' => ∃ cs, x = .ret (.agg cs) ∧ Le H H' ∧ UV H' cs (cutU u 16 60) := by
  refine CC.of_cw hX Tryz.func10 rfl rfl (Nat.le_of_ble_eq_true rfl) ?_
  refine CW.walk hX mixed d10 rfl ?_
  simp
  intro q1 hq1 q2 h21 h12 hq2
  generalize hH1 : (H.set q1 _).set q2 _ = H1
  have hle : Le H H1 := by rw [← hH1]; exact (Le.set_new hq1).trans (Le.set_new (by simp [Hp.set, h21, hq2]))
  have m2 : H1 q2 = some (.cells [.nilsl, ci 0, ci 0, ci 0, ci 0, .nilsl]) := by rw [← hH1]; exact set_at
  have m1 : H1 q1 = some (.cells (unitC u)) := by rw [← hH1, hset_ne h12]; exact set_at
  clear hH1
  have hH1 : (hole H1 q2).set q2 (.cells [.nilsl, ci 0, ci 0, ci 0, ci 0, .nilsl]) = H1 := hole_set m2
  have hc := (cut_c hX u 16 60 (by omega) (by omega) (hole H1 q2)).frame (r := q2) (ob := .cells [.nilsl, ci 0, ci 0, ci 0, ci 0, .nilsl]) hole_at
  rw [hH1] at hc
  simp only [unitC] at hc m1
  refine CW.walk hX mixed d10 rfl ?_
  simp [m1]
  refine hc.k ?_
  rintro x G2 ⟨H2, h2, rfl, cs, rfl, hle2, huv⟩
  have hl6 := huv.l
  have hn : Le H2 (H2.set q2 (.cells cs)) := Le.set_new h2
  simp [hl6]
  refine CW.walk1 hX mixed d10 rfl ?_
  simp [hl6]
  rw [List.take_of_length_le (by omega)]
  exact ⟨((le_hole hle hq2).trans hle2).trans hn, huv.mono hn⟩
theorem there_f (hX : CxOk (cx W G)) {u : UUnit} (hu : UOk u) {H : Hp} {cs : List CV} (hv : UV H cs u) (b : Int) : CC Tryz.prog W 17 [.agg cs, ci b] H fun x H' => x = .ret (ci (thereE u b)) ∧ H' = H := by
  obtain ⟨w0, w5, rfl, hbr⟩ := hv.b
  refine CC.shrink ?_
  refine CC.of_cw hX Tryz.func17 rfl rfl (Nat.le_of_ble_eq_true rfl) ?_
  refine CW.walk hX mixed d17 rfl ?_
  simp
  intro q2 hq2
  have hle : Le H (H.set q2 (.cells [w0, ci u.params, ci u.regs, ci u.code, ci u.spill, w5])) := Le.set_new hq2
  have m2 : (H.set q2 (.cells [w0, ci u.params, ci u.regs, ci u.code, ci u.spill, w5])) q2 = some (.cells [w0, ci u.params, ci u.regs, ci u.code, ci u.spill, w5]) := set_at
  generalize H.set q2 _ = H1 at hle m2 ⊢
  have hv1 := hv.mono hle
  refine CW.walk hX mixed d17 rfl ?_
  simp [m2]
  refine (check24_f hX hu hv1.f).k ?_
  rintro x H2 ⟨rfl, rfl⟩
  by_cases he : errU u = 0
  rotate_left
  · simp [he]
    exact ⟨hle, by simp [thereE, he]⟩
  simp [he]
  refine CW.walk hX mixed d17 rfl ?_
  by_cases hb0 : b < 0
  · simp [m2, hb0]
    exact ⟨hle, by simp [thereE, he, hb0]⟩
  have hw : wfU u = true := errU_wf.1 he
  obtain ⟨f1, f2, f3, f4, f5, f6, f7, f8, f9, f10, f11⟩ := wfU_facts hw
  obtain ⟨rb, cb, rfl⟩ : ∃ r c, w5 = .ref r 0 u.blocks.length c := by
    rcases hbr with ⟨_, h0⟩ | ⟨r, c, cs, h, _⟩
    · rw [h0] at f7; simp at f7
    · exact ⟨r, c, h⟩
  by_cases hb1 : (u.blocks.length : Int) ≤ b
  · simp [m2, hb0, hb1]
    exact ⟨hle, by simp [thereE, he, hb0, hb1]⟩
  · simp [m2, hb0, hb1]
    refine CW.walk1 hX mixed d17 rfl ?_
    simp
    exact ⟨hle, by simp [thereE, he, hb0, hb1]⟩
theorem same_f (hX : CxOk (cx W G)) {a b : UUnit} (ha : CutOk a) {H : Hp} {cs cs' : List CV} (hf : Fz H (.agg cs) (.agg (unitC a))) (hf' : Fz H (.agg cs') (.agg (unitC b))) : CC Tryz.prog W 13 [.agg cs, .agg cs'] H fun x H' => x = .ret (.bool (decide (a = b))) ∧ H' = H := by
  refine (CC.freeze (args' := [.agg (unitC a), .agg (unitC b)]) (R := fun v => v = .bool (decide (a = b))) (by rfl) (fz2 hf hf') (by rintro v rfl; simp [plainV]) fun w hw => ?_).mono ?_
  · have h1 := ha.sz
    have h2 := ha.bl
    exact (same_c (W := w) (CxOk.later hX hw) a b (by omega) (by omega) ha.op _).mono fun x H' ⟨h1, _⟩ => ⟨_, h1, rfl⟩
  · rintro x H' ⟨v, rfl, rfl, rfl⟩
    exact ⟨rfl, rfl⟩
end Go.Cl.Gu
