/- DERIVED HERE. The checker: a unit. -/
import Derived.Test.YtiohgpapgkjfiaaGreatDoorCC1
import Derived.Test.YtiohgpapgkjfiaaGreatDoorPM
set_option linter.unusedSimpArgs false
set_option linter.unusedVariables false
namespace Go.Cl
open Go.Proofs
variable {W : World} {G : Nat → CV}
set_option maxRecDepth 8000
/-- A unit that can be looked at: its numbers are ones. -/
structure UOk (u : UUnit) : Prop where
  sz : u.sizes.length ≤ 1000000
  bl : u.blocks.length ≤ 100000
  op : ∀ b ∈ u.blocks, b.ops.length ≤ 1000000
  kd : ∀ b ∈ u.blocks, ∀ o ∈ b.ops, Kd o.kind
def cut0 (H : Hp) (r : Nat) : Hp := fun i => if i = r then none else H i
structure uM (H : Hp) (u : UUnit) (r q2 : Nat) (s' : CA) (H' : Hp) : Prop where
  e0 : s'.env 0 = .ptr r 0
  e2 : s'.env 2 = .ptr q2 0
  d : s'.ds = []
  hr : ∃ b a, H' r = some (.cells (chkC u b a))
  h2 : H' q2 = some (.cells (unitC u))
  n2 : q2 ≠ r
  le : Le (cut0 H r) H'
structure bM (H : Hp) (u : UUnit) (r q2 q5 i c3 : Nat) (k : UBlk) (s' : CA) (H' : Hp) : Prop where
  e0 : s'.env 0 = .ptr r 0
  e2 : s'.env 2 = .ptr q2 0
  e3 : s'.env 3 = .int .i64 c3
  e5 : s'.env 5 = .ptr q5 0
  e81 : s'.env 81 = .sl 6 (u.blocks.map blkC)
  e82 : s'.env 82 = .int .i64 u.blocks.length
  e83 : s'.env 83 = .int .i64 i
  d : s'.ds = []
  hr : ∃ b a, H' r = some (.cells (chkC u b a))
  h2 : H' q2 = some (.cells (unitC u))
  h5 : H' q5 = some (.cells (blkC k))
  n2 : q2 ≠ r
  n5 : q5 ≠ r
  n52 : q5 ≠ q2
  le : Le (cut0 H r) H'
def lI (H : Hp) (u : UUnit) (r q2 j : Nat) (s' : CA) (H' : Hp) : Prop := ∃ i, i ≤ u.blocks.length ∧ j = u.blocks.length - i ∧ uM H u r q2 s' H' ∧ s'.env 3 = .int .i64 (off u i) ∧ s'.env 81 = .sl 6 (u.blocks.map blkC) ∧ s'.env 82 = .int .i64 u.blocks.length ∧ s'.env 83 = .int .i64 i ∧ ∀ j k, j < i → u.blocks[j]? = some k → wfBlk u k = true
def lE (H : Hp) (u : UUnit) (r q2 : Nat) (s' : CA) (H' : Hp) : Prop := uM H u r q2 s' H' ∧ s'.env 3 = .int .i64 (opsOf u).length ∧ ∀ k ∈ u.blocks, wfBlk u k = true
def lO (H : Hp) (u : UUnit) (r q2 q5 i : Nat) (k : UBlk) (j : Nat) (s' : CA) (H' : Hp) : Prop := ∃ t, t ≤ k.ops.length ∧ j = k.ops.length - t ∧ bM H u r q2 q5 i (off u i) k s' H' ∧ s'.env 118 = .sl 7 (k.ops.map opC) ∧ s'.env 119 = .int .i64 k.ops.length ∧ s'.env 120 = .int .i64 t ∧ ∀ j o, j < t → k.ops[j]? = some o → wfOp u o = true
theorem cut0_put {H H' : Hp} {r : Nat} {o : Ob} (h : Le (cut0 H r) H') : Le (cut0 H r) (H'.set r o) := fun i x hi => by
  have hi' := hi
  simp only [cut0] at hi
  split at hi
  · cases hi
  · rename_i hne
    simp only [Hp.set, if_neg hne]
    exact h i x hi'
def BadU (u : UUnit) (x : CE) : Prop := wfU u = false ∧ ∃ b a, Bad (errU u) b a x
theorem off_le {u : UUnit} (hu : UOk u) : ∀ i, i ≤ u.blocks.length → off u i ≤ i * 1000000
  | 0, _ => by simp [off]
  | i + 1, h => by
    have := off_le hu i (by omega)
    have hk : u.blocks[i]? = some u.blocks[i] := List.getElem?_eq_getElem (by omega)
    have := hu.op _ (List.mem_of_getElem? hk)
    rw [off_succ hk]
    omega
structure Bef (u : UUnit) (i : Nat) : Prop where
  h1 : wfHead u = true
  h2 : wfSizes u = true
  h3 : wfNums u = true
  a : ∀ j k, j < i → u.blocks[j]? = some k → wfBlk u k = true
theorem badB {u : UUnit} {k : UBlk} {i : Nat} (hB : Bef u i) (hk : u.blocks[i]? = some k) (b a e : Int) (he : e ≠ 0) (h : errBlk u k = e) : BadU u (.panic (faultV b a e)) := by
  have hn : errBlk u k ≠ 0 := by rw [h]; exact he
  have h0 := errBlks_at hk hB.a hn
  have h1 : errU u = e := by
    simp only [errU, hB.h1, hB.h2, hB.h3, h0, h]
    simp [he]
  refine ⟨?_, b, a, .of h1 he⟩
  cases hw : wfU u
  · rfl
  · rw [errU_wf.2 hw] at h1; exact absurd h1.symm he
set_option maxHeartbeats 2000000 in
theorem unit_c (hX : CxOk (cx W G)) (hG : G 0 = .iptr formsC) (u : UUnit) (hu : UOk u) (r : Nat) (H : Hp) (hr : H r = some (.cells (chkC u 0 0))) : CC Tryz.prog W 99 [.ptr r 0] H fun x H' => ((wfU u = true ∧ x = .ret (.tuple [])) ∨ BadU u x) ∧ Le (cut0 H r) H' := by
  refine CC.of_cw hX Tryz.func99 rfl rfl (Nat.le_of_ble_eq_true rfl) ?_
  have hr' := hr
  simp only [chkC, unitC] at hr'
  refine CW.walk hX mixed d99 rfl ?_
  simp [hr']
  intro q2 hq2
  have hr2 : r ≠ q2 := fun e => by rw [← e, hr] at hq2; cases hq2
  have hst : uM H u r q2 ⟨env0 [.ptr r 0], []⟩ H → True := fun _ => trivial
  generalize hH1 : H.set q2 _ = H1
  have hle : Le (cut0 H r) H1 := by
    rw [← hH1]
    intro i o hi
    simp only [cut0] at hi
    split at hi
    · cases hi
    · exact Le.set_new hq2 i o hi
  have m2 : H1 q2 = some (.cells (unitC u)) := by rw [← hH1]; simp [unitC]
  have mr : H1 r = some (.cells (chkC u 0 0)) := by rw [← hH1]; simp [hr2, hr]
  clear hH1
  refine CW.cut (fun s' H' => uM H u r q2 s' H' ∧ wfHead u = true) ?_ ?_
  · refine CW.walk1 hX mixed d99 rfl ?_
    have m2' := m2
    simp only [unitC] at m2'
    simp (config := {maxSteps := 8000000}) [m2']
    have hbad : wfHead u = false → BadU u (.panic (faultV 0 0 3)) := fun h => ⟨by simp [wfU, h], 0, 0, .of (by simp [errU, h]) (by omega)⟩
    repeat' (first | intro _ | apply And.intro)
    all_goals
      refine (must_c hX u 0 0 3 r _ _ mr).k ?_
      rintro x H3 ⟨rfl, ⟨k, rfl⟩ | ⟨k, rfl⟩⟩
      · first
          | (exfalso; revert k; simp; done)
          | (simp at k ⊢; exact ⟨⟨by simp, by simp, rfl, ⟨0, 0, mr⟩, m2, Ne.symm hr2, hle⟩, by simp [wfHead]; omega⟩)
          | (simp; exact ⟨⟨by simp, by simp, rfl, ⟨0, 0, mr⟩, m2, Ne.symm hr2, hle⟩, by simp [wfHead]; omega⟩)
      · first
          | (exfalso; revert k; simp; done)
          | (simp at k ⊢; exact ⟨hbad (by simp [wfHead]; omega), hle⟩)
          | (simp; exact ⟨hbad (by simp [wfHead]; omega), hle⟩)
  rintro ⟨e, ds⟩ H1 ⟨⟨e0, e2, rfl, ⟨b, a, mr⟩, m2, hr2, hle⟩, k1⟩
  have hsz16 : u.sizes.length ≤ 16 := by simp [wfHead] at k1; omega
  have hbl2 : u.blocks.length ≤ 2000 := by simp [wfHead] at k1; omega
  dsimp only at e0 e2
  have m2' := m2
  simp only [unitC] at m2'
  refine CW.walk hX mixed d99 rfl ?_
  simp [e0, e2, m2']
  refine (containsFunc_c hX (.sl 1 (ints u.sizes)) u.sizes 116 [] [] (fun n => decide (n < 1) || decide (65536 < n)) H1 (.inl rfl) hu.sz fun x hx => unit1_c hX x H1).k ?_
  rintro x H3 ⟨rfl, rfl⟩
  simp
  refine (must_c hX u b a 2 r _ _ mr).k ?_
  have hsz : wfSizes u = !(u.sizes.any fun n => decide (n < 1) || decide (65536 < n)) := by
    simp only [wfSizes]
    rw [List.not_any_eq_all_not]
  rintro x H4 ⟨rfl, ⟨k, rfl⟩ | ⟨k, rfl⟩⟩
  rotate_left
  · simp
    exact ⟨⟨by simp only [wfU, hsz, k]; simp, b, a, .of (by simp only [errU, k1, hsz, k]; simp) (by omega)⟩, hle⟩
  have k2 : wfSizes u = true := by rw [hsz]; exact k
  simp
  have mr' := mr
  simp only [chkC, unitC] at mr'
  refine CW.cut (fun s' H' => uM H u r q2 s' H' ∧ wfNums u = true) ?_ ?_
  · refine CW.walk1 hX mixed d99 rfl ?_
    simp (config := {maxSteps := 8000000}) [e0, e2, m2']
    have hbad : wfNums u = false → BadU u (.panic (faultV b a 2)) := fun h => ⟨by simp [wfU, h], b, a, .of (by simp [errU, k1, k2, h]) (by omega)⟩
    repeat' (first | intro _ | apply And.intro)
    all_goals first
      | (refine (must_c hX u b a 2 r _ _ mr).k ?_
         rintro x H3 ⟨rfl, ⟨k, rfl⟩ | ⟨k, rfl⟩⟩
         · cases k
         · simp
           exact ⟨hbad (by simp [wfNums, inR]; omega), hle⟩)
      | (refine (within_c hX u.code u.regs _).k ?_
         rintro x H3 ⟨rfl, rfl⟩
         simp
         refine (must_c hX u b a 2 r _ _ mr).k ?_
         rintro x H5 ⟨rfl, ⟨k, rfl⟩ | ⟨k, rfl⟩⟩
         · simp
           exact ⟨⟨by simp [e0], by simp [e2], rfl, ⟨b, a, mr⟩, m2, hr2, hle⟩, by simp [wfNums, k]; omega⟩
         · simp
           exact ⟨hbad (by simp [wfNums, k]), hle⟩)
  clear e0 e2
  clear e
  rintro ⟨e, ds⟩ H2 ⟨⟨e0, e2, rfl, ⟨b1, a1, mr⟩, m2, hr2, hle⟩, k3⟩
  dsimp only at e0 e2
  clear mr' m2'
  have mr' := mr
  have m2' := m2
  simp only [unitC] at m2'
  simp only [chkC, unitC] at mr'
  refine CW.walk hX mixed d99 rfl ?_
  simp [e0, e2, m2']
  refine CW.cut (lE H u r q2) ?_ ?_
  · refine CW.walk hX mixed d99 rfl ?_
    simp [e0, e2, m2']
    refine CW.walk1 hX mixed d99 rfl ?_
    simp
    refine CW.loop (lI H u r q2) ?_ (m := u.blocks.length) ⟨0, by omega, by omega, ⟨by simp [e0], by simp [e2], rfl, ⟨b1, a1, mr⟩, m2, hr2, hle⟩, by simp [off], by simp, by simp, by simp, fun j k hj => absurd hj (by omega)⟩
    clear e0 e2 mr mr' m2 m2' hle
    clear e b1 a1 H2
    rintro j ⟨e, ds⟩ H2 ⟨i, hi, rfl, ⟨e0, e2, rfl, ⟨b1, a1, mr⟩, m2, hr2, hle⟩, e3, e81, e82, e83, hall⟩
    dsimp only at e0 e2 e3 e81 e82 e83
    refine CW.walk hX mixed d99 rfl ?_
    simp [e82, e83]
    refine CW.walk hX mixed d99 rfl ?_
    simp
    refine ⟨fun hil => ?_, fun hil => ?_⟩
    · refine CW.cut (fun s' H' => ∃ q5 k, u.blocks[i]? = some k ∧ bM H u r q2 q5 i (off u (i + 1)) k s' H' ∧ wfBlk u k = true) ?_ ?_
      · refine CW.block ?_
        obtain ⟨k, hke⟩ : ∃ k, u.blocks[i] = k := ⟨_, rfl⟩
        have hk : u.blocks[i]? = some k := by rw [List.getElem?_eq_getElem hil, hke]
        have hkm : k ∈ u.blocks := List.mem_of_getElem? hk
        have hB : Bef u i := ⟨k1, k2, k3, hall⟩
        refine CW.walk hX mixed d99 rfl ?_
        simp [e0, e2, e81, e82, e83, hil, hke, blkC]
        intro q5 hq5
        have n5 : q5 ≠ r := fun e => by rw [e, mr] at hq5; cases hq5
        have n52 : q5 ≠ q2 := fun e => by rw [e, m2] at hq5; cases hq5
        have mr' := mr
        simp only [chkC, unitC] at mr'
        refine CW.cut (bM H u r q2 q5 i (off u i) k) ?_ ?_
        · refine CW.walk1 hX mixed d99 rfl ?_
          simp [d99, e0, mr', Ne.symm n5]
          refine ⟨by simp [stabI, Stab, IsV, n5], ?_⟩
          exact ⟨by simp [e0], by simp [e2], by simp [e3], by simp, by simp [e81], by simp [e82], by simp [e83], rfl, ⟨i, k.ops.length, by simp [chkC, unitC]⟩, by simp [hr2, Ne.symm n52, m2], by simp [n5, blkC], hr2, n5, n52, cut0_put (hle.trans (Le.set_new hq5))⟩
        clear e0 e2 e3 e81 e82 e83 mr m2 hle mr' hq5 n5 n52
        clear e b1 a1 H2
        rintro ⟨e, ds⟩ H2 ⟨e0, e2, e3, e5, e81, e82, e83, rfl, ⟨b1, a1, mr⟩, m2, m5, n2, n5, n52, hle⟩
        dsimp only at e0 e2 e3 e5 e81 e82 e83
        have mr' := mr
        simp only [chkC, unitC] at mr'
        have m5' := m5
        simp only [blkC] at m5'
        refine CW.cut (fun s' H' => bM H u r q2 q5 i (off u i) k s' H' ∧ (decide (k.catch_ = -1) || inR k.catch_ u.blocks.length) = true) ?_ ?_
        · refine CW.walk1 hX mixed d99 rfl ?_
          have m2' := m2
          simp only [unitC] at m2'
          simp [e0, e2, e5, m5', mr', m2']
          have hbad : (decide (k.catch_ = -1) || inR k.catch_ u.blocks.length) = false → errBlk u k = 2 := fun h => by simp only [errBlk, h]; rfl
          refine ⟨fun h => ?_, fun h => ?_⟩
          · refine (must_c hX u b1 a1 2 r _ _ mr).k ?_
            rintro x H4 ⟨rfl, ⟨h4, rfl⟩ | ⟨h4, rfl⟩⟩
            · simp
              exact ⟨⟨by simp [e0], by simp [e2], by simp [e3], by simp [e5], by simp [e81], by simp [e82], by simp [e83], rfl, ⟨b1, a1, mr⟩, m2, m5, n2, n5, n52, hle⟩, by simp [h]⟩
            · cases h4
          · refine (within_c hX k.catch_ u.blocks.length _).k ?_
            rintro x H4 ⟨rfl, rfl⟩
            simp
            refine (must_c hX u b1 a1 2 r _ _ mr).k ?_
            rintro x H5 ⟨rfl, ⟨h4, rfl⟩ | ⟨h4, rfl⟩⟩
            · simp
              exact ⟨⟨by simp [e0], by simp [e2], by simp [e3], by simp [e5], by simp [e81], by simp [e82], by simp [e83], rfl, ⟨b1, a1, mr⟩, m2, m5, n2, n5, n52, hle⟩, by simp [h4]⟩
            · simp
              exact ⟨badB hB hk _ _ _ (by omega) (hbad (by simp [h, h4])), hle⟩
        clear e0 e2 e3 e5 e81 e82 e83 mr m2 m5 n2 n5 n52 hle mr' m5'
        clear e b1 a1 H2
        rintro ⟨e, ds⟩ H2 ⟨⟨e0, e2, e3, e5, e81, e82, e83, rfl, ⟨b1, a1, mr⟩, m2, m5, n2, n5, n52, hle⟩, j1⟩
        dsimp only at e0 e2 e3 e5 e81 e82 e83
        have mr' := mr
        simp only [chkC, unitC] at mr'
        have m5' := m5
        simp only [blkC] at m5'
        refine CW.cut (fun s' H' => bM H u r q2 q5 i (off u i) k s' H' ∧ k.ops.length ≤ 400) ?_ ?_
        · refine CW.walk1 hX mixed d99 rfl ?_
          simp [e0, e5, m5', mr']
          refine (must_c hX u b1 a1 3 r _ _ mr).k ?_
          rintro x H4 ⟨rfl, ⟨h4, rfl⟩ | ⟨h4, rfl⟩⟩
          · simp
            exact ⟨⟨by simp [e0], by simp [e2], by simp [e3], by simp [e5], by simp [e81], by simp [e82], by simp [e83], rfl, ⟨b1, a1, mr⟩, m2, m5, n2, n5, n52, hle⟩, by simp at h4; omega⟩
          · simp
            exact ⟨badB hB hk _ _ _ (by omega) (by simp at h4; simp only [errBlk, j1]; simp; omega), hle⟩
        clear e0 e2 e3 e5 e81 e82 e83 mr m2 m5 n2 n5 n52 hle mr' m5'
        clear e b1 a1 H2
        rintro ⟨e, ds⟩ H2 ⟨⟨e0, e2, e3, e5, e81, e82, e83, rfl, ⟨b1, a1, mr⟩, m2, m5, n2, n5, n52, hle⟩, j2⟩
        dsimp only at e0 e2 e3 e5 e81 e82 e83
        have mr' := mr
        simp only [chkC, unitC] at mr'
        have m5' := m5
        simp only [blkC] at m5'
        refine CW.cut (fun s' H' => bM H u r q2 q5 i (off u i) k s' H' ∧ ∀ o ∈ k.ops, wfOp u o = true) ?_ ?_
        · refine CW.walk hX mixed d99 rfl ?_
          simp [e0, e5, m5', mr']
          refine CW.walk1 hX mixed d99 rfl ?_
          simp
          refine CW.loop (lO H u r q2 q5 i k) ?_ (m := k.ops.length) ⟨0, by omega, by omega, ⟨by simp [e0], by simp [e2], by simp [e3], by simp [e5], by simp [e81], by simp [e82], by simp [e83], rfl, ⟨b1, a1, mr⟩, m2, m5, n2, n5, n52, hle⟩, by simp, by simp, by simp, fun j o hj => absurd hj (by omega)⟩
          clear e0 e2 e3 e5 e81 e82 e83 mr m2 m5 n2 n5 n52 hle mr' m5'
          clear e b1 a1 H2
          rintro j ⟨e, ds⟩ H2 ⟨t, ht, rfl, ⟨e0, e2, e3, e5, e81, e82, e83, rfl, ⟨b1, a1, mr⟩, m2, m5, n2, n5, n52, hle⟩, e118, e119, e120, hall2⟩
          dsimp only at e0 e2 e3 e5 e81 e82 e83 e118 e119 e120
          have mr' := mr
          simp only [chkC, unitC] at mr'
          refine vw_sound hX mixed (D := d99) _ _ _ _ (by kernel_rfl) ?_
          by_cases htl : t < k.ops.length
          · obtain ⟨o, hoe⟩ : ∃ o, k.ops[t] = o := ⟨_, rfl⟩
            have ho : k.ops[t]? = some o := by rw [List.getElem?_eq_getElem htl, hoe]
            have hom : o ∈ k.ops := List.mem_of_getElem? ho
            simp [e0, e118, e119, e120, htl, hoe, opC]
            intro q7 hq7
            have n7 : r ≠ q7 := fun e => by rw [← e, mr] at hq7; cases hq7
            simp [mr', n7, Ne.symm n7]
            have hco := op_c hX hG u b1 t r o (hu.kd k hkm o hom) hsz16 hbl2 ((H2.set q7 (.cells (opC o))).set r (.cells (chkC u b1 t))) set_at
            simp only [opC, chkC, unitC] at hco
            refine hco.k ?_
            rintro x H4 ⟨⟨h4, rfl⟩ | ⟨h4, ⟨hee, rfl⟩⟩, rfl⟩
            · simp [e0, e118, e119, e120]
              refine ⟨k.ops.length - (t + 1), by omega, t + 1, by omega, rfl, ⟨by simp [e0], by simp [e2], by simp [e3], by simp [e5], by simp [e81], by simp [e82], by simp [e83], rfl, ⟨b1, t, by simp [chkC, unitC]⟩, ?_, ?_, n2, n5, n52, cut0_put (hle.trans (Le.set_new hq7))⟩, by simp [e118], by simp [e119], by simp; rw [wrapI (by omega) (by omega)], ?_⟩
              · have : q2 ≠ q7 := fun e => by rw [← e, m2] at hq7; cases hq7
                simp [n2, this, m2]
              · have : q5 ≠ q7 := fun e => by rw [← e, m5] at hq7; cases hq7
                simp [n5, this, m5]
              · intro j o' hj hoj
                rcases Nat.lt_or_ge j t with h | h
                · exact hall2 j o' h hoj
                · have : j = t := by omega
                  subst this
                  rw [ho] at hoj
                  injection hoj with hoj
                  rw [← hoj]
                  exact h4
            · simp
              refine ⟨badB hB hk _ _ _ hee ?_, cut0_put (hle.trans (Le.set_new hq7))⟩
              have := errOps_at ho hall2 hee
              simp only [errBlk, j1, this, hee]
              simp [j2, hee]
              exact fun q => absurd q (by omega)
          · have : t = k.ops.length := by omega
            subst this
            simp [e118, e119, e120]
            exact ⟨⟨by simp [e0], by simp [e2], by simp [e3], by simp [e5], by simp [e81], by simp [e82], by simp [e83], rfl, ⟨b1, a1, mr⟩, m2, m5, n2, n5, n52, hle⟩, fun o ho => by
              obtain ⟨j, hj, hoj⟩ := List.mem_iff_getElem.1 ho
              exact hall2 j o hj (by rw [List.getElem?_eq_getElem hj, hoj])⟩
        clear e0 e2 e3 e5 e81 e82 e83 mr m2 m5 n2 n5 n52 hle mr' m5'
        clear e b1 a1 H2
        rintro ⟨e, ds⟩ H2 ⟨⟨e0, e2, e3, e5, e81, e82, e83, rfl, ⟨b1, a1, mr⟩, m2, m5, n2, n5, n52, hle⟩, j3⟩
        dsimp only at e0 e2 e3 e5 e81 e82 e83
        have mr' := mr
        simp only [chkC, unitC] at mr'
        have m5' := m5
        simp only [blkC] at m5'
        refine CW.cut (bM H u r q2 q5 i (off u i) k) ?_ ?_
        · refine CW.walk1 hX mixed d99 rfl ?_
          simp [e0, e5, m5', mr', Ne.symm n5]
          exact ⟨by simp [e0], by simp [e2], by simp [e3], by simp [e5], by simp [e81], by simp [e82], by simp [e83], rfl, ⟨b1, k.ops.length, by simp [chkC, unitC]⟩, by simp [n2, m2], by simp [n5, m5], n2, n5, n52, cut0_put hle⟩
        clear e0 e2 e3 e5 e81 e82 e83 mr m2 m5 n2 n5 n52 hle mr' m5'
        clear e b1 a1 H2
        rintro ⟨e, ds⟩ H2 ⟨e0, e2, e3, e5, e81, e82, e83, rfl, ⟨b1, a1, mr⟩, m2, m5, n2, n5, n52, hle⟩
        dsimp only at e0 e2 e3 e5 e81 e82 e83
        have mr' := mr
        simp only [chkC, unitC] at mr'
        have m5' := m5
        simp only [blkC] at m5'
        refine CW.cut (fun s' H' => bM H u r q2 q5 i (off u i) k s' H' ∧ wfEnd u k.en = true) ?_ ?_
        · refine CW.walk1 hX mixed d99 rfl ?_
          simp [e0, e5, m5', mr']
          refine (endChk_c hX u b1 a1 r k.en H2 mr).k ?_
          rintro x H4 ⟨⟨h4, rfl⟩ | ⟨h4, ⟨hee, rfl⟩⟩, rfl⟩
          · simp
            exact ⟨⟨by simp [e0], by simp [e2], by simp [e3], by simp [e5], by simp [e81], by simp [e82], by simp [e83], rfl, ⟨b1, a1, mr⟩, m2, m5, n2, n5, n52, hle⟩, h4⟩
          · simp
            exact ⟨badB hB hk _ _ _ hee (by have h0 := errOps_wf.2 (List.all_eq_true.2 j3); simp only [errBlk, j1, h0]; simp [j2]; exact fun q => absurd q (by omega)), hle⟩
        clear e0 e2 e3 e5 e81 e82 e83 mr m2 m5 n2 n5 n52 hle mr' m5'
        clear e b1 a1 H2
        rintro ⟨e, ds⟩ H2 ⟨⟨e0, e2, e3, e5, e81, e82, e83, rfl, ⟨b1, a1, mr⟩, m2, m5, n2, n5, n52, hle⟩, j4⟩
        dsimp only at e0 e2 e3 e5 e81 e82 e83
        have mr' := mr
        simp only [chkC, unitC] at mr'
        have m5' := m5
        simp only [blkC] at m5'
        refine CW.walk1 hX mixed d99 rfl ?_
        simp [e0, e3, e5, m5', mr']
        have hop := hu.op k hkm
        have hbl := hu.bl
        have hoff := off_le hu i (by omega)
        exact ⟨q5, k, hk, ⟨by simp [e0], by simp [e2], by simp; rw [wrapI (by omega) (by omega), off_succ hk]; simp, by simp [e5], by simp [e81], by simp [e82], by simp [e83], rfl, ⟨b1, a1, mr⟩, m2, m5, n2, n5, n52, hle⟩, by simp only [wfBlk, j1, j4, Bool.true_and, Bool.and_true, Bool.and_eq_true, decide_eq_true_eq, List.all_eq_true]; exact ⟨j2, j3⟩⟩
      clear e0 e2 e3 e81 e82 e83 mr m2 hle
      clear e b1 a1 H2
      rintro ⟨e, ds⟩ H2 ⟨q5, k, hk, ⟨e0, e2, e3, e5, e81, e82, e83, rfl, ⟨b1, a1, mr⟩, m2, m5, n2, n5, n52, hle⟩, hwk⟩
      dsimp only at e0 e2 e3 e5 e81 e82 e83
      refine CW.walk1 hX mixed d99 rfl ?_
      simp [e83]
      refine ⟨u.blocks.length - (i + 1), by omega, i + 1, by omega, rfl, ⟨by simp [e0], by simp [e2], rfl, ⟨b1, a1, mr⟩, m2, n2, hle⟩, by simp [e3], by simp [e81], by simp [e82], by simp; rw [wrapI (by omega) (by omega)], fun j k' hj hkj => ?_⟩
      rcases Nat.lt_or_ge j i with h | h
      · exact hall j k' h hkj
      · have : j = i := by omega
        subst this
        rw [hk] at hkj
        injection hkj with hkj
        rw [← hkj]
        exact hwk
    · have : i = u.blocks.length := by omega
      subst this
      rw [off_all] at e3
      exact ⟨⟨by simp [e0], by simp [e2], rfl, ⟨b1, a1, mr⟩, m2, hr2, hle⟩, by simp [e3], fun k hk => by
        obtain ⟨j, hj, hkj⟩ := List.mem_iff_getElem.1 hk
        exact hall j k hj (by rw [List.getElem?_eq_getElem hj, hkj])⟩
  clear e0 e2 mr mr' m2 m2' hle
  clear e b1 a1 H2
  rintro ⟨e, ds⟩ H2 ⟨⟨e0, e2, rfl, ⟨b1, a1, mr⟩, m2, hr2, hle⟩, e3, hall⟩
  dsimp only at e0 e2 e3
  have mr' := mr
  simp only [chkC, unitC] at mr'
  refine CW.walk hX mixed d99 rfl ?_
  simp [e0, e2, mr']
  refine CW.walk1 hX mixed d99 rfl ?_
  simp [e0, e3]
  refine (must_c hX u 0 0 3 r _ _ (by simp [chkC, unitC])).k ?_
  have hall' : u.blocks.all (wfBlk u) = true := by rw [List.all_eq_true]; exact hall
  rintro x H4 ⟨rfl, ⟨h4, rfl⟩ | ⟨h4, rfl⟩⟩
  · simp
    simp at h4
    exact ⟨.inl (by simp only [wfU, k1, k2, k3, hall', Bool.true_and, decide_eq_true_eq]; omega), cut0_put hle⟩
  · simp
    simp at h4
    exact ⟨⟨by simp only [wfU, k1, k2, k3, hall', Bool.true_and, decide_eq_false_iff_not]; omega, 0, 0, .of (by simp only [errU, k1, k2, k3, errBlks_wf.2 hall']; simp; omega) (by omega)⟩, cut0_put hle⟩
end Go.Cl
