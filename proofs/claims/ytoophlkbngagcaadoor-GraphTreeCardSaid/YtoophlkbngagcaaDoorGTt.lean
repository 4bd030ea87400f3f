/- DERIVED HERE. GraphTree: the law. -/
import Derived.Test.YtoophlkbngagcaaDoorHB
import Derived.Test.YtoophlkbngagcaaDoorHX
import Derived.Test.YtoophlkbngagcaaDoorCP
set_option linter.unusedSimpArgs false
set_option linter.unusedVariables false
namespace Go.Cl.Gd
open Go.Proofs
variable {W : World} {G : Nat → CV}
set_option maxRecDepth 8000
set_option maxHeartbeats 1000000
structure trI (I : Nat → Option Nat) (order : List Nat) (vl : CV) (H : Hp) (M n len : Nat) (t : Bool) (d m : Nat) (s' : CA) (H' : Hp) : Prop where
  ex : ∃ (i i18 : Nat) (o : Option Nat) (met : Bool), m = len + 1 - i ∧ i ≤ len ∧ i18 + d = i ∧ s'.env 8 = .int .i64 M ∧ s'.env 10 = vl ∧ s'.env 12 = .bool t ∧ s'.env 16 = .bool met ∧ s'.env 17 = ci (oI o) ∧ s'.env 18 = .int .i64 i18 ∧ s'.ds = [] ∧ H' = H ∧ (∀ x, o = some x → x ∈ order ∧ rkOf order x + i ≤ rkOf order n) ∧ (Anc I M n ↔ met = true ∨ ∃ x, o = some x ∧ Anc I M x)
structure trX (I : Nat → Option Nat) (H : Hp) (M n : Nat) (t : Bool) (s' : CA) (H' : Hp) : Prop where
  ex : ∃ met : Bool, s'.env 12 = .bool t ∧ s'.env 16 = .bool met ∧ s'.env 17 = ci (-1) ∧ s'.ds = [] ∧ H' = H ∧ (Anc I M n ↔ met = true)
theorem ordL_len0 {N : Nat → List Nat} {n : Nat} (h0 : 0 < n) (hN : ∀ b, b < n → ∀ k ∈ N b, k < n) : (ordL N n).length ≤ n := by
  have h := ord_of (N := N) h0 hN (f := n) (Nat.le_refl _)
  exact nodup_le n _ h.nd h.lt
theorem uv_six' {H : Hp} {cs : List CV} {u : UUnit} (h : UV H cs u) (h0 : 0 < u.blocks.length) : ∃ o0 r c, cs = [o0, ci u.params, ci u.regs, ci u.code, ci u.spill, .ref r 0 u.blocks.length c] := by
  obtain ⟨v0, v5, h1, h2⟩ := h.b
  rcases h2 with ⟨_, h2⟩ | ⟨r, c, ds, h2, _⟩
  · rw [h2] at h0; simp at h0
  · exact ⟨v0, r, c, by rw [h1, h2]⟩
theorem uv_six0 {H : Hp} {cs : List CV} {u : UUnit} (h : UV H cs u) : ∃ o0 o5, cs = [o0, ci u.params, ci u.regs, ci u.code, ci u.spill, o5] := by
  obtain ⟨v0, v5, h1, _⟩ := h.b
  exact ⟨v0, v5, h1⟩
theorem graphTree_c (hX : CxOk (cx W G)) (hG : G 0 = .iptr formsC) (u0 : UUnit) {a b : Nat} (ha : a < 256) (hb : b < 256) (H : Hp) : CC Tryd.prog W 5 [.agg (unitC u0), .int .u8 a, .int .u8 b] H fun x H' => x = .ret (.bool true) ∧ H' = H := by
  refine CC.shrink ?_
  refine CC.of_cw hX Tryd.func5 rfl rfl (Nat.le_of_ble_eq_true rfl) ?_
  refine CW.walk hX mixed d5 rfl ?_
  simp
  intro q3 hq3
  have hle1 : Le H (H.set q3 (.cells (unitC u0))) := Le.set_new hq3
  have m1 : (H.set q3 (.cells (unitC u0))) q3 = some (.cells (unitC u0)) := set_at
  generalize H.set q3 _ = H1 at hle1 m1 ⊢
  have hc := cut80_c hX u0 H1
  have hok := cut80_ok u0
  simp only [unitC] at m1 hc
  refine CW.walk hX mixed d5 rfl ?_
  simp [d5, m1]
  refine hc.k ?_
  rintro x H2 ⟨csO, rfl, hle2, hvO⟩
  clear hc m1
  generalize hcu : cutU u0 80 2000 = u at hvO hok
  have hUO := cutOk_uok hok
  have hnl : u.blocks.length ≤ 80 := by rw [← hcu]; simp [cutU]; omega
  obtain ⟨o0, o5, rfl⟩ := uv_six0 hvO
  simp [d5]
  intro q7 hq7
  have hle3 : Le H2 (H2.set q7 (.cells [o0, ci u.params, ci u.regs, ci u.code, ci u.spill, o5])) := Le.set_new hq7
  have m3 : (H2.set q7 (.cells [o0, ci u.params, ci u.regs, ci u.code, ci u.spill, o5])) q7 = some (.cells [o0, ci u.params, ci u.regs, ci u.code, ci u.spill, o5]) := set_at
  generalize H2.set q7 _ = H3 at hle3 m3 ⊢
  have hv := hvO.mono hle3
  have hle := (hle1.trans hle2).trans hle3
  clear hvO hle1 hle2 hle3
  refine CW.walk hX mixed d5 rfl ?_
  simp [m3]
  refine (right_f hX hG hok hv.f).k ?_
  rintro x H4 ⟨rfl, rfl⟩
  by_cases hw : wfU u = true
  rotate_left
  · simp [hw]
    refine (alive_c hX hG _).k ?_
    rintro x H5 ⟨rfl, rfl⟩
    simp
    exact hle
  have he : errU u = 0 := errU_wf.2 hw
  have h0 : 0 < u.blocks.length := by obtain ⟨f1, f2, f3, f4, f5, f6, f7, f8, f9, f10, f11⟩ := wfU_facts hw; omega
  obtain ⟨o0', r5, c5, h5⟩ := uv_six' hv h0
  obtain ⟨rfl, rfl⟩ : o0 = o0' ∧ o5 = .ref r5 0 u.blocks.length c5 := by
    injection h5 with e1 h5; injection h5 with _ h5; injection h5 with _ h5; injection h5 with _ h5; injection h5 with _ h5; injection h5 with h5
    exact ⟨e1, h5⟩
  obtain ⟨m, hda, hna⟩ : ∃ m : Nat, (a : Int).tmod (u.blocks.length : Int) = (m : Int) ∧ m < u.blocks.length := ⟨a % u.blocks.length, rfl, Nat.mod_lt _ h0⟩
  obtain ⟨n, hdb, hnb⟩ : ∃ n : Nat, (b : Int).tmod (u.blocks.length : Int) = (n : Int) ∧ n < u.blocks.length := ⟨b % u.blocks.length, rfl, Nat.mod_lt _ h0⟩
  simp [hw]
  refine CW.walk hX mixed d5 rfl ?_
  have hwa : IntKind.i64.wrap (a : Int) = a := wrapI (by omega) (by omega)
  have hwb : IntKind.i64.wrap (b : Int) = b := wrapI (by omega) (by omega)
  simp [d5, m3, hwa, hwb, hda, hdb]
  refine ⟨fun e => by rw [e] at h0; simp at h0, ?_⟩
  refine CW.walk hX mixed d5 rfl ?_
  simp [m3]
  refine (idom_f hX hG hUO hv.f).k ?_
  rintro x H5 ⟨hA, hle5⟩
  obtain ⟨p, c, I, vl, hp, hDI, rfl, hsl⟩ := hA.ok he
  have m5 := hle5 _ _ m3
  have hv5 := hv.mono hle5
  simp
  refine CW.walk hX mixed d5 rfl ?_
  simp [m5]
  refine (dominates_f hX hG hUO (m : Int) (n : Int) hv5.f).k ?_
  rintro x H6 ⟨v6, rfl, hB, rfl⟩
  have ho : (outB u.blocks.length (m : Int) || outB u.blocks.length (n : Int)) = false := by
    rw [Bool.or_eq_false_iff]
    exact ⟨outB_no.2 ⟨m, rfl, hna⟩, outB_no.2 ⟨n, rfl, hnb⟩⟩
  obtain ⟨p2, c2, t, hp2, rfl, ht⟩ := hB.ok he ho
  obtain ⟨rfl, rfl⟩ := hp.unique hp2
  simp only [Int.toNat_natCast] at ht
  simp
  refine CW.walk hX mixed d5 rfl ?_
  simp [m5]
  refine (order_f hX hG hUO hv5.f).k ?_
  rintro x H7 ⟨hC, hle7⟩
  obtain ⟨p3, c3, vo, hp3, rfl, hso⟩ := hC.ok he
  obtain ⟨rfl, rfl⟩ := hp.unique hp3
  have hsl := hsl.mono hle7
  have m7 := hle7 _ _ m5
  have hle := (hle.trans hle5).trans hle7
  clear hv5 hv m5 m3 hA hB hC hle5 hle7
  simp
  have hil : (idL u.blocks.length I).length = u.blocks.length := by simp [idL]
  obtain ⟨rl, cl, csl, rfl, hrl, hcl⟩ : ∃ r c cs, vl = .ref r 0 u.blocks.length c ∧ H7 r = some (.cells cs) ∧ ∀ k, k < u.blocks.length → cs[k]? = some (ci (oI (I k))) := by
    rcases hsl with ⟨_, h1⟩ | ⟨r, c, cs, h1, h2, h3⟩
    · have := congrArg List.length h1; rw [hil, List.length_nil] at this; omega
    · rw [hil] at h1
      exact ⟨r, _, cs, h1, h2, fun k hk => h3 k _ (by simp [idL, hk])⟩
  have hO := ord_of (N := nextN u p) h0 nextN_lt (f := u.blocks.length) (Nat.le_refl _)
  have hol := ordL_len0 h0 (nextN_lt (u := u) (p := p))
  refine CW.walk hX mixed d5 rfl ?_
  simp [d5, m7]
  refine CW.walk hX mixed d5 rfl ?_
  simp
  refine (hasQ_f hX (n : Int) hso (by rw [natL_len]; omega)).k ?_
  rintro x H8 ⟨rfl, rfl⟩
  have hmemn : decide ((n : Int) ∈ natL (ordL (nextN u p) u.blocks.length)) = decide (n ∈ ordL (nextN u p) u.blocks.length) := by
    rw [decide_eq_decide]; exact natL_mem
  rw [hmemn]
  have hcn := hcl n hnb
  by_cases hno : n ∈ ordL (nextN u p) u.blocks.length
  rotate_left
  · have ht0 : t = false := by
      cases t with
      | false => rfl
      | true => exact absurd (hDI.dom.1 (ht.1 rfl)).1 hno
    have hIn : I n = none := by
      cases hI : I n with
      | none => rfl
      | some y => exact absurd (hDI.di.c n y hI).1 hno
    rw [hIn] at hcn
    simp [hno, ht0, hrl, hcn, hnb, oI]
    refine (alive_c hX hG _).k ?_
    rintro x H9 ⟨rfl, rfl⟩
    simp
    exact hle
  have hrn := rkOf_lt hno
  simp [hno]
  refine CW.walk hX mixed d5 rfl ?_
  simp
  refine CW.walk hX mixed d5 rfl ?_
  simp
  refine CW.cut (trX I H8 m n t) ?_ ?_
  · refine CW.walk hX mixed d5 rfl ?_
    simp
    refine CW.block ?_
    refine CW.loop (trI I (ordL (nextN u p) u.blocks.length) (.ref rl 0 u.blocks.length cl) H8 m n u.blocks.length t 0) ?_ (m := u.blocks.length + 1) ⟨0, 0, some n, false, rfl, by omega, rfl, by simp, by simp, by simp, by simp, by simp [oI], by simp, rfl, rfl, fun x e => by injection e with e; subst e; exact ⟨hno, by omega⟩, by simp⟩
    rintro k ⟨e, ds⟩ HK ⟨i, i18, o, met, rfl, hi, hi18, e8, e10, e12, e16, e17, e18, rfl, rfl, ho, hiff⟩
    obtain rfl : i18 = i := by omega
    dsimp only at e8 e10 e12 e16 e17 e18
    cases o with
    | none =>
      simp only [oI] at e17
      refine CW.walk hX mixed d5 rfl ?_
      simp [d5, e10, e17, e18, show (i18 : Int) ≤ u.blocks.length by omega]
      exact ⟨met, by simp [e12], by simp [e16], by simp [e17], rfl, rfl, by rw [hiff]; simp⟩
    | some x =>
      simp only [oI] at e17
      obtain ⟨hxo, hrk⟩ := ho x rfl
      have hxn := hO.lt x hxo
      have hrx := rkOf_lt hxo
      have hcx := hcl x hxn
      have hIlt : oI (I x) < u.blocks.length ∧ -1 ≤ oI (I x) := by
        cases hI : I x with
        | none => simp [oI]; omega
        | some y =>
          have := hO.lt y (hDI.di.c x y hI).2.1
          simp [oI]; omega
      refine CW.walk hX mixed d5 rfl ?_
      simp [d5, e10, e17, e18, show (i18 : Int) ≤ u.blocks.length by omega]
      refine CW.cut (trI I (ordL (nextN u p) u.blocks.length) (.ref rl 0 u.blocks.length cl) HK m n u.blocks.length t 1 (u.blocks.length + 1 - (i18 + 1))) ?_ ?_
      · have hAx : Anc I m x ↔ x = m ∨ ∃ y, I x = some y ∧ Anc I m y := by
          constructor
          · intro h
            cases h with
            | refl => exact .inl rfl
            | step e k => exact .inr ⟨_, e, k⟩
          · rintro (rfl | ⟨y, e, k⟩)
            · exact .refl
            · exact .step e k
        have hfin : ∀ (en : Env) (met' : Bool), (met' = true ↔ met = true ∨ x = m) → en 8 = .int .i64 m → en 10 = .ref rl 0 u.blocks.length cl → en 12 = .bool t → en 16 = .bool met' → en 17 = ci (oI (I x)) → en 18 = .int .i64 i18 → trI I (ordL (nextN u p) u.blocks.length) (.ref rl 0 u.blocks.length cl) HK m n u.blocks.length t 1 (u.blocks.length + 1 - (i18 + 1)) ⟨en, []⟩ HK := fun en met' hm g8 g10 g12 g16 g17 g18 => by
          refine ⟨i18 + 1, i18, I x, met', rfl, by omega, rfl, g8, g10, g12, g16, g17, g18, rfl, rfl, fun y hy => ?_, ?_⟩
          · obtain ⟨_, h2, h3, _⟩ := hDI.di.c x y hy
            exact ⟨h2, by omega⟩
          · rw [hiff, hm]
            constructor
            · rintro (h | ⟨z, hz, hz2⟩)
              · exact .inl (.inl h)
              · injection hz with hz
                subst hz
                rcases hAx.1 hz2 with h | h
                · exact .inl (.inr h)
                · exact .inr h
            · rintro ((h | h) | h)
              · exact .inl h
              · exact .inr ⟨x, rfl, hAx.2 (.inl h)⟩
              · exact .inr ⟨x, rfl, hAx.2 (.inr h)⟩
        refine CW.block ?_
        cases met with
        | true =>
          refine CW.walk hX mixed d5 rfl ?_
          simp [d5, e16]
          refine CW.walk hX mixed d5 rfl ?_
          simp [e10, e17, hxn, hrl, hcx, show ¬ (u.blocks.length : Int) ≤ oI (I x) by omega]
          refine CW.walk1 hX mixed d5 rfl ?_
          simp [e10, e17, hxn, hrl, hcx]
          rw [show u.blocks.length - i18 = u.blocks.length + 1 - (i18 + 1) by omega]
          exact hfin _ true (by simp) (by simp [e8]) (by simp [e10]) (by simp [e12]) (by simp) (by simp) (by simp [e18])
        | false =>
          by_cases hxm : x = m
          · refine CW.walk hX mixed d5 rfl ?_
            simp [d5, e8, e16, e17, hxm]
            subst hxm
            refine CW.walk hX mixed d5 rfl ?_
            simp [e10, e17, hxn, hrl, hcx, show ¬ (u.blocks.length : Int) ≤ oI (I x) by omega]
            refine CW.walk1 hX mixed d5 rfl ?_
            simp [e10, e17, hxn, hrl, hcx]
            rw [show u.blocks.length - i18 = u.blocks.length + 1 - (i18 + 1) by omega]
            exact hfin _ true (by simp) (by simp [e8]) (by simp [e10]) (by simp [e12]) (by simp) (by simp) (by simp [e18])
          · have hxmi : ¬ (x : Int) = (m : Int) := by omega
            have hxmb : ((x : Int) == (m : Int)) = false := by simp [hxmi]
            refine CW.walk hX mixed d5 rfl ?_
            simp [d5, e8, e16, e17, hxmi, hxmb]
            refine CW.walk hX mixed d5 rfl ?_
            simp [e10, e17, hxn, hrl, hcx, show ¬ (u.blocks.length : Int) ≤ oI (I x) by omega]
            refine CW.walk1 hX mixed d5 rfl ?_
            simp [e10, e17, hxn, hrl, hcx]
            rw [show u.blocks.length - i18 = u.blocks.length + 1 - (i18 + 1) by omega]
            exact hfin _ false (by simp [hxm]) (by simp [e8]) (by simp [e10]) (by simp [e12]) (by simp) (by simp) (by simp [e18])
      clear e8 e10 e12 e16 e17 e18
      rintro ⟨e, ds⟩ HL ⟨i, i18', o, met', hii, hi2, hi18, e8, e10, e12, e16, e17, e18, rfl, rfl, ho2, hiff2⟩
      dsimp only at e8 e10 e12 e16 e17 e18
      obtain rfl : i = i18 + 1 := by omega
      obtain rfl : i18' = i18 := by omega
      refine CW.walk1 hX mixed d5 rfl ?_
      simp [e18]
      exact ⟨u.blocks.length + 1 - (i18' + 1), by omega, i18' + 1, i18' + 1, o, met', rfl, hi2, rfl, by simp [e8], by simp [e10], by simp [e12], by simp [e16], by simp [e17], by simp; exact wrapI (by omega) (by omega), rfl, rfl, ho2, hiff2⟩
  rintro ⟨e, ds⟩ HK ⟨met, e12, e16, e17, rfl, rfl, hiff⟩
  dsimp only at e12 e16 e17
  have hmt : met = t := by
    rw [Bool.eq_iff_iff, ht, hDI.dom, ← hiff]
    exact ⟨fun h => ⟨hno, h⟩, fun h => h.2⟩
  subst hmt
  refine CW.walk1 hX mixed d5 rfl ?_
  simp [e12, e16, e17]
  refine (alive_c hX hG _).k ?_
  rintro x H9 ⟨rfl, rfl⟩
  simp
  exact hle
end Go.Cl.Gd
