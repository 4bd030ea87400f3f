/- DERIVED HERE. The reference's Told, Outcomes, Run; own. -/
import Derived.Test.YtfkdjajpopocpaaDoorEI
set_option linter.unusedSimpArgs false
set_option linter.unusedVariables false
namespace Go.Cl
open Go.Proofs Dd
variable {W : World} {G : Nat → CV}
set_option maxRecDepth 8000
set_option maxHeartbeats 4000000
structure owI (H : Hp) (n : Nat) (A : List Int) (r d : Nat) (j : Nat) (s' : CA) (H' : Hp) : Prop where
  ex : ∃ (i i6 : Nat) (L : List Int), i ≤ n ∧ j = n - i ∧ s'.env 1 = .sl 1 (ints A) ∧ s'.env 5 = .ref r 0 n n ∧ s'.env 6 = .int .i64 i6 ∧ i6 + d = i ∧ s'.ds = [] ∧ L.length = n ∧ H' r = some (.cells (L.map fun m => ci m)) ∧ Le H H'
structure oxI (H : Hp) (n r : Nat) (s' : CA) (H' : Hp) : Prop where
  ex : ∃ (L : List Int), s'.env 5 = .ref r 0 n n ∧ s'.ds = [] ∧ L.length = n ∧ H' r = some (.cells (L.map fun m => ci m)) ∧ Le H H'
theorem own9_c (hX : CxOk (cx W G)) (u : UUnit) (hw : wfU u = true) (x0 x5 : CV) (A : List Int) (H : Hp) : CC Tryd.prog W 9 [.agg [x0, ci u.params, ci u.regs, ci u.code, ci u.spill, x5], .sl 1 (ints A)] H fun x H' => ∃ (r : Nat) (L : List Int), x = .ret (.ref r 0 L.length L.length) ∧ Le H H' ∧ H' r = some (.cells (L.map fun n => ci n)) ∧ L.length = u.params.toNat := by
  have hpa : 0 ≤ u.params ∧ u.params ≤ 8 := by
    simp only [wfU, wfNums, Bool.and_eq_true, decide_eq_true_eq] at hw
    omega
  obtain ⟨n, hn⟩ := Int.eq_ofNat_of_zero_le hpa.1
  have hn8 : n ≤ 8 := by omega
  rw [hn]
  refine CC.of_cw hX Tryd.func9 rfl rfl (Nat.le_of_ble_eq_true rfl) ?_
  refine CW.walk hX mixed d9 rfl ?_
  simp [d9]
  intro r2 n2
  refine CW.walk hX mixed d9 rfl ?_
  simp [d9]
  refine ⟨by omega, by omega, fun r q1 q2 n3 => ?_⟩
  simp only [zero1]
  refine CW.cut (oxI H n r) ?_ ?_
  · refine CW.walk hX mixed d9 rfl ?_
    simp
    refine CW.block ?_
    refine CW.loop (owI H n A r 0) ?_ (m := n) ⟨0, 0, List.replicate n 0, by omega, rfl, by simp, by simp, by simp, rfl, rfl, by simp, by simp, (Le.set_new n2).trans (Le.set_new (by rw [hset_ne q1]; exact n3))⟩
    rintro j ⟨en, ds⟩ H2 ⟨i, i6, L, hi, rfl, e1, e5, e6, hi6, rfl, hL, mr, hle⟩
    obtain rfl : i = i6 := by omega
    dsimp only at e1 e5 e6
    have n3' := n3
    by_cases hex : i < n ∧ i < A.length
    · obtain ⟨h1, h2⟩ := hex
      refine CW.walk hX mixed d9 rfl ?_
      simp [e1, e5, e6, h1, h2, ints]
      refine CW.cut (owI H n A r 1 (n - (i + 1))) ?_ ?_
      · refine CW.block ?_
        refine CW.walk1 hX mixed d9 rfl ?_
        simp [e1, e5, e6, h1, h2, mr, hL, ints]
        refine ⟨by omega, i + 1, i, L.set i A[i], h1, rfl, by simp [e1, ints], by simp [e5], by simp [e6], rfl, rfl, by simpa using hL, ?_, hle.put n3'⟩
        rw [set_at, List.map_set, List.set_eq_take_append_cons_drop, if_pos (by simp; omega)]
      · rintro ⟨en, ds⟩ H3 ⟨i', i6, L', hi', hj', e1, e5, e6, hi6, rfl, hL', mr', hle'⟩
        dsimp only at e1 e5 e6
        refine CW.walk1 hX mixed d9 rfl ?_
        simp [e6]
        exact ⟨n - (i + 1), by omega, i', i', L', hi', hj', by simp [e1], by simp [e5], by simp; rw [wrapI (by omega) (by omega)]; omega, rfl, rfl, hL', mr', hle'⟩
    · have fin : ∀ en : Env, en 5 = .ref r 0 n n → oxI H n r ⟨en, []⟩ H2 := fun en g5 => ⟨L, g5, rfl, hL, mr, hle⟩
      refine CW.walk hX mixed d9 rfl ?_
      by_cases h1 : i < n
      · have h2 : A.length ≤ i := by omega
        simp [e1, e5, e6, h1, h2, ints]
        exact ⟨fun k => absurd k (by omega), fin _ (by simp [e5])⟩
      · simp [e1, e5, e6, h1, ints]
        exact fin _ (by simp [e5])
  rintro ⟨en, ds⟩ H2 ⟨L, e5, rfl, hL, mr, hle⟩
  dsimp only at e5
  refine CW.walk1 hX mixed d9 rfl ?_
  simp [e5]
  exact ⟨r, L, by rw [hL]; exact ⟨rfl, rfl⟩, hle, mr, hL⟩
theorem told16_c (hX : CxOk (cx W G)) {B H : Hp} {lab κ : Nat → Nat} {a : EV} {u : UUnit} {e : Eng} (h : EH B H lab κ a u e) (hp : e.out.prints.length ≤ 1000000) : CC Tryd.prog W 16 [.ptr a.q 0] H fun x H' => ∃ v, x = .ret (.agg [v, ci e.out.kind, ci e.out.value]) ∧ Own H H' v 1 (ints e.out.prints) := by
  have hq := h.hq
  simp only [engC] at hq
  refine CC.of_cw hX Tryd.func16 rfl rfl (Nat.le_of_ble_eq_true rfl) ?_
  refine CW.walk hX mixed d16 rfl ?_
  simp [d16]
  intro r2 n2
  have hne2 : a.q ≠ r2 := fun k => by rw [k, n2] at hq; cases hq
  refine CW.walk hX mixed d16 rfl ?_
  simp [d16, hq, hne2]
  intro r q1 q2 n3
  have hne3 : a.q ≠ r := fun k => by rw [k, n3] at hq; cases hq
  generalize hH1 : Hp.set _ r _ = H1
  have hle : Le H H1 := by rw [← hH1]; exact (Le.set_new n2).trans (Le.set_new (by rw [hset_ne q1]; exact n3))
  have mr : H1 r = some (.cells [a.vP, ci e.out.kind, ci e.out.value]) := by rw [← hH1]; exact set_at
  have mr2 : H1 r2 = some (.cells [.nilsl, ci 0, ci 0]) := by rw [← hH1]; simp [Hp.set, q2]
  have mq := hle _ _ hq
  have hP := h.hp.mono hle
  clear hH1
  refine CW.walk hX mixed d16 rfl ?_
  simp [d16, cfill, -vcAppend]
  intro r4 n4
  have mq4 : (H1.set r4 (.cells [])) a.q = some (.cells (engC a u e)) := Le.set_new n4 _ _ (hle _ _ h.hq)
  simp only [engC] at mq4
  simp [mq4, -vcAppend]
  have own4 : Own H1 (H1.set r4 (.cells [])) (.ref r4 0 ([] : List (List CV)).length 0) 1 [] := ⟨Le.set_new n4, by simp, .inr ⟨r4, 0, [], rfl, n4, by simp, by simp, by simp⟩⟩
  refine own4.append2 (ys := ints e.out.prints) (by simp [ints]) (by simp [ints]; omega) ((hP.mono (Le.set_new n4)).src) fun v' H5 how5 kp => ?_
  have how5 : Own H1 H5 v' 1 (ints e.out.prints) := by simpa using how5
  have mr5 := how5.le _ _ mr
  have mr25 := how5.le _ _ mr2
  have hvs : v'.stor = true ∧ v'.cells = [v'] := by
    obtain ⟨_, _, ⟨rfl, _⟩ | ⟨q, c, ex, rfl, _⟩⟩ := how5 <;> exact ⟨rfl, rfl⟩
  simp only [CV.stor, CV.cells] at hvs
  simp [mr5, hvs]
  refine CW.walk1 hX mixed d16 rfl ?_
  simp [hvs, mr25, q1, q2]
  have hvn : ∀ x o, H1 x = some o → ∀ r o l c, v' = .ref r o l c → r ≠ x := fun x o hx r' o' l c hv k => by
    have := (how5.at0 hv).2.2
    rw [k, hx] at this
    cases this
  exact ((how5.base hle).keep n3 (hvn r _ mr)).keep n2 (hvn r2 _ mr2)
structure ocI (H1 : Hp) (pa pb : List Int) (r2 r3 : Nat) (j : Nat) (s' : CA) (H' : Hp) : Prop where
  ex : ∃ i : Nat, i ≤ pa.length ∧ j = pa.length - i ∧ s'.env 2 = .ptr r2 0 ∧ s'.env 3 = .ptr r3 0 ∧ s'.env 5 = .int .i64 i ∧ s'.ds = [] ∧ H' = H1 ∧ ∀ k, k < i → pa[k]? = pb[k]?
theorem outcomes15_c (hX : CxOk (cx W G)) (pa pb : List Int) (ka xa kb xb : Int) (hpl : pa.length ≤ 1000000) (H : Hp) : CC Tryd.prog W 15 [.agg [.sl 1 (ints pa), ci ka, ci xa], .agg [.sl 1 (ints pb), ci kb, ci xb]] H fun x H' => x = .ret (.bool (decide (pa = pb ∧ ka = kb ∧ xa = xb))) ∧ H' = H := by
  refine CC.shrink ?_
  refine CC.of_cw hX Tryd.func15 rfl rfl (Nat.le_of_ble_eq_true rfl) ?_
  refine CW.walk hX mixed d15 rfl ?_
  simp [d15]
  intro r2 n2 r3 q1 q2 n3
  generalize hH1 : Hp.set _ r3 _ = H1
  have hle : Le H H1 := by rw [← hH1]; exact (Le.set_new n2).trans (Le.set_new (by rw [hset_ne q1]; exact n3))
  have m3 : H1 r3 = some (.cells [.sl 1 (ints pb), ci kb, ci xb]) := by rw [← hH1]; exact set_at
  have m2 : H1 r2 = some (.cells [.sl 1 (ints pa), ci ka, ci xa]) := by rw [← hH1]; simp [Hp.set, q2]
  clear hH1
  by_cases hk : ka = kb
  rotate_left
  · refine CW.walk hX mixed d15 rfl ?_
    simp [d15, m2, m3, hk]
    exact hle
  by_cases hx : xa = xb
  rotate_left
  · refine CW.walk hX mixed d15 rfl ?_
    simp [d15, m2, m3, hk, hx]
    exact hle
  by_cases hl : pa.length = pb.length
  rotate_left
  · refine CW.walk hX mixed d15 rfl ?_
    simp [d15, m2, m3, hk, hx, hl, ints]
    exact ⟨fun _ => ⟨hle, fun k => hl (by rw [k])⟩, fun k => absurd k (by omega)⟩
  refine CW.walk hX mixed d15 rfl ?_
  simp [d15, m2, m3, hk, hx, hl, ints]
  simp only [ints] at m2 m3
  refine CW.cut (ocI H1 pa pb r2 r3 0) ?_ ?_
  · refine CW.walk hX mixed d15 rfl ?_
    simp
    refine CW.block ?_
    refine CW.loop (ocI H1 pa pb r2 r3) ?_ (m := pa.length) ⟨0, by omega, rfl, by simp, by simp, by simp, rfl, rfl, by simp⟩
    rintro j ⟨en, ds⟩ H2 ⟨i, hi, rfl, e2, e3, e5, rfl, rfl, heq⟩
    dsimp only at e2 e3 e5
    by_cases hlt : i < pa.length
    · have hlt2 : i < pb.length := by omega
      refine CW.walk hX mixed d15 rfl ?_
      simp [e2, e3, e5, m2, m3, hlt]
      refine ⟨?_, fun k => absurd k (by omega)⟩
      by_cases hpe : pa[i] = pb[i]
      · refine CW.cut (ocI H2 pa pb r2 r3 (pa.length - i)) ?_ ?_
        · refine CW.block ?_
          refine CW.walk1 hX mixed d15 rfl ?_
          simp [d15, e2, e3, e5, m2, m3, hlt, hlt2, hpe]
          exact ⟨i, hi, rfl, by simp [e2], by simp [e3], by simp [e5], rfl, rfl, heq⟩
        · rintro ⟨en, ds⟩ H3 ⟨i', hi', hj', g2, g3, g5, rfl, rfl, heq⟩
          have hii : i' = i := by omega
          rw [hii] at g5 heq
          dsimp only at g2 g3 g5
          refine CW.walk1 hX mixed d15 rfl ?_
          simp [g5]
          refine ⟨pa.length - (i + 1), by omega, i + 1, hlt, rfl, by simp [g2], by simp [g3], by simp; rw [wrapI (by omega) (by omega)], rfl, rfl, fun k hk => ?_⟩
          by_cases hki : k < i
          · exact heq k hki
          · obtain rfl : k = i := by omega
            rw [List.getElem?_eq_getElem hlt, List.getElem?_eq_getElem hlt2, hpe]
      · refine CW.walk hX mixed d15 rfl ?_
        simp [d15, e2, e3, e5, m2, m3, hlt, hlt2, hpe]
        exact ⟨hle, fun k => absurd (by simp only [k]) hpe⟩
    · refine CW.walk hX mixed d15 rfl ?_
      simp [e2, e3, e5, m2, m3, hlt]
      exact fun _ => ⟨i, hi, by omega, by simp [e2], by simp [e3], by simp [e5], rfl, rfl, heq⟩
  rintro ⟨en, ds⟩ H2 ⟨i, hi, hj, e2, e3, e5, rfl, rfl, heq⟩
  refine CW.walk1 hX mixed d15 rfl ?_
  simp
  refine ⟨hle, List.ext_getElem? fun k => ?_, hk, hx⟩
  by_cases hki : k < i
  · exact heq k hki
  · rw [List.getElem?_eq_none (by omega), List.getElem?_eq_none (by omega)]
end Go.Cl
