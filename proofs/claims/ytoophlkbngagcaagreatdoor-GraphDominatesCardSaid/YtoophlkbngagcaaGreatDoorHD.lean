/- DERIVED HERE. The reference's nearest dominators. -/
import Derived.Test.YtoophlkbngagcaaGreatDoorHC
set_option linter.unusedSimpArgs false
set_option linter.unusedVariables false
namespace Go.Cl.Gd
open Go.Proofs
variable {W : World} {G : Nat → CV}
set_option maxRecDepth 8000
set_option maxHeartbeats 1000000
/-- The nearest dominators, as the reference finds them. -/
def idRow (D : Nat → Nat → Bool) (n b : Nat) : List Int := (List.range b).map fun b => lastP (idB D n b) n
structure riI (K0 : Hp) (vD : CV) (q1 n : Nat) (D : Nat → Nat → Bool) (d m : Nat) (s' : CA) (H' : Hp) : Prop where
  ex : ∃ (b b5 : Nat) (vo : CV), m = n - b ∧ b ≤ n ∧ b5 + d = b ∧ s'.env 1 = .ptr q1 0 ∧ s'.env 3 = vD ∧ s'.env 4 = vo ∧ s'.env 5 = .int .i64 b5 ∧ s'.ds = [] ∧ Own K0 H' vo 1 (ints (idRow D n b))
structure riJ (K : Hp) (vD vo : CV) (q1 n b : Nat) (D : Nat → Nat → Bool) (d m : Nat) (s' : CA) (H' : Hp) : Prop where
  ex : ∃ (a a7 : Nat), m = n - a ∧ a ≤ n ∧ a7 + d = a ∧ s'.env 1 = .ptr q1 0 ∧ s'.env 3 = vD ∧ s'.env 4 = vo ∧ s'.env 5 = .int .i64 b ∧ s'.env 6 = ci (lastP (idB D n b) a) ∧ s'.env 7 = .int .i64 a7 ∧ s'.ds = [] ∧ H' = K
structure riK (K : Hp) (vD vo : CV) (q1 n b a : Nat) (D : Nat → Nat → Bool) (d m : Nat) (s' : CA) (H' : Hp) : Prop where
  ex : ∃ (c c9 : Nat), m = n - c ∧ c ≤ n ∧ c9 + d = c ∧ s'.env 1 = .ptr q1 0 ∧ s'.env 3 = vD ∧ s'.env 4 = vo ∧ s'.env 5 = .int .i64 b ∧ s'.env 6 = ci (lastP (idB D n b) a) ∧ s'.env 7 = .int .i64 a ∧ s'.env 8 = .bool ((List.range c).all fun c => c == b || !D c b || D c a) ∧ s'.env 9 = .int .i64 c9 ∧ s'.ds = [] ∧ H' = K
theorem idomR_c (hX : CxOk (cx W G)) {H : Hp} {vn : CV} {rs n : Nat} {N : Nat → List Nat} {s : Nat → Bool} (h : RGr H vn rs n N s) (h0 : 0 < n) (hn : n ≤ 80) (hN : ∀ b, b < n → ∀ k ∈ N b, k < n) (hNl : ∀ b, b < n → (N b).length ≤ 100000) :
    CC Tryz.prog W 18 [.agg [vn, .ref rs 0 n n]] H fun x H' => ∃ v, x = .ret v ∧ Le H H' ∧ SlF H' v (idRow (domB N) n n) := by
  refine CC.of_cw hX Tryz.func18 rfl rfl (Nat.le_of_ble_eq_true rfl) ?_
  obtain ⟨rn, cn, cs0, hvn, _⟩ := h.rows
  subst hvn
  refine CW.walk hX mixed d18 rfl ?_
  simp
  intro q1 hq1
  have hle1 : Le H (H.set q1 (.cells [.ref rn 0 n cn, .ref rs 0 n n])) := Le.set_new hq1
  have m1 : (H.set q1 (.cells [.ref rn 0 n cn, .ref rs 0 n n])) q1 = some (.cells [.ref rn 0 n cn, .ref rs 0 n n]) := set_at
  generalize H.set q1 _ = B at hle1 m1 ⊢
  have hB := h.mono hle1
  refine CW.walk hX mixed d18 rfl ?_
  simp [m1]
  refine (doms_c hX hB h0 hn hN hNl).k ?_
  rintro x C ⟨vD, rfl, hleC, hD⟩
  have m1C := hleC _ _ m1
  simp
  refine CW.walk hX mixed d18 rfl ?_
  simp
  generalize domB N = D at hD ⊢
  refine CW.cut (Sx 4 fun vo H' => Own C H' vo 1 (ints (idRow D n n))) ?_ ?_
  · refine CW.walk hX mixed d18 rfl ?_
    simp
    refine CW.block ?_
    refine CW.loop (riI C vD q1 n D 0) ?_ (m := n) ⟨0, 0, .nilsl, rfl, by omega, rfl, by simp, by simp, by simp, by simp, rfl, Own.nil (Le.refl _)⟩
    rintro m ⟨e, ds⟩ K ⟨b, b5, vo, rfl, hb, hb5, e1, e3, e4, e5, rfl, hown⟩
    obtain rfl : b5 = b := by omega
    dsimp only at e1 e3 e4 e5
    have m1K := hown.le _ _ m1C
    have hDK := hD.mono hown.le
    by_cases hbn : b5 < n
    rotate_left
    · obtain rfl : b5 = n := by omega
      refine CW.walk hX mixed d18 rfl ?_
      simp [e1, e5, m1K]
      exact ⟨vo, by simp [e4], rfl, hown⟩
    refine CW.walk hX mixed d18 rfl ?_
    simp [e1, e5, m1K, hbn]
    refine CW.cut (riI C vD q1 n D 1 (n - (b5 + 1))) ?_ ?_
    · refine CW.block ?_
      refine CW.walk hX mixed d18 rfl ?_
      simp
      refine CW.cut (riJ K vD vo q1 n b5 D 0 0) ?_ ?_
      · refine CW.walk hX mixed d18 rfl ?_
        simp
        refine CW.block ?_
        refine CW.loop (riJ K vD vo q1 n b5 D 0) ?_ (m := n) ⟨0, 0, rfl, by omega, rfl, by simp [e1], by simp [e3], by simp [e4], by simp [e5], by simp [lastP], by simp, rfl, rfl⟩
        clear e1 e3 e4 e5
        rintro m ⟨e', ds⟩ K2 ⟨a, a7, rfl, ha, ha7, e1, e3, e4, e5, e6, e7, rfl, rfl⟩
        obtain rfl : a7 = a := by omega
        dsimp only at e1 e3 e4 e5 e6 e7
        by_cases han : a7 < n
        rotate_left
        · obtain rfl : a7 = n := by omega
          refine CW.walk hX mixed d18 rfl ?_
          simp [e1, e7, m1K]
          exact ⟨a7, a7, by omega, by omega, rfl, by simp [e1], by simp [e3], by simp [e4], by simp [e5], by simp [e6], by simp [e7], rfl, rfl⟩
        refine CW.walk hX mixed d18 rfl ?_
        simp [e1, e7, m1K, han]
        refine CW.cut (riJ K2 vD vo q1 n b5 D 1 (n - (a7 + 1))) ?_ ?_
        · obtain ⟨r, c, csD, rfl, hr, hra⟩ := hDK
          obtain ⟨ra, f1, f2⟩ := hra a7 han
          have f3 := boolC_get (p := D a7) hbn
          have hfin : ∀ en : Env, lastP (idB D n b5) (a7 + 1) = lastP (idB D n b5) a7 → en 1 = .ptr q1 0 → en 3 = .ref r 0 n c → en 4 = vo → en 5 = .int .i64 b5 → en 6 = ci (lastP (idB D n b5) a7) → en 7 = .int .i64 a7 → riJ K2 (.ref r 0 n c) vo q1 n b5 D 1 (n - (a7 + 1)) ⟨en, []⟩ K2 := fun en hl g1 g3 g4 g5 g6 g7 => ⟨a7 + 1, a7, rfl, by omega, rfl, g1, g3, g4, g5, by rw [hl]; exact g6, g7, rfl, rfl⟩
          refine CW.block ?_
          by_cases hab : a7 = b5
          · subst hab
            refine CW.walk hX mixed d18 rfl ?_
            simp [d18, e5, e7]
            exact hfin _ (by simp [lastP, idB]) (by simp [e1]) (by simp [e3]) (by simp [e4]) (by simp [e5]) (by simp [e6]) (by simp [e7])
          have hne : ¬ (a7 : Int) = (b5 : Int) := by omega
          have hnb : ((a7 : Int) == (b5 : Int)) = false := by simp [hne]
          cases hD1 : D a7 b5 with
          | false =>
            refine CW.walk hX mixed d18 rfl ?_
            simp [d18, e3, e5, e7, hne, hnb, hr, f1, f2, f3, hD1, han, hbn]
            exact hfin _ (by simp [lastP, idB, hD1]) (by simp [e1]) (by simp [e3]) (by simp [e4]) (by simp [e5]) (by simp [e6]) (by simp [e7])
          | true =>
            refine CW.walk hX mixed d18 rfl ?_
            simp [d18, e3, e5, e7, hne, hnb, hr, f1, f2, f3, hD1, han, hbn]
            refine CW.walk hX mixed d18 rfl ?_
            simp
            refine CW.cut (riK K2 (.ref r 0 n c) vo q1 n b5 a7 D 0 0) ?_ ?_
            · refine CW.walk hX mixed d18 rfl ?_
              simp
              refine CW.block ?_
              refine CW.loop (riK K2 (.ref r 0 n c) vo q1 n b5 a7 D 0) ?_ (m := n) ⟨0, 0, rfl, by omega, rfl, by simp [e1], by simp [e3], by simp [e4], by simp [e5], by simp [e6], by simp [e7], by simp, by simp, rfl, rfl⟩
              clear e1 e3 e4 e5 e6 e7
              rintro m ⟨e', ds⟩ K3 ⟨k, k9, rfl, hk, hk9, e1, e3, e4, e5, e6, e7, e8, e9, rfl, rfl⟩
              obtain rfl : k9 = k := by omega
              dsimp only at e1 e3 e4 e5 e6 e7 e8 e9
              by_cases hkn : k9 < n
              rotate_left
              · obtain rfl : k9 = n := by omega
                refine CW.walk hX mixed d18 rfl ?_
                simp [e1, e9, m1K]
                exact ⟨k9, k9, by omega, by omega, rfl, by simp [e1], by simp [e3], by simp [e4], by simp [e5], by simp [e6], by simp [e7], by simp [e8], by simp [e9], rfl, rfl⟩
              obtain ⟨rk, p1, p2⟩ := hra k9 hkn
              refine CW.walk hX mixed d18 rfl ?_
              simp [e1, e9, m1K, hkn]
              refine CW.cut (riK K3 (.ref r 0 n c) vo q1 n b5 a7 D 1 (n - (k9 + 1))) ?_ ?_
              · have hall : ∀ t : Bool, t = (((List.range k9).all fun c => c == b5 || !D c b5 || D c a7) && (k9 == b5 || !D k9 b5 || D k9 a7)) → ((List.range (k9 + 1)).all fun c => c == b5 || !D c b5 || D c a7) = t := fun t ht => by rw [List.range_succ, List.all_append, ht]; simp
                generalize hal : ((List.range k9).all fun c => c == b5 || !D c b5 || D c a7) = al at e8 hall
                have hfin2 : ∀ (en : Env) (t : Bool), t = (al && (k9 == b5 || !D k9 b5 || D k9 a7)) → en 1 = .ptr q1 0 → en 3 = .ref r 0 n c → en 4 = vo → en 5 = .int .i64 b5 → en 6 = ci (lastP (idB D n b5) a7) → en 7 = .int .i64 a7 → en 8 = .bool t → en 9 = .int .i64 k9 → riK K3 (.ref r 0 n c) vo q1 n b5 a7 D 1 (n - (k9 + 1)) ⟨en, []⟩ K3 := fun en t ht g1 g3 g4 g5 g6 g7 g8 g9 => ⟨k9 + 1, k9, rfl, by omega, rfl, g1, g3, g4, g5, g6, g7, by rw [hall t ht]; exact g8, g9, rfl, rfl⟩
                refine CW.block ?_
                cases al with
                | false =>
                  refine CW.walk1 hX mixed d18 rfl ?_
                  simp [d18, e8]
                  exact hfin2 _ false (by simp) (by simp [e1]) (by simp [e3]) (by simp [e4]) (by simp [e5]) (by simp [e6]) (by simp [e7]) (by simp) (by simp [e9])
                | true =>
                  by_cases hkb : k9 = b5
                  · subst hkb
                    refine CW.walk1 hX mixed d18 rfl ?_
                    simp [d18, e5, e8, e9]
                    exact hfin2 _ true (by simp) (by simp [e1]) (by simp [e3]) (by simp [e4]) (by simp [e5]) (by simp [e6]) (by simp [e7]) (by simp) (by simp [e9])
                  have hne2 : ¬ (k9 : Int) = (b5 : Int) := by omega
                  have hnb2 : ((k9 : Int) == (b5 : Int)) = false := by simp [hne2]
                  have hkb2 : (k9 == b5) = false := by simp [hkb]
                  have g3 := boolC_get (p := D k9) hbn
                  have g4 := boolC_get (p := D k9) han
                  cases d1 : D k9 b5 with
                  | false =>
                    refine CW.walk1 hX mixed d18 rfl ?_
                    simp [d18, e3, e5, e8, e9, hne2, hnb2, hr, p1, p2, d1, hkn, hbn]
                    exact hfin2 _ true (by simp [d1]) (by simp [e1]) (by simp [e3]) (by simp [e4]) (by simp [e5]) (by simp [e6]) (by simp [e7]) (by simp) (by simp [e9])
                  | true =>
                    cases d2 : D k9 a7 with
                    | false =>
                      refine CW.walk1 hX mixed d18 rfl ?_
                      simp [d18, e3, e5, e7, e8, e9, hne2, hnb2, hr, p1, p2, d1, d2, hkn, hbn, han]
                      exact hfin2 _ false (by simp [d1, d2, hkb2]) (by simp [e1]) (by simp [e3]) (by simp [e4]) (by simp [e5]) (by simp [e6]) (by simp [e7]) (by simp) (by simp [e9])
                    | true =>
                      refine CW.walk1 hX mixed d18 rfl ?_
                      simp [d18, e3, e5, e7, e8, e9, hne2, hnb2, hr, p1, p2, d1, d2, hkn, hbn, han]
                      exact hfin2 _ true (by simp [d1, d2, hkb2]) (by simp [e1]) (by simp [e3]) (by simp [e4]) (by simp [e5]) (by simp [e6]) (by simp [e7]) (by simp) (by simp [e9])
              clear e1 e3 e4 e5 e6 e7 e8 e9
              rintro ⟨e', ds⟩ K4 ⟨k, k9', hkk, hk, hk9, e1, e3, e4, e5, e6, e7, e8, e9, rfl, rfl⟩
              dsimp only at e1 e3 e4 e5 e6 e7 e8 e9
              obtain rfl : k = k9 + 1 := by omega
              obtain rfl : k9' = k9 := by omega
              refine CW.walk1 hX mixed d18 rfl ?_
              simp [e9]
              exact ⟨n - (k9' + 1), by omega, k9' + 1, k9' + 1, rfl, hk, rfl, by simp [e1], by simp [e3], by simp [e4], by simp [e5], by simp [e6], by simp [e7], by simp [e8], by simp; exact wrapI (by omega) (by omega), rfl, rfl⟩
            clear e1 e3 e4 e5 e6 e7
            rintro ⟨e', ds⟩ K3 ⟨k, k9, hkk, hk, hk9, e1, e3, e4, e5, e6, e7, e8, e9, rfl, rfl⟩
            dsimp only at e1 e3 e4 e5 e6 e7 e8 e9
            obtain rfl : k = n := by omega
            have hib : idB D k b5 a7 = (List.range k).all fun c => c == b5 || !D c b5 || D c a7 := by simp [idB, hD1, hab]
            rw [← hib] at e8
            cases hi : idB D k b5 a7 with
            | false =>
              rw [hi] at e8
              refine CW.walk hX mixed d18 rfl ?_
              simp [e8]
              refine CW.condE hX (b := false) (by simp) (fun h => by cases h) (fun _ => ?_)
              refine CW.walk1 hX mixed d18 rfl ?_
              simp
              exact hfin _ (by simp [lastP, hi]) (by simp [e1]) (by simp [e3]) (by simp [e4]) (by simp [e5]) (by simp [e6]) (by simp [e7])
            | true =>
              rw [hi] at e8
              refine CW.walk hX mixed d18 rfl ?_
              simp [e8]
              refine CW.condE hX (b := true) (by simp) (fun _ => ?_) (fun h => by cases h)
              refine CW.walk1 hX mixed d18 rfl ?_
              simp [e7]
              exact ⟨a7 + 1, a7, rfl, by omega, rfl, by simp [e1], by simp [e3], by simp [e4], by simp [e5], by simp [lastP, hi], by simp [e7], rfl, rfl⟩
        clear e1 e3 e4 e5 e6 e7
        rintro ⟨e', ds⟩ K3 ⟨a, a7', haa, ha, ha7, e1, e3, e4, e5, e6, e7, rfl, rfl⟩
        dsimp only at e1 e3 e4 e5 e6 e7
        obtain rfl : a = a7 + 1 := by omega
        obtain rfl : a7' = a7 := by omega
        refine CW.walk1 hX mixed d18 rfl ?_
        simp [e7]
        exact ⟨n - (a7' + 1), by omega, a7' + 1, a7' + 1, rfl, ha, rfl, by simp [e1], by simp [e3], by simp [e4], by simp [e5], by simp [e6], by simp; exact wrapI (by omega) (by omega), rfl, rfl⟩
      clear e1 e3 e4 e5
      rintro ⟨e', ds⟩ K2 ⟨a, a7, haa, ha, ha7, e1, e3, e4, e5, e6, e7, rfl, rfl⟩
      dsimp only at e1 e3 e4 e5 e6 e7
      obtain rfl : a = n := by omega
      refine CW.walk1 hX mixed d18 rfl ?_
      simp [e4, e6, cfill, -vcAppend]
      intro qx hqx
      have hrl : (idRow D a b5).length = b5 := by simp [idRow]
      refine (hown.more hqx).append2 (ys := [[ci (lastP (idB D a b5) a)]]) (by simp) (by simp [ints, hrl]; omega) (src_one set_at rfl) fun v' H5 how5 kp => ?_
      simp
      refine ⟨b5 + 1, b5, v', rfl, by omega, rfl, by simp [e1], by simp [e3], by simp, by simp [e5], rfl, ?_⟩
      have e9 : ints (idRow D a (b5 + 1)) = ints (idRow D a b5) ++ [[ci (lastP (idB D a b5) a)]] := by simp [ints, idRow, List.range_succ]
      rw [e9]; exact how5
    clear e1 e3 e4 e5
    rintro ⟨e', ds⟩ K2 ⟨b, b5', vo', hbb, hb, hb5, e1, e3, e4, e5, rfl, hown2⟩
    dsimp only at e1 e3 e4 e5
    obtain rfl : b = b5 + 1 := by omega
    obtain rfl : b5' = b5 := by omega
    refine CW.walk1 hX mixed d18 rfl ?_
    simp [e5]
    exact ⟨n - (b5' + 1), by omega, b5' + 1, b5' + 1, vo', rfl, hb, rfl, by simp [e1], by simp [e3], by simp [e4], by simp; exact wrapI (by omega) (by omega), rfl, hown2⟩
  rintro ⟨e', ds⟩ K ⟨vo, e4, rfl, hown⟩
  dsimp only at e4
  refine CW.walk hX mixed d18 rfl ?_
  simp
  refine CW.walk1 hX mixed d18 rfl ?_
  simp [e4]
  exact ⟨(hle1.trans hleC).trans hown.le, hown.slF⟩
end Go.Cl.Gd
