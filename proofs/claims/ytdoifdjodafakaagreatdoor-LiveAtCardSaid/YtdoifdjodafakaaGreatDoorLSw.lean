/- DERIVED HERE. The library's sort of a short slice of numbers; Clone, DeleteFunc, Compact. -/
import Derived.Test.YtdoifdjodafakaaGreatDoorLSo
import Derived.Test.YtdoifdjodafakaaGreatDoorTA
import Derived.Test.YtdoifdjodafakaaGreatDoorPM
set_option linter.unusedSimpArgs false
set_option linter.unusedVariables false
namespace Go.Cl
open Go.Proofs
variable {W : World} {G : Nat → CV}
set_option maxRecDepth 8000
/-- The cells of a block that begins with numbers. -/
abbrev nums (L : List Int) (ex : List CV) : List CV := L.map (fun n => ci n) ++ ex
theorem nums_get {L : List Int} {ex : List CV} {i : Nat} (h : i < L.length) : (nums L ex)[i]? = some (ci (gI L i)) := by
  rw [nums, List.getElem?_append_left (by simpa using h), List.getElem?_map, gI_get h]
  rfl
theorem nums_set {L : List Int} {ex : List CV} {i : Nat} {x : Int} (h : i < L.length) : (nums L ex).take i ++ ci x :: (nums L ex).drop (i + 1) = nums (L.set i x) ex := by
  rw [take_drop_set (by simp [nums]; omega), nums, List.set_append_left _ _ (by simpa using h)]
  simp only [nums, List.map_set]
theorem isNaN_c (hX : CxOk (cx W G)) (x : Int) (H : Hp) : CC Tryz.prog W 103 [ci x] H fun y H' => y = .ret (.bool false) ∧ H' = H := by
  refine CC.at0 ?_ H
  refine CC.of_ev hX mixed d103 Tryz.func103 rfl rfl (Nat.le_of_ble_eq_true rfl) d103_ok ?_
  simp [Tryz.f103, d103]
theorem less_c (hX : CxOk (cx W G)) (x y : Int) (H : Hp) : CC Tryz.prog W 79 [ci x, ci y] H fun z H' => z = .ret (.bool (decide (x < y))) ∧ H' = H := by
  refine CC.of_ev hX mixed d79 Tryz.func79 rfl rfl (Nat.le_of_ble_eq_true rfl) d79_ok ?_
  simp [Tryz.f79, d79]
  refine (isNaN_c hX x H).k ?_
  rintro z H1 ⟨rfl, rfl⟩
  simp
structure isO (H : Hp) (l : List Int) (r c : Nat) (ex : List CV) (d : Nat) (j : Nat) (s' : CA) (H' : Hp) : Prop where
  ex : ∃ i i6 : Nat, ∃ L, i ≤ max l.length 1 ∧ 1 ≤ i ∧ j = max l.length 1 - i ∧ s'.env 0 = .ref r 0 l.length c ∧ s'.env 1 = ci 0 ∧ s'.env 2 = .int .i64 l.length ∧ s'.env 6 = .int .i64 i6 ∧ i6 + d = i ∧ s'.ds = [] ∧ List.Perm L l ∧ SortTo L i ∧ H' = H.set r (.cells (nums L ex))
structure isI (H : Hp) (l : List Int) (r c i : Nat) (ex : List CV) (m : Nat) (s' : CA) (H' : Hp) : Prop where
  ex : ∃ L, m ≤ i ∧ s'.env 0 = .ref r 0 l.length c ∧ s'.env 1 = ci 0 ∧ s'.env 2 = .int .i64 l.length ∧ s'.env 6 = .int .i64 i ∧ s'.env 7 = .int .i64 m ∧ s'.ds = [] ∧ List.Perm L l ∧ InsI L i m ∧ H' = H.set r (.cells (nums L ex))
structure isW (H : Hp) (l : List Int) (r c i m : Nat) (ex : List CV) (s' : CA) (H' : Hp) : Prop where
  ex : ∃ L, s'.env 0 = .ref r 0 l.length c ∧ s'.env 1 = ci 0 ∧ s'.env 2 = .int .i64 l.length ∧ s'.env 6 = .int .i64 i ∧ s'.env 7 = .int .i64 m ∧ s'.ds = [] ∧ List.Perm L l ∧ InsI L i (m - 1) ∧ H' = H.set r (.cells (nums L ex))
theorem insSort_c (hX : CxOk (cx W G)) (l : List Int) (r c : Nat) (ex : List CV) (hl : l.length ≤ 1000000) (H : Hp) (hr : H r = some (.cells (nums l ex))) :
    CC Tryz.prog W 73 [.ref r 0 l.length c, ci 0, .int .i64 l.length] H fun x H' => x = .ret (.tuple []) ∧ ∃ L, List.Perm L l ∧ SortTo L L.length ∧ H' = H.set r (.cells (nums L ex)) := by
  refine CC.of_cw hX Tryz.func73 rfl rfl (Nat.le_of_ble_eq_true rfl) ?_
  refine CW.walk hX mixed d73 rfl ?_
  simp
  refine CW.block ?_
  refine CW.loop (isO H l r c ex 0) ?_ (m := max l.length 1 - 1) ⟨1, 1, l, by omega, by omega, rfl, by simp, by simp, by simp, by simp; exact wrapI (by omega) (by omega), rfl, rfl, .refl _, fun p q h1 h2 => by omega, (hset_self hr).symm⟩
  rintro j ⟨e, ds⟩ H1 ⟨i, i6, L, hi, hi1, rfl, e0, e1, e2, e6, hi6, rfl, hp, hs, rfl⟩
  obtain rfl : i = i6 := by omega
  dsimp only at e0 e1 e2 e6
  have hLl := hp.length_eq
  by_cases hil : i < l.length
  rotate_left
  · refine CW.walk hX mixed d73 rfl ?_
    simp [e2, e6, hil]
    exact ⟨L, hp, fun p q h1 h2 => hs p q h1 (by omega), rfl⟩
  refine CW.walk hX mixed d73 rfl ?_
  simp [e2, e6, hil]
  refine CW.cut (isO H l r c ex 1 (max l.length 1 - (i + 1))) ?_ ?_
  · refine CW.block ?_
    refine CW.walk hX mixed d73 rfl ?_
    simp [e6]
    refine CW.block ?_
    refine CW.loop (isI H l r c i ex) ?_ (m := i) ⟨L, by omega, by simp [e0], by simp [e1], by simp [e2], by simp [e6], by simp, rfl, hp, ins_start hs, rfl⟩
    clear e0 e1 e2 e6 hp hs hLl
    clear e L
    rintro m ⟨e, ds⟩ H1 ⟨L, hm, e0, e1, e2, e6, e7, rfl, hp, hs, rfl⟩
    dsimp only at e0 e1 e2 e6 e7
    have hLl := hp.length_eq
    by_cases hm0 : m = 0
    · subst hm0
      refine CW.walk hX mixed d73 rfl ?_
      simp [d73, e0, e1, e6, e7]
      exact ⟨i + 1, i, L, by omega, by omega, rfl, by simp [e0], by simp [e1], by simp [e2], by simp [e6], rfl, rfl, hp, ins_end hs hm (.inl rfl), rfl⟩
    have hm1 : 0 < m := by omega
    have hml : m < l.length := by omega
    have hw : IntKind.i64.wrap ((m : Int) - 1) = ((m - 1 : Nat) : Int) := by rw [wrapI (by omega) (by omega)]; omega
    have g1 := nums_get (ex := ex) (show m < L.length by omega)
    have g2 := nums_get (ex := ex) (show m - 1 < L.length by omega)
    refine CW.walk hX mixed d73 rfl ?_
    simp [d73, e0, e1, e6, e7, hm1, hml, hw, g1, g2, show m - 1 < l.length by omega]
    refine (less_c hX _ _ _).k ?_
    rintro z H2 ⟨rfl, rfl⟩
    by_cases hlt : gI L m < gI L (m - 1)
    rotate_left
    · simp [hlt]
      exact ⟨i + 1, i, L, by omega, by omega, rfl, by simp [e0], by simp [e1], by simp [e2], by simp [e6], rfl, rfl, hp, ins_end hs hm (.inr (by omega)), rfl⟩
    simp [hlt]
    refine CW.cut (isW H l r c i m ex) ?_ ?_
    · refine CW.block ?_
      refine CW.walk1 hX mixed d73 rfl ?_
      simp [d73, e0, e1, e6, e7, hm1, hml, hw, g1, g2, show m - 1 < l.length by omega]
      refine ⟨by omega, by omega, ?_⟩
      rw [nums_set (show m < L.length by omega), nums_set (show m - 1 < (L.set m (gI L (m - 1))).length by simp; omega)]
      exact ⟨swp L m, by simp [e0], by simp [e1], by simp [e2], by simp [e6], by simp [e7], rfl, (swp_perm hm1 (by omega)).trans hp, ins_step hs hm1 hm (by omega) hlt, rfl⟩
    clear e0 e1 e2 e6 e7 g1 g2 hlt hs hp hLl
    clear e L
    rintro ⟨e, ds⟩ H1 ⟨L, e0, e1, e2, e6, e7, rfl, hp, hs, rfl⟩
    dsimp only at e0 e1 e2 e6 e7
    refine CW.walk1 hX mixed d73 rfl ?_
    simp [e7, hw]
    exact ⟨m - 1, by omega, L, by omega, by simp [e0], by simp [e1], by simp [e2], by simp [e6], by simp, rfl, hp, hs, rfl⟩
  clear e0 e1 e2 e6 hs hp hLl
  clear e L
  rintro ⟨e, ds⟩ H1 ⟨i2, i6, L, hi2, hi21, hij, e0, e1, e2, e6, hi6, rfl, hp, hs, rfl⟩
  dsimp only at e0 e1 e2 e6
  obtain rfl : i2 = i + 1 := by omega
  obtain rfl : i = i6 := by omega
  refine CW.walk1 hX mixed d73 rfl ?_
  simp [e6]
  exact ⟨max l.length 1 - (i + 1), by omega, i + 1, i + 1, L, hi2, hi21, rfl, by simp [e0], by simp [e1], by simp [e2], by simp; exact wrapI (by omega) (by omega), rfl, rfl, hp, hs, rfl⟩
theorem u64_wrap {n : Int} (h1 : 0 ≤ n) (h2 : n < 18446744073709551616) : IntKind.u64.wrap n = n := by
  have : IntKind.u64.wrap n = n % 18446744073709551616 := by simp [IntKind.wrap, IntKind.bits, IntKind.signed]
  rw [this]
  omega
theorem insSort_nil (hX : CxOk (cx W G)) (H : Hp) : CC Tryz.prog W 73 [.nilsl, ci 0, ci 0] H fun x H' => x = .ret (.tuple []) ∧ H' = H := by
  refine CC.of_cw hX Tryz.func73 rfl rfl (Nat.le_of_ble_eq_true rfl) ?_
  refine CW.walk hX mixed d73 rfl ?_
  simp
  refine CW.block ?_
  refine CW.loop (fun j s' H' => s'.env 2 = ci 0 ∧ s'.env 6 = ci 1 ∧ s'.ds = [] ∧ H' = H) ?_ (m := 0) ⟨by simp, by simp; exact wrapI (by omega) (by omega), rfl, rfl⟩
  rintro j ⟨e, ds⟩ H1 ⟨e2, e6, rfl, rfl⟩
  dsimp only at e2 e6
  refine CW.walk hX mixed d73 rfl ?_
  simp [e2, e6]
theorem len64_c (hX : CxOk (cx W G)) (n : Nat) (hn : n ≤ 4) (H : Hp) : CC Tryz.prog W 83 [.int .u64 n] H fun x H' => (∃ m : Int, x = .ret (ci m)) ∧ H' = H := by
  refine CC.of_ev hX mixed d83 Tryz.func83 rfl rfl (Nat.le_of_ble_eq_true rfl) d83_ok ?_
  rcases n with _|_|_|_|_|n
  all_goals try omega
  all_goals
    simp [Tryz.f83, d83]
    exact ⟨by decide, by decide⟩
theorem len_c (hX : CxOk (cx W G)) (n : Nat) (hn : n ≤ 4) (H : Hp) : CC Tryz.prog W 52 [.int .u64 n] H fun x H' => (∃ m : Int, x = .ret (ci m)) ∧ H' = H := by
  refine CC.of_ev hX mixed d52 Tryz.func52 rfl rfl (Nat.le_of_ble_eq_true rfl) d52_ok ?_
  simp [Tryz.f52, d52]
  refine (len64_c hX n hn H).k ?_
  rintro x H1 ⟨⟨m, rfl⟩, rfl⟩
  simp
/-- A slice of numbers, in a block that may be written. -/
def Mu (H : Hp) (v : CV) (l : List Int) (r c : Nat) (ex : List CV) : Prop := v = .ref r 0 l.length c ∧ l.length ≤ c ∧ H r = some (.cells (nums l ex))
theorem pdq_c (hX : CxOk (cx W G)) (l : List Int) (r c : Nat) (ex : List CV) (lim : Int) (hl : l.length ≤ 4) (H : Hp) (hr : H r = some (.cells (nums l ex))) :
    CC Tryz.prog W 51 [.ref r 0 l.length c, ci 0, .int .i64 l.length, ci lim] H fun x H' => x = .ret (.tuple []) ∧ ∃ L, List.Perm L l ∧ SortTo L L.length ∧ H' = H.set r (.cells (nums L ex)) := by
  refine CC.of_cw hX Tryz.func51 rfl rfl (Nat.le_of_ble_eq_true rfl) ?_
  refine CW.walk hX mixed d51 rfl ?_
  simp
  refine CW.walk hX mixed d51 rfl ?_
  simp
  refine CW.block ?_
  refine CW.loop (fun j s' H' => s'.env 0 = .ref r 0 l.length c ∧ s'.env 1 = ci 0 ∧ s'.env 2 = .int .i64 l.length ∧ s'.ds = [] ∧ H' = H) ?_ (m := 0) ⟨by simp, by simp, by simp, rfl, rfl⟩
  rintro j ⟨e, ds⟩ H1 ⟨e0, e1, e2, rfl, rfl⟩
  dsimp only at e0 e1 e2
  refine CW.block ?_
  refine CW.walk hX mixed d51 rfl ?_
  have hw : IntKind.i64.wrap (l.length : Int) = l.length := wrapI (by omega) (by omega)
  simp [e1, e2, hw]
  refine CW.walk hX mixed d51 rfl ?_
  simp [e0, e1, e2, show (l.length : Int) ≤ 12 by omega]
  refine (insSort_c hX l r c ex (by omega) H1 hr).k ?_
  rintro x H2 ⟨rfl, L, h1, h2, rfl⟩
  simp
  exact ⟨L, h1, h2, rfl⟩
theorem pdq_nil (hX : CxOk (cx W G)) (lim : Int) (H : Hp) : CC Tryz.prog W 51 [.nilsl, ci 0, ci 0, ci lim] H fun x H' => x = .ret (.tuple []) ∧ H' = H := by
  refine CC.of_cw hX Tryz.func51 rfl rfl (Nat.le_of_ble_eq_true rfl) ?_
  refine CW.walk hX mixed d51 rfl ?_
  simp
  refine CW.walk hX mixed d51 rfl ?_
  simp
  refine CW.block ?_
  refine CW.loop (fun j s' H' => s'.env 0 = .nilsl ∧ s'.env 1 = ci 0 ∧ s'.env 2 = ci 0 ∧ s'.ds = [] ∧ H' = H) ?_ (m := 0) ⟨by simp, by simp, by simp, rfl, rfl⟩
  rintro j ⟨e, ds⟩ H1 ⟨e0, e1, e2, rfl, rfl⟩
  dsimp only at e0 e1 e2
  refine CW.block ?_
  refine CW.walk hX mixed d51 rfl ?_
  have hw : IntKind.i64.wrap 0 = 0 := wrapI (by omega) (by omega)
  simp [e1, e2, hw]
  refine CW.walk hX mixed d51 rfl ?_
  simp [e0, e1, e2]
  refine (insSort_nil hX H1).k ?_
  rintro x H2 ⟨rfl, rfl⟩
  simp
theorem sort_c (hX : CxOk (cx W G)) (l : List Int) (r c : Nat) (ex : List CV) (hl : l.length ≤ 4) (H : Hp) (hr : H r = some (.cells (nums l ex))) :
    CC Tryz.prog W 27 [.ref r 0 l.length c] H fun x H' => x = .ret (.tuple []) ∧ ∃ L, List.Perm L l ∧ SortTo L L.length ∧ H' = H.set r (.cells (nums L ex)) := by
  refine CC.of_ev hX mixed d27 Tryz.func27 rfl rfl (Nat.le_of_ble_eq_true rfl) d27_ok ?_
  simp [Tryz.f27, d27]
  rw [show IntKind.u64.wrap (l.length : Int) = ((l.length : Nat) : Int) from u64_wrap (by omega) (by omega)]
  refine (len_c hX l.length hl H).k ?_
  rintro x H1 ⟨⟨m, rfl⟩, rfl⟩
  simp
  refine (pdq_c hX l r c ex m hl H1 hr).k ?_
  rintro x H2 ⟨rfl, L, h1, h2, rfl⟩
  simp
  exact ⟨L, h1, h2, rfl⟩
theorem sort_nil (hX : CxOk (cx W G)) (H : Hp) : CC Tryz.prog W 27 [.nilsl] H fun x H' => x = .ret (.tuple []) ∧ H' = H := by
  refine CC.of_ev hX mixed d27 Tryz.func27 rfl rfl (Nat.le_of_ble_eq_true rfl) d27_ok ?_
  simp [Tryz.f27, d27]
  rw [show IntKind.u64.wrap 0 = (((0 : Nat) : Nat) : Int) from u64_wrap (by omega) (by omega)]
  refine (len_c hX 0 (by omega) H).k ?_
  rintro x H1 ⟨⟨m, rfl⟩, rfl⟩
  simp
  refine (pdq_nil hX m H1).k ?_
  rintro x H2 ⟨rfl, rfl⟩
  simp
end Go.Cl
