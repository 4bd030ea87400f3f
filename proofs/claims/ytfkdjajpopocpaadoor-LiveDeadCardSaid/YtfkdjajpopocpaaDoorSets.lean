/- DERIVED HERE. What the functions of live.Set do. -/
import Derived.Test.YtfkdjajpopocpaaDoorBits
set_option linter.unusedSimpArgs false
namespace Go.Cl
open Go.Proofs
variable {W : World} {G : Nat → CV}
theorem newSet_c (hX : CxOk (cx W G)) (n : Nat) (hn : n ≤ 4096) (H : Hp) : CC Tryd.prog W 77 [.int .i64 n] H fun x H' => ∃ r, H r = none ∧ x = .ret (.ref r 0 ((n+63)/64) ((n+63)/64)) ∧ H' = H.set r (.cells (setC ((n+63)/64) fun _ => false)) := by
  refine CC.of_ev hX mixed d77 Tryd.func77 rfl rfl (Nat.le_of_ble_eq_true rfl) d77_ok ?_
  simp [Tryd.f77, d77]
  simp (disch := omega) only [wrapI, tdivI]
  have e : ((n + 63 : Int) / 64).toNat = (n + 63) / 64 := by omega
  refine ⟨by omega, by omega, by omega, fun r hr => ⟨r, hr, ⟨rfl, e⟩, ?_⟩⟩
  rw [e, setC_zero]
  congr 2
  apply List.ext_getElem?
  intro i
  rw [List.getElem?_map, List.getElem?_replicate]
  rcases Nat.lt_or_ge i ((n + 63) / 64) with h | h
  · rw [List.getElem?_range h, if_pos h]; simp [Nat.mod_one]
  · rw [List.getElem?_eq_none (by simpa using h), if_neg (by omega)]; rfl
theorem add_c (hX : CxOk (cx W G)) (r c m : Nat) (f : Nat → Bool) (k : Nat) (hk : k < 64 * m) (hm : m ≤ 64) (H : Hp) (hr : H r = some (.cells (setC m f))) : CC Tryd.prog W 84 [.ref r 0 m c, .int .i64 k] H fun x H' => x = .ret (.tuple []) ∧ H' = H.set r (.cells (setC m fun x => x == k || f x)) := by
  refine CC.of_ev hX mixed d84 Tryd.func84 rfl rfl (Nat.le_of_ble_eq_true rfl) d84_ok ?_
  simp [Tryd.f84, d84, hr]
  simp (disch := omega) only [wrapI, tdivI, tmodI, nat64, int64, setC_get, u64_shl1]
  simp [setC_len, hr, -Int.natCast_pow]
  simp (disch := omega) only [wrapI, tdivI, tmodI, nat64, int64, setC_get, u64_shl1]
  simp [setC_len, hr, -Int.natCast_pow]
  rw [u64_or (word_lt _ _) (Nat.pow_lt_pow_right (by omega) (by omega)), take_drop_set (by rw [setC_len]; omega), setC_set (by omega) word_add fun j hj => word_other (fun x hx => by simp [hx]) hj]
  exact ⟨by omega, by omega, by omega, by omega, by omega, by omega, rfl⟩
theorem remove_c (hX : CxOk (cx W G)) (r c m : Nat) (f : Nat → Bool) (k : Nat) (hk : k < 64 * m) (hm : m ≤ 64) (H : Hp) (hr : H r = some (.cells (setC m f))) : CC Tryd.prog W 87 [.ref r 0 m c, .int .i64 k] H fun x H' => x = .ret (.tuple []) ∧ H' = H.set r (.cells (setC m fun x => x != k && f x)) := by
  refine CC.of_ev hX mixed d87 Tryd.func87 rfl rfl (Nat.le_of_ble_eq_true rfl) d87_ok ?_
  simp [Tryd.f87, d87, hr]
  simp (disch := omega) only [wrapI, tdivI, tmodI, nat64, int64, setC_get, u64_shl1]
  simp [setC_len, hr, -Int.natCast_pow]
  simp (disch := omega) only [wrapI, tdivI, tmodI, nat64, int64, setC_get, u64_shl1]
  simp [setC_len, hr, -Int.natCast_pow]
  rw [u64_andNot (word_lt _ _) (Nat.pow_lt_pow_right (by omega) (by omega)), take_drop_set (by rw [setC_len]; omega), setC_set (by omega) word_remove fun j hj => word_other (fun x hx => by simp [hx]) hj]
  exact ⟨by omega, by omega, by omega, by omega, by omega, by omega, rfl⟩
theorem has_c (hX : CxOk (cx W G)) (r c m : Nat) (f : Nat → Bool) (k : Nat) (hk : k < 64 * m) (hm : m ≤ 64) (H : Hp) (hr : H r = some (.cells (setC m f))) : CC Tryd.prog W 54 [.ref r 0 m c, .int .i64 k] H fun x H' => x = .ret (.bool (f k)) ∧ H' = H := by
  refine CC.of_ev hX mixed d54 Tryd.func54 rfl rfl (Nat.le_of_ble_eq_true rfl) d54_ok ?_
  simp [Tryd.f54, d54, hr]
  simp (disch := omega) only [wrapI, tdivI, tmodI, nat64, int64, setC_get, u64_shr1]
  simp [-Int.natCast_pow]
  simp (disch := omega) only [int64, u64_shr1]
  rw [u64_and1 (Nat.lt_of_le_of_lt (Nat.shiftRight_le _ _) (word_lt _ _))]
  refine ⟨by omega, by omega, by omega, ?_⟩
  rw [Nat.testBit_shiftRight, testBit_word]
  simp only [Nat.add_zero, show k % 64 < 64 by omega, decide_true, Bool.true_and, show 64 * (k / 64) + k % 64 = k by omega]
  cases f k <;> rfl
theorem word_join {f g : Nat → Bool} {k : Nat} : word (fun x => f x || (decide (x < 64 * k) && g x)) k ||| word g k = word (fun x => f x || (decide (x < 64 * (k + 1)) && g x)) k := by
  refine word_ext (Nat.or_lt_two_pow (word_lt _ _) (word_lt _ _)) fun j hj => ?_
  rw [Nat.testBit_or, testBit_word, testBit_word]
  simp only [hj, decide_true, Bool.true_and, show ¬ 64 * k + j < 64 * k by omega, show 64 * k + j < 64 * (k + 1) by omega, decide_false, Bool.false_and, Bool.or_false]
theorem join_c (hX : CxOk (cx W G)) (r c r2 c2 m : Nat) (f g : Nat → Bool) (hm : m ≤ 64) (H : Hp) (hne : r2 ≠ r) (hr : H r = some (.cells (setC m f))) (hr2 : H r2 = some (.cells (setC m g))) : CC Tryd.prog W 80 [.ref r 0 m c, .ref r2 0 m c2] H fun x H' => x = .ret (.tuple []) ∧ H' = H.set r (.cells (setC m fun x => f x || g x)) := by
  refine CC.of_ev hX mixed d80 Tryd.func80 rfl rfl (Nat.le_of_ble_eq_true rfl) d80_ok ?_
  simp [Tryd.f80, d80]
  refine CW.loop (fun j s' H' => ∃ k, k ≤ m ∧ j = m - k ∧ s'.env 0 = .ref r 0 m c ∧ s'.env 6 = .ref r2 0 m c2 ∧ s'.env 7 = .int .i64 m ∧ s'.env 8 = .int .i64 k ∧ s'.ds = [] ∧ H' = H.set r (.cells (setC m fun x => f x || (decide (x < 64 * k) && g x)))) ?_ (m := m) ⟨0, ?_⟩
  · rintro j ⟨e, ds⟩ H' ⟨k, hk, rfl, e0, e6, e7, e8, rfl, rfl⟩
    dsimp only at e0 e6 e7 e8
    refine vw_sound hX mixed (D := d80) _ _ _ _ (by kernel_rfl) ?_
    simp [e0, e6, e7, e8, hne, hr2]
    refine ⟨fun h => ?_, fun h => ?_⟩
    · simp only [setC_get h]
      simp [setC_len, h, e0, e6, e7, e8, hr2, hne]
      refine ⟨by omega, m - (k + 1), by omega, k + 1, by omega, rfl, by rw [wrapI (by omega) (by omega)]; simp, ?_⟩
      rw [u64_or (word_lt _ _) (word_lt _ _), take_drop_set (by rw [setC_len]; omega), setC_set h word_join fun j hj => word_congr fun i hi => by rw [show decide (64 * j + i < 64 * (k + 1)) = decide (64 * j + i < 64 * k) by rw [decide_eq_decide]; omega]]
    · rw [setC_congr (g := fun x => f x || g x) fun x hx => by simp [show x < 64 * k by omega]]
  · simp
    funext i
    by_cases hi : i = r
    · subst hi; simp [hr]
    · simp [hi]
end Go.Cl
