/- DERIVED HERE. Sets of numbers as rows of words: the plain side. DERIVED HERE. What the functions of live.Set do. DERIVED HERE. The iterators: slices.Backward, code.Ops. -/
import Derived.Test.YtoophlkbngagcaaGreatDoorS0
import Derived.Test.YtoophlkbngagcaaGreatDoorClE
set_option linter.unusedSimpArgs false
set_option linter.unusedVariables false
namespace Go.Cl
/-- The first n bits of a row of bits, as a number. -/
def bitsN (f : Nat → Bool) : Nat → Nat
  | 0 => 0
  | n + 1 => (if f n then 2 ^ n else 0) + bitsN f n
theorem bitsN_lt (f : Nat → Bool) : ∀ n, bitsN f n < 2 ^ n
  | 0 => by simp [bitsN]
  | n + 1 => by
    have := bitsN_lt f n
    simp only [bitsN, Nat.pow_succ]
    split <;> omega
theorem testBit_bitsN (f : Nat → Bool) : ∀ n k, (bitsN f n).testBit k = (decide (k < n) && f k)
  | 0, k => by simp [bitsN]
  | n + 1, k => by
    have hlt := bitsN_lt f n
    have ih := testBit_bitsN f n
    simp only [bitsN]
    rcases Nat.lt_trichotomy k n with h | h | h
    · split
      · rw [Nat.testBit_two_pow_add_gt h, ih]; simp [h, Nat.lt_succ_of_lt h]
      · rw [Nat.zero_add, ih]; simp [h, Nat.lt_succ_of_lt h]
    · subst h
      split
      · rename_i hf
        rw [Nat.testBit_two_pow_add_eq, ih]; simp [hf]
      · rename_i hf
        rw [Nat.zero_add, ih]; simp [hf]
    · rw [show ((if f n = true then 2 ^ n else 0) + bitsN f n) = bitsN f (n + 1) from rfl, Nat.testBit_lt_two_pow (Nat.lt_of_lt_of_le (bitsN_lt f (n + 1)) (Nat.pow_le_pow_right (by omega) (by omega : n + 1 ≤ k)))]
      simp [show ¬ k < n + 1 by omega]
/-- The i-th word of a set. -/
def word (f : Nat → Bool) (i : Nat) : Nat := bitsN (fun k => f (64 * i + k)) 64
theorem word_lt (f : Nat → Bool) (i : Nat) : word f i < 2 ^ 64 := bitsN_lt _ _
theorem testBit_word (f : Nat → Bool) (i k : Nat) : (word f i).testBit k = (decide (k < 64) && f (64 * i + k)) := testBit_bitsN _ _ _
theorem word_ext {w : Nat} {f : Nat → Bool} {i : Nat} (hw : w < 2 ^ 64) (h : ∀ k, k < 64 → w.testBit k = f (64 * i + k)) : w = word f i := by
  apply Nat.eq_of_testBit_eq
  intro k
  rw [testBit_word]
  by_cases hk : k < 64
  · simp [hk, h k hk]
  · simp only [hk, decide_false, Bool.false_and]
    exact Nat.testBit_lt_two_pow (Nat.lt_of_lt_of_le hw (Nat.pow_le_pow_right (by omega) (by omega)))
theorem word_congr {f g : Nat → Bool} {i : Nat} (h : ∀ k, k < 64 → f (64 * i + k) = g (64 * i + k)) : word f i = word g i :=
  word_ext (word_lt f i) fun k hk => by rw [testBit_word]; simp [hk, h k hk]
/-- The cells of a set of m words. -/
def setC (m : Nat) (f : Nat → Bool) : List CV := (List.range m).map fun i => .int .u64 (word f i)
theorem setC_len (m : Nat) (f : Nat → Bool) : (setC m f).length = m := by simp [setC]
theorem setC_get {m : Nat} {f : Nat → Bool} {i : Nat} (h : i < m) : (setC m f)[i]? = some (.int .u64 (word f i)) := by simp [setC, h]
theorem setC_zero (m : Nat) : setC m (fun _ => false) = List.replicate m (.int .u64 0) := by
  have : ∀ i, word (fun _ => false) i = 0 := fun i => (word_ext (by simp) (by simp)).symm
  simp [setC, this, List.map_const']
theorem setC_set {m : Nat} {f g : Nat → Bool} {i : Nat} (h : i < m) {w : Nat} (hw : w = word g i) (hg : ∀ j, j ≠ i → word g j = word f j) : (setC m f).set i (.int .u64 w) = setC m g := by
  apply List.ext_getElem?
  intro j
  rw [List.getElem?_set]
  by_cases e : i = j
  · subst e; rw [if_pos rfl, if_pos (by rw [setC_len]; exact h), setC_get h, hw]
  · rw [if_neg e]
    by_cases hj : j < m
    · rw [setC_get hj, setC_get hj, hg j (fun h => e h.symm)]
    · rw [List.getElem?_eq_none (by simp [setC_len]; omega), List.getElem?_eq_none (by simp [setC_len]; omega)]
theorem setC_inj {m : Nat} {f g : Nat → Bool} (h : setC m f = setC m g) : ∀ x, x < 64 * m → f x = g x := by
  intro x hx
  have h1 : x / 64 < m := by omega
  have := congrArg (·[x / 64]?) h
  simp only [setC_get h1, Option.some.injEq, CV.int.injEq, true_and] at this
  have h2 : word f (x / 64) = word g (x / 64) := by omega
  have h3 := congrArg (·.testBit (x % 64)) h2
  simp only [testBit_word] at h3
  have h4 : 64 * (x / 64) + x % 64 = x := by omega
  rw [h4] at h3
  simpa [show x % 64 < 64 by omega] using h3
theorem setC_congr {m : Nat} {f g : Nat → Bool} (h : ∀ x, x < 64 * m → f x = g x) : setC m f = setC m g := by
  apply List.ext_getElem?
  intro j
  by_cases hj : j < m
  · rw [setC_get hj, setC_get hj, word_congr fun k hk => h _ (by omega)]
  · rw [List.getElem?_eq_none (by simp [setC_len]; omega), List.getElem?_eq_none (by simp [setC_len]; omega)]

/-! what the machine's operations on words come to -/
theorem wrapU {n : Int} (h1 : 0 ≤ n) (h2 : n < 18446744073709551616) : IntKind.u64.wrap n = n := by
  simp [IntKind.wrap, IntKind.bits, IntKind.signed]; omega
theorem u64_or {a b : Nat} (ha : a < 2 ^ 64) (hb : b < 2 ^ 64) : zOr .u64 (a : Int) (b : Int) = ((a ||| b : Nat) : Int) := by
  show IntKind.u64.wrap (BitVec.ofInt 64 (a : Int) ||| BitVec.ofInt 64 (b : Int)).toNat = _
  have e : (BitVec.ofInt 64 (a : Int) ||| BitVec.ofInt 64 (b : Int)).toNat = a ||| b := by
    simp [BitVec.toNat_or, Nat.mod_eq_of_lt ha, Nat.mod_eq_of_lt hb]
  rw [e]
  have := Nat.or_lt_two_pow ha hb
  exact wrapU (by omega) (by omega)
theorem u64_andNot {a b : Nat} (ha : a < 2 ^ 64) (hb : b < 2 ^ 64) : zAndNot .u64 (a : Int) (b : Int) = ((bitsN (fun k => a.testBit k && !b.testBit k) 64 : Nat) : Int) := by
  show IntKind.u64.wrap (BitVec.ofInt 64 (a : Int) &&& ~~~ BitVec.ofInt 64 (b : Int)).toNat = _
  have e : (BitVec.ofInt 64 (a : Int) &&& ~~~ BitVec.ofInt 64 (b : Int)).toNat = bitsN (fun k => a.testBit k && !b.testBit k) 64 := by
    apply Nat.eq_of_testBit_eq
    intro k
    rw [testBit_bitsN]
    rw [BitVec.testBit_toNat, BitVec.getLsbD_and, BitVec.getLsbD_not]
    by_cases hk : k < 64
    · simp [hk, BitVec.getLsbD, Nat.mod_eq_of_lt ha, Nat.mod_eq_of_lt hb]
    · simp [hk]
  rw [e]
  have := bitsN_lt (fun k => a.testBit k && !b.testBit k) 64
  exact wrapU (by omega) (by omega)
theorem u64_shr1 {a k : Nat} (hk : k < 64) : zShr .u64 (a : Int) (k : Int) = ((a >>> k : Nat) : Int) := by
  show (a : Int).fdiv (2 ^ (min (k : Int).toNat 64)) = _
  rw [Int.toNat_natCast]
  have h2 : (2 : Int) ^ k = ((2 ^ k : Nat) : Int) := by simp
  rw [Nat.min_eq_left (by omega), Nat.shiftRight_eq_div_pow, h2, Int.fdiv_eq_ediv_of_nonneg _ (Int.natCast_nonneg _)]
  rfl
theorem u64_shl1 {k : Nat} (hk : k < 64) : zShl .u64 1 (k : Int) = ((2 ^ k : Nat) : Int) := by
  show IntKind.u64.wrap (1 * 2 ^ (min (k : Int).toNat 64)) = _
  rw [Int.toNat_natCast]
  rw [Nat.min_eq_left (by omega)]
  have : 2 ^ k < 2 ^ 64 := Nat.pow_lt_pow_right (by omega) hk
  have h2 : (2 : Int) ^ k = ((2 ^ k : Nat) : Int) := by simp
  rw [h2, Int.one_mul, wrapU (Int.natCast_nonneg _) (by have : ((2 ^ k : Nat) : Int) < ((2 ^ 64 : Nat) : Int) := Int.ofNat_lt.2 this; simpa using this)]
theorem u64_and1 {a : Nat} (ha : a < 2 ^ 64) : zAnd .u64 (a : Int) 1 = if a.testBit 0 then 1 else 0 := by
  show IntKind.u64.wrap (BitVec.ofInt 64 (a : Int) &&& BitVec.ofInt 64 1).toNat = _
  have e : (BitVec.ofInt 64 (a : Int) &&& BitVec.ofInt 64 1).toNat = a % 2 := by
    simp [BitVec.toNat_and, Nat.mod_eq_of_lt ha]
  rw [e, Nat.testBit_zero]
  have h2 : a % 2 = 0 ∨ a % 2 = 1 := by omega
  rcases h2 with h | h <;> simp [h, wrapU]
theorem nat64 {k : Nat} : ((k : Int) / 64).toNat = k / 64 := by omega
theorem int64 {k : Nat} : (k : Int) % 64 = ((k % 64 : Nat) : Int) := by omega
theorem bit_at {k j : Nat} (hj : j < 64) : (64 * (k / 64) + j == k) = decide (k % 64 = j) := by
  rw [Bool.eq_iff_iff]; simp only [beq_iff_eq, decide_eq_true_eq]; omega
theorem word_add {f : Nat → Bool} {k : Nat} : word f (k / 64) ||| 2 ^ (k % 64) = word (fun x => x == k || f x) (k / 64) := by
  refine word_ext (Nat.or_lt_two_pow (word_lt _ _) (Nat.pow_lt_pow_right (by omega) (by omega))) fun j hj => ?_
  rw [Nat.testBit_or, testBit_word, Nat.testBit_two_pow, bit_at hj]
  simp only [hj, decide_true, Bool.true_and]
  rw [Bool.or_comm]
theorem word_remove {f : Nat → Bool} {k : Nat} : bitsN (fun j => (word f (k / 64)).testBit j && !(2 ^ (k % 64)).testBit j) 64 = word (fun x => x != k && f x) (k / 64) := by
  refine word_ext (bitsN_lt _ _) fun j hj => ?_
  rw [testBit_bitsN, testBit_word, Nat.testBit_two_pow, bne, bit_at hj]
  simp only [hj, decide_true, Bool.true_and]
  rw [Bool.and_comm]
theorem word_other {f g : Nat → Bool} {i k : Nat} (h : ∀ x, x ≠ k → g x = f x) (hi : i ≠ k / 64) : word g i = word f i := word_congr fun j hj => h _ (by omega)
theorem take_drop_set {α : Type} {l : List α} {i : Nat} {v : α} (h : i < l.length) : l.take i ++ v :: l.drop (i + 1) = l.set i v := by
  rw [List.set_eq_take_append_cons_drop, if_pos h]
end Go.Cl
set_option linter.unusedSimpArgs false
namespace Go.Cl
open Go.Proofs
variable {W : World} {G : Nat → CV}
theorem word_join {f g : Nat → Bool} {k : Nat} : word (fun x => f x || (decide (x < 64 * k) && g x)) k ||| word g k = word (fun x => f x || (decide (x < 64 * (k + 1)) && g x)) k := by
  refine word_ext (Nat.or_lt_two_pow (word_lt _ _) (word_lt _ _)) fun j hj => ?_
  rw [Nat.testBit_or, testBit_word, testBit_word]
  simp only [hj, decide_true, Bool.true_and, show ¬ 64 * k + j < 64 * k by omega, show 64 * k + j < 64 * (k + 1) by omega, decide_false, Bool.false_and, Bool.or_false]
end Go.Cl
set_option linter.unusedSimpArgs false
set_option linter.unusedVariables false
namespace Go.Cl
open Go.Proofs
variable {W : World} {G : Nat → CV}
/-- What slices.Backward hands on. -/
def backYs (xs : List (List CV)) : List (List CV) := (List.range xs.length).map fun (k : Nat) => [.int .i64 ((xs.length : Int) - 1 - (k : Nat)), .agg (xs.getD (xs.length - 1 - k) [])]
theorem backYs_get {xs : List (List CV)} {k : Nat} (h : k < xs.length) : (backYs xs)[k]? = some [.int .i64 ((xs.length : Int) - 1 - k), .agg (xs.getD (xs.length - 1 - k) [])] := by simp [backYs, h]
def boxed (q : Nat) (cs : List CV) : Hp → Prop := fun H => H q = some (.cells cs)
theorem boxed_up {q : Nat} {cs : List CV} : ∀ (H : Hp) r o, H r = none → boxed q cs H → boxed q cs (H.set r o) := fun H r o h hb => Le.set_new h q _ hb
end Go.Cl
