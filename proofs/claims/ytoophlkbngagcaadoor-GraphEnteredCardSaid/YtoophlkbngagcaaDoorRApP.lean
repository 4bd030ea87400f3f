/- DERIVED HERE. When two registers may share a place. -/
import Derived.Test.YtoophlkbngagcaaDoorRB
set_option linter.unusedSimpArgs false
set_option linter.unusedVariables false
namespace Go.Cl
/-- An operation that writes a while b is live behind it, and doesn't copy b. -/
def clashB (o : UOp) (S : Nat → Bool) (a b : Int) : Bool := uBit o.kind 0 && decide (o.dst = a) && S b.toNat && !(decide (o.kind = 2) && decide (o.a = b) && decide (o.guard = -1))
def opBad (S : Nat → Bool) (o : UOp) (a b : Int) : Bool := clashB o S a b || clashB o S b a
def opBadAt (u : UUnit) (p : Nat → Bool) (I : Nat → Nat → Bool) (k : UBlk) (a b : Int) (t : Nat) : Bool := match k.ops[t]? with
  | some o => opBad (beforeP u p I k (k.ops.drop (t + 1))) o a b
  | none => false
def thrBad (u : UUnit) (p : Nat → Bool) (I : Nat → Nat → Bool) (k : UBlk) (a b : Int) : Bool := decide (0 ≤ k.catch_) && throwsB p k && ((decide (a = u.code) && I k.catch_.toNat b.toNat) || (decide (b = u.code) && I k.catch_.toNat a.toNat))
def blkBad (u : UUnit) (p : Nat → Bool) (I : Nat → Nat → Bool) (a b : Int) (k : UBlk) : Bool := thrBad u p I k a b || (List.range k.ops.length).any (opBadAt u p I k a b)
def apartP (u : UUnit) (p : Nat → Bool) (I : Nat → Nat → Bool) (a b : Int) : Bool := !(I 0 a.toNat && I 0 b.toNat) && !u.blocks.any (blkBad u p I a b)
section
variable {u : UUnit} {p : Nat → Bool} {I : Nat → Nat → Bool} {k : UBlk} {a b : Int} {o : UOp} {t : Nat}
theorem apart_entry (h : (I 0 a.toNat && I 0 b.toNat) = true) : apartP u p I a b = false := by simp only [apartP, h]; rfl
theorem apart_blk (hk : k ∈ u.blocks) (h : blkBad u p I a b k = true) : apartP u p I a b = false := by
  have : u.blocks.any (blkBad u p I a b) = true := List.any_eq_true.2 ⟨k, hk, h⟩
  simp only [apartP, this, Bool.not_true, Bool.and_false]
theorem apart_thr (hk : k ∈ u.blocks) (h : thrBad u p I k a b = true) : apartP u p I a b = false := apart_blk hk (by simp only [blkBad, h, Bool.true_or])
theorem opBadAt_of (ho : k.ops[t]? = some o) : opBadAt u p I k a b t = opBad (beforeP u p I k (k.ops.drop (t + 1))) o a b := by simp only [opBadAt, ho]
theorem apart_op (hk : k ∈ u.blocks) (ho : k.ops[t]? = some o) (h : opBad (beforeP u p I k (k.ops.drop (t + 1))) o a b = true) : apartP u p I a b = false :=
  apart_blk hk (by
    have : (List.range k.ops.length).any (opBadAt u p I k a b) = true := List.any_eq_true.2 ⟨t, List.mem_range.2 (List.getElem?_eq_some_iff.1 ho).1, by rw [opBadAt_of ho]; exact h⟩
    simp only [blkBad, this, Bool.or_true])
theorem blk_ok (h1 : thrBad u p I k a b = false) (h2 : ∀ t, t < k.ops.length → opBadAt u p I k a b t = false) : blkBad u p I a b k = false := by
  have : (List.range k.ops.length).any (opBadAt u p I k a b) = false := by
    rw [List.any_eq_false]
    intro t ht
    rw [h2 t (List.mem_range.1 ht)]
    exact Bool.false_ne_true
  simp only [blkBad, h1, this, Bool.or_false]
theorem apart_ok (h : (I 0 a.toNat && I 0 b.toNat) = false) (hb : ∀ k ∈ u.blocks, blkBad u p I a b k = false) : apartP u p I a b = true := by
  have : u.blocks.any (blkBad u p I a b) = false := by
    rw [List.any_eq_false]
    intro k hk
    rw [hb k hk]
    exact Bool.false_ne_true
  simp only [apartP, h, this, Bool.not_false, Bool.and_true]
variable {S : Nat → Bool}
theorem opBad_no (h : uBit o.kind 0 = false) : opBad S o a b = false := by simp [opBad, clashB, h]
theorem opBad_ne (h1 : o.dst ≠ a) (h2 : o.dst ≠ b) : opBad S o a b = false := by simp [opBad, clashB, h1, h2]
theorem opBad_l (h : uBit o.kind 0 = true) (hd : o.dst = a) (hn : a ≠ b) : opBad S o a b = (S b.toNat && !(decide (o.kind = 2) && decide (o.a = b) && decide (o.guard = -1))) := by
  simp [opBad, clashB, h, hd, hn]
theorem opBad_r (h : uBit o.kind 0 = true) (hd : o.dst = b) (hn : a ≠ b) : opBad S o a b = (S a.toNat && !(decide (o.kind = 2) && decide (o.a = a) && decide (o.guard = -1))) := by
  simp [opBad, clashB, h, hd, Ne.symm hn]
end
end Go.Cl
