/- DERIVED HERE. The reference's Find and Check. -/
import Derived.Test.YtoophlkbngagcaaDoorRB
import Derived.Test.YtoophlkbngagcaaDoorTAq
set_option linter.unusedSimpArgs false
set_option linter.unusedVariables false
namespace Go.Cl
open Go.Proofs Dd
variable {W : World} {G : Nat → CV}
set_option maxRecDepth 8000
set_option maxHeartbeats 4000000
theorem errU_blk {u : UUnit} {k : UBlk} {i : Nat} (hB : Bef u i) (hk : u.blocks[i]? = some k) {e : Int} (he : e ≠ 0) (h : errBlk u k = e) : errU u = e := by
  have hn : errBlk u k ≠ 0 := by rw [h]; exact he
  have h0 := errBlks_at hk hB.a hn
  simp only [errU, hB.h1, hB.h2, hB.h3, h0, h]
  simp [he]
structure fdS (H1 : Hp) (u : UUnit) (r1 d : Nat) (j : Nat) (s' : CA) (H' : Hp) : Prop where
  ex : ∃ i i5 : Nat, i ≤ u.sizes.length ∧ j = u.sizes.length - i ∧ s'.env 1 = .ptr r1 0 ∧ s'.env 5 = .int .i64 i5 ∧ i5 + d = i ∧ s'.ds = [] ∧ H' = H1 ∧ ∀ (k : Nat) n, k < i → u.sizes[k]? = some n → 1 ≤ n ∧ n ≤ 65536
structure fdB (H1 : Hp) (u : UUnit) (r1 d : Nat) (j : Nat) (s' : CA) (H' : Hp) : Prop where
  ex : ∃ i i7 : Nat, i ≤ u.blocks.length ∧ j = u.blocks.length - i ∧ s'.env 1 = .ptr r1 0 ∧ s'.env 6 = .int .i64 (off u i) ∧ s'.env 7 = .int .i64 i7 ∧ i7 + d = i ∧ s'.ds = [] ∧ Le H1 H' ∧ ∀ (j : Nat) k, j < i → u.blocks[j]? = some k → wfBlk u k = true
structure fdK (H2 : Hp) (u : UUnit) (k : UBlk) (i r1 r8 d : Nat) (j : Nat) (s' : CA) (H' : Hp) : Prop where
  ex : ∃ t t9 : Nat, t ≤ k.ops.length ∧ j = k.ops.length - t ∧ s'.env 1 = .ptr r1 0 ∧ s'.env 6 = .int .i64 (off u (i + 1)) ∧ s'.env 7 = .int .i64 i ∧ s'.env 8 = .ptr r8 0 ∧ s'.env 9 = .int .i64 t9 ∧ t9 + d = t ∧ s'.ds = [] ∧ H' = H2 ∧ ∀ (j : Nat) o, j < t → k.ops[j]? = some o → wfOp u o = true
structure fdE (H2 : Hp) (i r1 r8 : Nat) (u : UUnit) (c : Nat) (s' : CA) (H' : Hp) : Prop where
  ex : s'.env 1 = .ptr r1 0 ∧ s'.env 6 = .int .i64 c ∧ s'.env 7 = .int .i64 i ∧ s'.env 8 = .ptr r8 0 ∧ s'.ds = [] ∧ H' = H2
end Go.Cl
