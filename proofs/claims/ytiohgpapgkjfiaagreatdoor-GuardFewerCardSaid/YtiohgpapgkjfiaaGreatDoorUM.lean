/- DERIVED HERE. Units as values; the small functions of package code. DERIVED HERE. What may trap; what is read and written. DERIVED HERE. What an operation reads and writes. DERIVED HERE. What an operation reads. DERIVED HERE. What an operation reads, its Guard too. -/
import Derived.Test.YtiohgpapgkjfiaaGreatDoorIters
import Derived.Test.YtiohgpapgkjfiaaGreatDoorPlain
import Derived.Test.YtiohgpapgkjfiaaGreatDoorOwn
set_option linter.unusedSimpArgs false
set_option linter.unusedVariables false
namespace Go.Cl
open Go.Proofs
abbrev ci (n : Int) : CV := .int .i64 n
def opC (o : UOp) : List CV := [ci o.kind, ci o.dst, ci o.a, ci o.b, ci o.c, ci o.n, ci o.guard]
def endC (e : UEnd) : List CV := [ci e.kind, ci e.a, ci e.to, ci e.els]
def blkC (b : UBlk) : List CV := [.sl 7 (b.ops.map opC), ci b.en.kind, ci b.en.a, ci b.en.to, ci b.en.els, ci b.catch_]
def unitC (u : UUnit) : List CV := [.sl 1 (u.sizes.map fun n => [ci n]), ci u.params, ci u.regs, ci u.code, ci u.spill, .sl 6 (u.blocks.map blkC)]
def classL : List Int := [0, 0, 0, 0, 0, 0, 0, 0, 0, 0, 0, 0, 1, 1, 1, 2, 2, 2, 2, 3, 3, 3, 1, 1, 2]
def formsC : List CV := (List.range 25).flatMap fun i => [ci (usesL.getD i 0), ci (classL.getD i 0), .any]
def formOf (k : Int) : List CV := if isKind k then [ci (usesOf k), ci (classL.getD (k - 1).toNat 0), .any] else [ci 0, ci 0, .str ByteArray.empty]
theorem forms_at : ∀ i, i < 25 → (formsC.drop (i * 3)).take 3 = [ci (usesL.getD i 0), ci (classL.getD i 0), .any] := by
  intro i hi
  rcases i with _|_|_|_|_|_|_|_|_|_|_|_|_|_|_|_|_|_|_|_|_|_|_|_|_|i <;> first | rfl | omega
theorem forms_len : formsC.length = 75 := rfl
def boolS (n : Nat) (p : Nat → Bool) : List (List CV) := (List.range n).map fun i => [.bool (p i)]
theorem boolS_get {n : Nat} {p : Nat → Bool} {i : Nat} (h : i < n) : (boolS n p)[i]? = some [.bool (p i)] := by simp [boolS, h]
theorem boolS_len {n : Nat} {p : Nat → Bool} : (boolS n p).length = n := by simp [boolS]
def setS (m : Nat) (f : Nat → Bool) : List (List CV) := (List.range m).map fun i => [.int .u64 (word f i)]
theorem setS_len {m : Nat} {f : Nat → Bool} : (setS m f).length = m := by simp [setS]
theorem boolS_gets {n : Nat} {p : Nat → Bool} {i : Nat} {e : List CV} : ((boolS n p)[i]? = some e) = (i < n ∧ [.bool (p i)] = e) := by
  simp only [boolS, List.getElem?_map]
  rcases Nat.lt_or_ge i n with h | h
  · rw [List.getElem?_range h]; simp [h]
  · rw [List.getElem?_eq_none (by simpa using h)]; simp [show ¬ i < n by omega]
theorem setS_gets {m : Nat} {f : Nat → Bool} {i : Nat} {e : List CV} : ((setS m f)[i]? = some e) = (i < m ∧ [.int .u64 (word f i)] = e) := by
  simp only [setS, List.getElem?_map]
  rcases Nat.lt_or_ge i m with h | h
  · rw [List.getElem?_range h]; simp [h]
  · rw [List.getElem?_eq_none (by simpa using h)]; simp [show ¬ i < m by omega]
theorem setC_gets {m : Nat} {f : Nat → Bool} {i : Nat} {e : CV} : ((setC m f)[i]? = some e) = (i < m ∧ .int .u64 (word f i) = e) := by
  simp only [setC, List.getElem?_map]
  rcases Nat.lt_or_ge i m with h | h
  · rw [List.getElem?_range h]; simp [h]
  · rw [List.getElem?_eq_none (by simpa using h)]; simp [show ¬ i < m by omega]
theorem boolS_ex {n : Nat} {p : Nat → Bool} {i : Nat} {P : List CV → Prop} : (∃ e, (boolS n p)[i]? = some e ∧ P e) = (i < n ∧ P [.bool (p i)]) := by
  simp only [boolS_gets, eq_iff_iff]
  exact ⟨fun ⟨e, ⟨h, he⟩, k⟩ => ⟨h, he ▸ k⟩, fun ⟨h, k⟩ => ⟨_, ⟨h, rfl⟩, k⟩⟩
theorem setS_ex {m : Nat} {f : Nat → Bool} {i : Nat} {P : List CV → Prop} : (∃ e, (setS m f)[i]? = some e ∧ P e) = (i < m ∧ P [.int .u64 (word f i)]) := by
  simp only [setS_gets, eq_iff_iff]
  exact ⟨fun ⟨e, ⟨h, he⟩, k⟩ => ⟨h, he ▸ k⟩, fun ⟨h, k⟩ => ⟨_, ⟨h, rfl⟩, k⟩⟩
theorem setC_ex {m : Nat} {f : Nat → Bool} {i : Nat} {P : CV → Prop} : (∃ e, (setC m f)[i]? = some e ∧ P e) = (i < m ∧ P (.int .u64 (word f i))) := by
  simp only [setC_gets, eq_iff_iff]
  exact ⟨fun ⟨e, ⟨h, he⟩, k⟩ => ⟨h, he ▸ k⟩, fun ⟨h, k⟩ => ⟨_, ⟨h, rfl⟩, k⟩⟩
attribute [simp ↓] boolS_ex setS_ex setC_ex
attribute [simp] boolS_len setS_len setC_len
def boolC (n : Nat) (p : Nat → Bool) : List CV := (List.range n).map fun i => .bool (p i)
theorem boolC_get {n : Nat} {p : Nat → Bool} {i : Nat} (h : i < n) : (boolC n p)[i]? = some (.bool (p i)) := by simp [boolC, h]
theorem boolC_len {n : Nat} {p : Nat → Bool} : (boolC n p).length = n := by simp [boolC]
variable {W : World} {G : Nat → CV}
theorem of_c (hX : CxOk (cx W G)) (hG : G 0 = .iptr formsC) (k : Int) (hk : k ≤ k) (H : Hp) : CC Tryz.prog W 136 [ci k] H fun x H' => x = .ret (.tuple [.agg (formOf k), .bool (isKind k)]) ∧ H' = H := by
  refine CC.at0 ?_ H
  refine CC.of_ev hX mixed d136 Tryz.func136 rfl rfl (Nat.le_of_ble_eq_true rfl) d136_ok ?_
  simp [Tryz.f136, d136, hG, cfill]
  refine ⟨fun h => ?_, fun h => ⟨fun h2 => ?_, fun h2 => ?_⟩⟩
  · have : isKind k = false := by simp [isKind]; omega
    simp [formOf, this]; rfl
  · have : isKind k = false := by simp [isKind]; omega
    simp [formOf, this]; rfl
  · have : isKind k = true := by simp [isKind]; omega
    rw [wrapI (by omega) (by omega), forms_len, forms_at _ (by omega)]
    refine ⟨by omega, by omega, by omega, by omega, by omega, ?_, this⟩
    simp [formOf, this, usesOf]
end Go.Cl
set_option linter.unusedSimpArgs false
set_option linter.unusedVariables false
namespace Go.Cl
open Go.Proofs
variable {W : World} {G : Nat → CV}
set_option maxRecDepth 8000
theorem endTrap_c (hX : CxOk (cx W G)) (e : UEnd) (n : Nat) (cc : CV) (hcc : cc.stor = true ∧ cc.cells = [cc]) (p : Nat → Bool) (H : Hp) (ha : e.kind ≠ 1 → 0 ≤ e.a ∧ e.a < n) : CC Tryz.prog W 144 [.agg [.sl 1 (boolS n p), cc], .agg (endC e)] H fun x H' => x = .ret (.bool (mayEnd p e)) ∧ H' = H := by
  refine CC.at0 ?_ H
  refine CC.of_ev hX mixed d144 Tryz.func144 rfl rfl (Nat.le_of_ble_eq_true rfl) d144_ok ?_
  simp (config := {contextual := true}) [Tryz.f144, d144, endC]
  intro r r1 h1 h2
  refine ⟨fun h => by simp [mayEnd, h], fun h => ⟨fun h' => ?_, fun h' => by simp [mayEnd, h']⟩⟩
  have := ha h'
  exact ⟨this.1, by omega, by simp [mayEnd, h, h']⟩
theorem trap_c (hX : CxOk (cx W G)) (o : UOp) (n : Nat) (cc : CV) (hcc : cc.stor = true ∧ cc.cells = [cc]) (p : Nat → Bool) (H : Hp) (hg : o.guard ≠ -1 → 0 ≤ o.guard ∧ o.guard < n) (ha : o.kind = 20 ∨ o.kind = 21 ∨ o.kind = 22 → 0 ≤ o.a ∧ o.a < n) : CC Tryz.prog W 146 [.agg [.sl 1 (boolS n p), cc], .agg (opC o)] H fun x H' => x = .ret (.bool (mayTrap p o)) ∧ H' = H := by
  refine CC.at0 ?_ H
  refine CC.of_ev hX mixed d146 Tryz.func146 rfl rfl (Nat.le_of_ble_eq_true rfl) d146_ok ?_
  simp (config := {contextual := true, maxSteps := 2000000}) [Tryz.f146, d146, opC]
  intro r r1 h1 h2
  have k20 : ∀ k, o.kind = k → (k = 20 ∨ k = 21 ∨ k = 22) → 0 ≤ o.a ∧ o.a.toNat < n := fun k h1 h2 => by have := ha (by omega); omega
  refine ⟨fun h => ⟨(hg h).1, by have := hg h; omega, fun hp => by simp [mayTrap, h, hp], fun hp => ?_⟩, fun h => ?_⟩
  all_goals
    refine ⟨fun h => by simp [mayTrap, h], fun k14 => ⟨fun h => by simp [mayTrap, h], fun k15 => ⟨fun h => by simp [mayTrap, h], fun k16 => ⟨fun h => by simp [mayTrap, h], fun k17 => ?_⟩⟩⟩⟩
    refine ⟨fun h20 => ⟨(k20 _ h20 (by omega)).1, (k20 _ h20 (by omega)).2, by simp [mayTrap, h20, h]; try simp [hp]⟩, fun h20 => ⟨fun h21 => ⟨(k20 _ h21 (by omega)).1, (k20 _ h21 (by omega)).2, by simp [mayTrap, h21, h]; try simp [hp]⟩, fun h21 => ⟨fun h22 => ⟨(k20 _ h22 (by omega)).1, (k20 _ h22 (by omega)).2, by simp [mayTrap, h22, h]; try simp [hp]⟩, fun h22 => ?_⟩⟩⟩
    simp [mayTrap, k14, k15, k16, k17, h20, h21, h22, h]
    try simp [hp]
end Go.Cl
set_option linter.unusedSimpArgs false
set_option linter.unusedVariables false
namespace Go.Cl
open Go.Proofs
variable {W : World} {G : Nat → CV}
set_option maxRecDepth 8000
theorem uses_tab : ∀ j, j < 26 → ∀ i, i < 8 → (zAnd .i64 (((0 : Int) :: usesL).getD j 0) (2 ^ i) != 0) = (((0 : Int) :: usesL).getD j 0).toNat.testBit i := by decide +kernel
theorem uses_at (k : Int) : ∃ j, j < 26 ∧ usesOf k = ((0 : Int) :: usesL).getD j 0 := by
  by_cases h : isKind k = true
  · refine ⟨k.toNat, ?_, ?_⟩
    · simp [isKind] at h; omega
    · simp only [usesOf, h, if_true]
      simp [isKind] at h
      rw [show k.toNat = (k - 1).toNat + 1 by omega]
      rfl
  · exact ⟨0, by omega, by simp [usesOf, h]⟩
theorem uses_and (k : Int) (i : Nat) (hi : i < 8) : (zAnd .i64 (usesOf k) (2 ^ i) != 0) = uBit k i := by
  obtain ⟨j, hj, h⟩ := uses_at k
  rw [uBit, h]
  exact uses_tab j hj i hi
theorem uses_and' (k : Int) (i : Nat) (n : Int) (hi : i < 8) (hn : n = 2 ^ i) : (zAnd .i64 (usesOf k) n = 0) = (uBit k i = false) := by
  subst hn
  rw [← uses_and k i hi]
  simp
theorem formOf_0 (k : Int) : ∃ a b, formOf k = [ci (usesOf k), a, b] ∧ a.stor = true ∧ a.cells = [a] := by
  by_cases h : isKind k = true
  · exact ⟨_, _, by simp [formOf, h]; exact ⟨rfl, rfl⟩, rfl, rfl⟩
  · exact ⟨_, _, by simp [formOf, h, usesOf]; exact ⟨rfl, rfl⟩, rfl, rfl⟩
def Kd (k : Int) : Prop := k ≤ k
end Go.Cl
set_option linter.unusedSimpArgs false
set_option linter.unusedVariables false
namespace Go.Cl
open Go.Proofs
variable {W : World} {G : Nat → CV}
set_option maxRecDepth 8000
def ints (l : List Int) : List (List CV) := l.map fun n => [ci n]
def readsK (o : UOp) : Nat → List Int
  | 0 => []
  | k + 1 => readsK o k ++ (if uBit o.kind (k + 1) then [[o.a, o.b, o.c].getD k 0] else [])
theorem readsK_3 (o : UOp) : readsK o 3 = reads o := by
  simp only [readsK, reads, List.nil_append, List.append_assoc]
  rfl
theorem readsK_le (o : UOp) : ∀ k, (readsK o k).length ≤ k
  | 0 => by simp [readsK]
  | k + 1 => by
    have := readsK_le o k
    simp only [readsK, List.length_append]
    split <;> simp <;> omega
theorem shl_2 (k : Nat) (hk : k < 3) : zShl .i64 2 k = 2 ^ (k + 1) := by
  rcases k with _|_|_|k <;> first | rfl | omega
theorem read_c (hX : CxOk (cx W G)) (hG : G 0 = .iptr formsC) (o : UOp) (hk : Kd o.kind) (H : Hp) : CC Tryz.prog W 140 [.agg (opC o)] H fun x H' => ∃ v, x = .ret v ∧ Own H H' v 1 (ints (reads o)) := by
  refine CC.of_ev hX mixed d140 Tryz.func140 rfl rfl (Nat.le_of_ble_eq_true rfl) d140_ok ?_
  simp (config := {contextual := true}) [Tryz.f140, d140, opC]
  intro r1 hr1
  refine (of_c hX hG o.kind (by have := hk; simp only [Kd] at this; omega) _).mono ?_
  rintro x H' ⟨rfl, rfl⟩
  obtain ⟨a, b, hf, ha, hb⟩ := formOf_0 o.kind
  simp (config := {contextual := true}) [hf, cfill]
  intro r2 h1 h2 hr2
  generalize hH0 : (H.set r1 _).set r2 _ = H0
  have hle : Le H H0 := by rw [← hH0]; exact (Le.set_new hr1).trans (Le.set_new (by simp [h1, hr2]))
  have h02 : H0 r2 = some (.cells [ci (usesOf o.kind), a, b]) := by rw [← hH0]; simp
  have h01 : H0 r1 = some (.cells (opC o)) := by rw [← hH0]; simp [h2, opC]
  refine CW.loop (fun j s' H' => ∃ k v, k ≤ 3 ∧ j = 3 - k ∧ s'.env 3 = .ptr r2 0 ∧ s'.env 5 = v ∧ s'.env 20 = .agg [ci o.a, ci o.b, ci o.c] ∧ s'.env 21 = .int .i64 k ∧ s'.ds = [] ∧ Own H0 H' v 1 (ints (readsK o k))) ?_ (m := 3) ⟨0, .nilsl, by simp [readsK, ints, Own.nil, Le.refl]⟩
  rintro j ⟨e, ds⟩ H' ⟨k, v, hk3, rfl, e3, e5, e20, e21, rfl, hown⟩
  dsimp only at e3 e5 e20 e21
  refine vw_sound hX mixed (D := d140) _ _ _ _ (by kernel_rfl) ?_
  have h2' := hown.le r2 _ h02
  by_cases hk : k < 3
  · have hget : [ci o.a, ci o.b, ci o.c][k]? = some (ci ([o.a, o.b, o.c].getD k 0)) := by rcases k with _|_|_|k <;> first | rfl | omega
    generalize [ci o.a, ci o.b, ci o.c] = L at hget e20
    generalize hn : [o.a, o.b, o.c].getD k 0 = n at hget
    have hk' : (k : Int) < 3 := by omega
    simp [e3, e5, e20, e21, h2', hk, hk', hget, d140, cfill, -vcAppend]
    rw [shl_2 k hk, uses_and' o.kind (k + 1) _ (by omega) rfl]
    have hlen := readsK_le o k
    refine ⟨fun hz r hr => ?_, fun hz => ?_⟩
    · refine (hown.more hr).append (ys := [[ci n]]) (by simp) (by simp [ints]; omega) (src_one set_at rfl) fun v' H2 how2 _ => ?_
      simp [e3, e5, e20, e21]
      refine ⟨2 - k, by omega, k + 1, by omega, by omega, by rw [wrapI (by omega) (by omega)]; simp, ?_⟩
      simp at hz
      simpa [readsK, hz, ints, ← hn] using how2
    · refine ⟨2 - k, by omega, k + 1, by omega, by omega, by rw [wrapI (by omega) (by omega)]; simp, ?_⟩
      simpa [readsK, hz] using hown
  · have hk3' : k = 3 := by omega
    subst hk3'
    simp [e3, e5, e20, e21]
    rw [readsK_3] at hown
    exact hown.base hle
end Go.Cl
set_option linter.unusedSimpArgs false
set_option linter.unusedVariables false
namespace Go.Cl
open Go.Proofs
variable {W : World} {G : Nat → CV}
set_option maxRecDepth 8000
theorem reads_len (o : UOp) : (reads o).length ≤ 3 := by rw [← readsK_3]; exact readsK_le o 3
end Go.Cl
