/- DERIVED HERE. Units as values; the small functions of package code. -/
import Derived.Test.YtfkdjajpopocpaaDoorIters
import Derived.Test.YtfkdjajpopocpaaDoorPlain
set_option linter.unusedSimpArgs false
set_option linter.unusedVariables false
namespace Go.Cl
open Go.Proofs
abbrev ci (n : Int) : CV := .int .i64 n
def opC (o : UOp) : List CV := [ci o.kind, ci o.dst, ci o.a, ci o.b, ci o.c, ci o.n, ci o.guard]
def endC (e : UEnd) : List CV := [ci e.kind, ci e.a, ci e.to, ci e.els]
def blkC (b : UBlk) : List CV := [.sl 7 (b.ops.map opC), ci b.en.kind, ci b.en.a, ci b.en.to, ci b.en.els, ci b.catch_]
def unitC (u : UUnit) : List CV := [.sl 1 (u.sizes.map fun n => [ci n]), ci u.params, ci u.regs, ci u.code, ci u.spill, .sl 6 (u.blocks.map blkC)]
def classL : List Int := [0, 0, 0, 0, 0, 0, 0, 0, 0, 0, 0, 0, 1, 1, 1, 2, 2, 2, 2, 3, 3, 3, 1, 1, 2]
def formsC : List CV := (List.range 25).flatMap fun i => [ci (usesL.getD i 0), ci (classL.getD i 0), .any]
def formOf (k : Int) : List CV := if isKind k then [ci (usesOf k), ci (classL.getD (k - 1).toNat 0), .any] else [ci 0, ci 0, .str ByteArray.empty]
theorem forms_at : ∀ i, i < 25 → (formsC.drop (i * 3)).take 3 = [ci (usesL.getD i 0), ci (classL.getD i 0), .any] := by
  intro i hi
  rcases i with _|_|_|_|_|_|_|_|_|_|_|_|_|_|_|_|_|_|_|_|_|_|_|_|_|i <;> first | rfl | omega
theorem forms_len : formsC.length = 75 := rfl
def boolS (n : Nat) (p : Nat → Bool) : List (List CV) := (List.range n).map fun i => [.bool (p i)]
theorem boolS_get {n : Nat} {p : Nat → Bool} {i : Nat} (h : i < n) : (boolS n p)[i]? = some [.bool (p i)] := by simp [boolS, h]
theorem boolS_len {n : Nat} {p : Nat → Bool} : (boolS n p).length = n := by simp [boolS]
def setS (m : Nat) (f : Nat → Bool) : List (List CV) := (List.range m).map fun i => [.int .u64 (word f i)]
theorem setS_get {m : Nat} {f : Nat → Bool} {i : Nat} (h : i < m) : (setS m f)[i]? = some [.int .u64 (word f i)] := by simp [setS, h]
theorem setS_len {m : Nat} {f : Nat → Bool} : (setS m f).length = m := by simp [setS]
theorem setS_flat {m : Nat} {f : Nat → Bool} : (setS m f).flatten = setC m f := by
  simp only [setS, setC]
  induction List.range m with
  | nil => rfl
  | cons x l ih => simp [ih]
theorem boolS_gets {n : Nat} {p : Nat → Bool} {i : Nat} {e : List CV} : ((boolS n p)[i]? = some e) = (i < n ∧ [.bool (p i)] = e) := by
  simp only [boolS, List.getElem?_map]
  rcases Nat.lt_or_ge i n with h | h
  · rw [List.getElem?_range h]; simp [h]
  · rw [List.getElem?_eq_none (by simpa using h)]; simp [show ¬ i < n by omega]
theorem setS_gets {m : Nat} {f : Nat → Bool} {i : Nat} {e : List CV} : ((setS m f)[i]? = some e) = (i < m ∧ [.int .u64 (word f i)] = e) := by
  simp only [setS, List.getElem?_map]
  rcases Nat.lt_or_ge i m with h | h
  · rw [List.getElem?_range h]; simp [h]
  · rw [List.getElem?_eq_none (by simpa using h)]; simp [show ¬ i < m by omega]
theorem setC_gets {m : Nat} {f : Nat → Bool} {i : Nat} {e : CV} : ((setC m f)[i]? = some e) = (i < m ∧ .int .u64 (word f i) = e) := by
  simp only [setC, List.getElem?_map]
  rcases Nat.lt_or_ge i m with h | h
  · rw [List.getElem?_range h]; simp [h]
  · rw [List.getElem?_eq_none (by simpa using h)]; simp [show ¬ i < m by omega]
theorem boolS_ex {n : Nat} {p : Nat → Bool} {i : Nat} {P : List CV → Prop} : (∃ e, (boolS n p)[i]? = some e ∧ P e) = (i < n ∧ P [.bool (p i)]) := by
  simp only [boolS_gets, eq_iff_iff]
  exact ⟨fun ⟨e, ⟨h, he⟩, k⟩ => ⟨h, he ▸ k⟩, fun ⟨h, k⟩ => ⟨_, ⟨h, rfl⟩, k⟩⟩
theorem setS_ex {m : Nat} {f : Nat → Bool} {i : Nat} {P : List CV → Prop} : (∃ e, (setS m f)[i]? = some e ∧ P e) = (i < m ∧ P [.int .u64 (word f i)]) := by
  simp only [setS_gets, eq_iff_iff]
  exact ⟨fun ⟨e, ⟨h, he⟩, k⟩ => ⟨h, he ▸ k⟩, fun ⟨h, k⟩ => ⟨_, ⟨h, rfl⟩, k⟩⟩
theorem setC_ex {m : Nat} {f : Nat → Bool} {i : Nat} {P : CV → Prop} : (∃ e, (setC m f)[i]? = some e ∧ P e) = (i < m ∧ P (.int .u64 (word f i))) := by
  simp only [setC_gets, eq_iff_iff]
  exact ⟨fun ⟨e, ⟨h, he⟩, k⟩ => ⟨h, he ▸ k⟩, fun ⟨h, k⟩ => ⟨_, ⟨h, rfl⟩, k⟩⟩
attribute [simp ↓] boolS_ex setS_ex setC_ex
attribute [simp] boolS_len setS_len setC_len
def boolC (n : Nat) (p : Nat → Bool) : List CV := (List.range n).map fun i => .bool (p i)
theorem boolC_get {n : Nat} {p : Nat → Bool} {i : Nat} (h : i < n) : (boolC n p)[i]? = some (.bool (p i)) := by simp [boolC, h]
theorem boolC_len {n : Nat} {p : Nat → Bool} : (boolC n p).length = n := by simp [boolC]
variable {W : World} {G : Nat → CV}
theorem of_c (hX : CxOk (cx W G)) (hG : G 0 = .iptr formsC) (k : Int) (hk : k ≤ k) (H : Hp) : CC Tryd.prog W 107 [ci k] H fun x H' => x = .ret (.tuple [.agg (formOf k), .bool (isKind k)]) ∧ H' = H := by
  refine CC.at0 ?_ H
  refine CC.of_ev hX mixed d107 Tryd.func107 rfl rfl (Nat.le_of_ble_eq_true rfl) d107_ok ?_
  simp [Tryd.f107, d107, hG, cfill]
  refine ⟨fun h => ?_, fun h => ⟨fun h2 => ?_, fun h2 => ?_⟩⟩
  · have : isKind k = false := by simp [isKind]; omega
    simp [formOf, this]; rfl
  · have : isKind k = false := by simp [isKind]; omega
    simp [formOf, this]; rfl
  · have : isKind k = true := by simp [isKind]; omega
    rw [wrapI (by omega) (by omega), forms_len, forms_at _ (by omega)]
    refine ⟨by omega, by omega, by omega, by omega, by omega, ?_, this⟩
    simp [formOf, this, usesOf]
theorem endReads_c (hX : CxOk (cx W G)) (e : UEnd) (H : Hp) : CC Tryd.prog W 83 [.agg (endC e)] H fun x H' => (e.kind = 1 ∧ x = .ret .nilsl ∧ H' = H) ∨ (e.kind ≠ 1 ∧ ∃ r, H r = none ∧ x = .ret (.ref r 0 1 1) ∧ H' = H.set r (.cells [ci e.a])) := by
  refine CC.shrink ?_
  refine CC.of_ev hX mixed d83 Tryd.func83 rfl rfl (Nat.le_of_ble_eq_true rfl) d83_ok ?_
  simp [Tryd.f83, d83, cfill, endC]
  intro r hr
  refine ⟨fun h => ⟨Le.set_new hr, h⟩, fun h r1 hne _ hr1 => ⟨_, Le.set (Le.set_new hr), h, r1, hr1, rfl, rfl⟩⟩
end Go.Cl
