/- DERIVED HERE. Units as values; the small functions of package code. DERIVED HERE. What may trap; what is read and written. DERIVED HERE. What an operation reads and writes. DERIVED HERE. What an operation reads. DERIVED HERE. What an operation reads, its Guard too. DERIVED HERE. Sets read in what nobody writes; Clone, Equal. DERIVED HERE. What is live: caught, end, before. DERIVED HERE. What is live: before an operation. DERIVED HERE. What is live before an operation of a block: the walk backward through it. DERIVED HERE. The list of a set. DERIVED HERE. ContainsFunc over numbers; what spreads poison. DERIVED HERE. What spreads poison. DERIVED HERE. All operations of a unit, gone through. -/
import Derived.Test.YtoophlkbngagcaaGreatDoorIters
import Derived.Test.YtoophlkbngagcaaGreatDoorPlain
import Derived.Test.YtoophlkbngagcaaGreatDoorOwn
import Derived.Test.YtoophlkbngagcaaGreatDoorS2
set_option linter.unusedSimpArgs false
set_option linter.unusedVariables false
namespace Go.Cl
open Go.Proofs
abbrev ci (n : Int) : CV := .int .i64 n
def opC (o : UOp) : List CV := [ci o.kind, ci o.dst, ci o.a, ci o.b, ci o.c, ci o.n, ci o.guard]
def endC (e : UEnd) : List CV := [ci e.kind, ci e.a, ci e.to, ci e.els]
def blkC (b : UBlk) : List CV := [.sl 7 (b.ops.map opC), ci b.en.kind, ci b.en.a, ci b.en.to, ci b.en.els, ci b.catch_]
def unitC (u : UUnit) : List CV := [.sl 1 (u.sizes.map fun n => [ci n]), ci u.params, ci u.regs, ci u.code, ci u.spill, .sl 6 (u.blocks.map blkC)]
def classL : List Int := [0, 0, 0, 0, 0, 0, 0, 0, 0, 0, 0, 0, 1, 1, 1, 2, 2, 2, 2, 3, 3, 3, 1, 1, 2]
def formsC : List CV := (List.range 25).flatMap fun i => [ci (usesL.getD i 0), ci (classL.getD i 0), .any]
def formOf (k : Int) : List CV := if isKind k then [ci (usesOf k), ci (classL.getD (k - 1).toNat 0), .any] else [ci 0, ci 0, .str ByteArray.empty]
theorem forms_at : ∀ i, i < 25 → (formsC.drop (i * 3)).take 3 = [ci (usesL.getD i 0), ci (classL.getD i 0), .any] := by
  intro i hi
  rcases i with _|_|_|_|_|_|_|_|_|_|_|_|_|_|_|_|_|_|_|_|_|_|_|_|_|i <;> first | rfl | omega
theorem forms_len : formsC.length = 75 := rfl
def boolS (n : Nat) (p : Nat → Bool) : List (List CV) := (List.range n).map fun i => [.bool (p i)]
theorem boolS_get {n : Nat} {p : Nat → Bool} {i : Nat} (h : i < n) : (boolS n p)[i]? = some [.bool (p i)] := by simp [boolS, h]
theorem boolS_len {n : Nat} {p : Nat → Bool} : (boolS n p).length = n := by simp [boolS]
def setS (m : Nat) (f : Nat → Bool) : List (List CV) := (List.range m).map fun i => [.int .u64 (word f i)]
theorem setS_get {m : Nat} {f : Nat → Bool} {i : Nat} (h : i < m) : (setS m f)[i]? = some [.int .u64 (word f i)] := by simp [setS, h]
theorem setS_len {m : Nat} {f : Nat → Bool} : (setS m f).length = m := by simp [setS]
theorem setS_flat {m : Nat} {f : Nat → Bool} : (setS m f).flatten = setC m f := by
  simp only [setS, setC]
  induction List.range m with
  | nil => rfl
  | cons x l ih => simp [ih]
theorem boolS_gets {n : Nat} {p : Nat → Bool} {i : Nat} {e : List CV} : ((boolS n p)[i]? = some e) = (i < n ∧ [.bool (p i)] = e) := by
  simp only [boolS, List.getElem?_map]
  rcases Nat.lt_or_ge i n with h | h
  · rw [List.getElem?_range h]; simp [h]
  · rw [List.getElem?_eq_none (by simpa using h)]; simp [show ¬ i < n by omega]
theorem setS_gets {m : Nat} {f : Nat → Bool} {i : Nat} {e : List CV} : ((setS m f)[i]? = some e) = (i < m ∧ [.int .u64 (word f i)] = e) := by
  simp only [setS, List.getElem?_map]
  rcases Nat.lt_or_ge i m with h | h
  · rw [List.getElem?_range h]; simp [h]
  · rw [List.getElem?_eq_none (by simpa using h)]; simp [show ¬ i < m by omega]
theorem setC_gets {m : Nat} {f : Nat → Bool} {i : Nat} {e : CV} : ((setC m f)[i]? = some e) = (i < m ∧ .int .u64 (word f i) = e) := by
  simp only [setC, List.getElem?_map]
  rcases Nat.lt_or_ge i m with h | h
  · rw [List.getElem?_range h]; simp [h]
  · rw [List.getElem?_eq_none (by simpa using h)]; simp [show ¬ i < m by omega]
theorem boolS_ex {n : Nat} {p : Nat → Bool} {i : Nat} {P : List CV → Prop} : (∃ e, (boolS n p)[i]? = some e ∧ P e) = (i < n ∧ P [.bool (p i)]) := by
  simp only [boolS_gets, eq_iff_iff]
  exact ⟨fun ⟨e, ⟨h, he⟩, k⟩ => ⟨h, he ▸ k⟩, fun ⟨h, k⟩ => ⟨_, ⟨h, rfl⟩, k⟩⟩
theorem setS_ex {m : Nat} {f : Nat → Bool} {i : Nat} {P : List CV → Prop} : (∃ e, (setS m f)[i]? = some e ∧ P e) = (i < m ∧ P [.int .u64 (word f i)]) := by
  simp only [setS_gets, eq_iff_iff]
  exact ⟨fun ⟨e, ⟨h, he⟩, k⟩ => ⟨h, he ▸ k⟩, fun ⟨h, k⟩ => ⟨_, ⟨h, rfl⟩, k⟩⟩
theorem setC_ex {m : Nat} {f : Nat → Bool} {i : Nat} {P : CV → Prop} : (∃ e, (setC m f)[i]? = some e ∧ P e) = (i < m ∧ P (.int .u64 (word f i))) := by
  simp only [setC_gets, eq_iff_iff]
  exact ⟨fun ⟨e, ⟨h, he⟩, k⟩ => ⟨h, he ▸ k⟩, fun ⟨h, k⟩ => ⟨_, ⟨h, rfl⟩, k⟩⟩
attribute [simp ↓] boolS_ex setS_ex setC_ex
attribute [simp] boolS_len setS_len setC_len
def boolC (n : Nat) (p : Nat → Bool) : List CV := (List.range n).map fun i => .bool (p i)
theorem boolC_get {n : Nat} {p : Nat → Bool} {i : Nat} (h : i < n) : (boolC n p)[i]? = some (.bool (p i)) := by simp [boolC, h]
theorem boolC_len {n : Nat} {p : Nat → Bool} : (boolC n p).length = n := by simp [boolC]
variable {W : World} {G : Nat → CV}
theorem of_c (hX : CxOk (cx W G)) (hG : G 0 = .iptr formsC) (k : Int) (hk : k ≤ k) (H : Hp) : CC Tryz.prog W 128 [ci k] H fun x H' => x = .ret (.tuple [.agg (formOf k), .bool (isKind k)]) ∧ H' = H := by
  refine CC.at0 ?_ H
  refine CC.of_ev hX mixed d128 Tryz.func128 rfl rfl (Nat.le_of_ble_eq_true rfl) d128_ok ?_
  simp [Tryz.f128, d128, hG, cfill]
  refine ⟨fun h => ?_, fun h => ⟨fun h2 => ?_, fun h2 => ?_⟩⟩
  · have : isKind k = false := by simp [isKind]; omega
    simp [formOf, this]; rfl
  · have : isKind k = false := by simp [isKind]; omega
    simp [formOf, this]; rfl
  · have : isKind k = true := by simp [isKind]; omega
    rw [wrapI (by omega) (by omega), forms_len, forms_at _ (by omega)]
    refine ⟨by omega, by omega, by omega, by omega, by omega, ?_, this⟩
    simp [formOf, this, usesOf]
end Go.Cl
set_option linter.unusedSimpArgs false
set_option linter.unusedVariables false
namespace Go.Cl
open Go.Proofs
variable {W : World} {G : Nat → CV}
set_option maxRecDepth 8000
theorem endTrap_c (hX : CxOk (cx W G)) (e : UEnd) (n : Nat) (cc : CV) (hcc : cc.stor = true ∧ cc.cells = [cc]) (p : Nat → Bool) (H : Hp) (ha : e.kind ≠ 1 → 0 ≤ e.a ∧ e.a < n) : CC Tryz.prog W 103 [.agg [.sl 1 (boolS n p), cc], .agg (endC e)] H fun x H' => x = .ret (.bool (mayEnd p e)) ∧ H' = H := by
  refine CC.at0 ?_ H
  refine CC.of_ev hX mixed d103 Tryz.func103 rfl rfl (Nat.le_of_ble_eq_true rfl) d103_ok ?_
  simp (config := {contextual := true}) [Tryz.f103, d103, endC]
  intro r r1 h1 h2
  refine ⟨fun h => by simp [mayEnd, h], fun h => ⟨fun h' => ?_, fun h' => by simp [mayEnd, h']⟩⟩
  have := ha h'
  exact ⟨this.1, by omega, by simp [mayEnd, h, h']⟩
theorem trap_c (hX : CxOk (cx W G)) (o : UOp) (n : Nat) (cc : CV) (hcc : cc.stor = true ∧ cc.cells = [cc]) (p : Nat → Bool) (H : Hp) (hg : o.guard ≠ -1 → 0 ≤ o.guard ∧ o.guard < n) (ha : o.kind = 20 ∨ o.kind = 21 ∨ o.kind = 22 → 0 ≤ o.a ∧ o.a < n) : CC Tryz.prog W 105 [.agg [.sl 1 (boolS n p), cc], .agg (opC o)] H fun x H' => x = .ret (.bool (mayTrap p o)) ∧ H' = H := by
  refine CC.at0 ?_ H
  refine CC.of_ev hX mixed d105 Tryz.func105 rfl rfl (Nat.le_of_ble_eq_true rfl) d105_ok ?_
  simp (config := {contextual := true, maxSteps := 2000000}) [Tryz.f105, d105, opC]
  intro r r1 h1 h2
  have k20 : ∀ k, o.kind = k → (k = 20 ∨ k = 21 ∨ k = 22) → 0 ≤ o.a ∧ o.a.toNat < n := fun k h1 h2 => by have := ha (by omega); omega
  refine ⟨fun h => ⟨(hg h).1, by have := hg h; omega, fun hp => by simp [mayTrap, h, hp], fun hp => ?_⟩, fun h => ?_⟩
  all_goals
    refine ⟨fun h => by simp [mayTrap, h], fun k14 => ⟨fun h => by simp [mayTrap, h], fun k15 => ⟨fun h => by simp [mayTrap, h], fun k16 => ⟨fun h => by simp [mayTrap, h], fun k17 => ?_⟩⟩⟩⟩
    refine ⟨fun h20 => ⟨(k20 _ h20 (by omega)).1, (k20 _ h20 (by omega)).2, by simp [mayTrap, h20, h]; try simp [hp]⟩, fun h20 => ⟨fun h21 => ⟨(k20 _ h21 (by omega)).1, (k20 _ h21 (by omega)).2, by simp [mayTrap, h21, h]; try simp [hp]⟩, fun h21 => ⟨fun h22 => ⟨(k20 _ h22 (by omega)).1, (k20 _ h22 (by omega)).2, by simp [mayTrap, h22, h]; try simp [hp]⟩, fun h22 => ?_⟩⟩⟩
    simp [mayTrap, k14, k15, k16, k17, h20, h21, h22, h]
    try simp [hp]
end Go.Cl
set_option linter.unusedSimpArgs false
set_option linter.unusedVariables false
namespace Go.Cl
open Go.Proofs
variable {W : World} {G : Nat → CV}
set_option maxRecDepth 8000
theorem uses_tab : ∀ j, j < 26 → ∀ i, i < 8 → (zAnd .i64 (((0 : Int) :: usesL).getD j 0) (2 ^ i) != 0) = (((0 : Int) :: usesL).getD j 0).toNat.testBit i := by decide +kernel
theorem uses_at (k : Int) : ∃ j, j < 26 ∧ usesOf k = ((0 : Int) :: usesL).getD j 0 := by
  by_cases h : isKind k = true
  · refine ⟨k.toNat, ?_, ?_⟩
    · simp [isKind] at h; omega
    · simp only [usesOf, h, if_true]
      simp [isKind] at h
      rw [show k.toNat = (k - 1).toNat + 1 by omega]
      rfl
  · exact ⟨0, by omega, by simp [usesOf, h]⟩
theorem uses_and (k : Int) (i : Nat) (hi : i < 8) : (zAnd .i64 (usesOf k) (2 ^ i) != 0) = uBit k i := by
  obtain ⟨j, hj, h⟩ := uses_at k
  rw [uBit, h]
  exact uses_tab j hj i hi
theorem uses_and' (k : Int) (i : Nat) (n : Int) (hi : i < 8) (hn : n = 2 ^ i) : (zAnd .i64 (usesOf k) n = 0) = (uBit k i = false) := by
  subst hn
  rw [← uses_and k i hi]
  simp
theorem formOf_0 (k : Int) : ∃ a b, formOf k = [ci (usesOf k), a, b] ∧ a.stor = true ∧ a.cells = [a] := by
  by_cases h : isKind k = true
  · exact ⟨_, _, by simp [formOf, h]; exact ⟨rfl, rfl⟩, rfl, rfl⟩
  · exact ⟨_, _, by simp [formOf, h, usesOf]; exact ⟨rfl, rfl⟩, rfl, rfl⟩
def Kd (k : Int) : Prop := k ≤ k
end Go.Cl
set_option linter.unusedSimpArgs false
set_option linter.unusedVariables false
namespace Go.Cl
open Go.Proofs
variable {W : World} {G : Nat → CV}
set_option maxRecDepth 8000
def ints (l : List Int) : List (List CV) := l.map fun n => [ci n]
def readsK (o : UOp) : Nat → List Int
  | 0 => []
  | k + 1 => readsK o k ++ (if uBit o.kind (k + 1) then [[o.a, o.b, o.c].getD k 0] else [])
theorem readsK_3 (o : UOp) : readsK o 3 = reads o := by
  simp only [readsK, reads, List.nil_append, List.append_assoc]
  rfl
theorem readsK_le (o : UOp) : ∀ k, (readsK o k).length ≤ k
  | 0 => by simp [readsK]
  | k + 1 => by
    have := readsK_le o k
    simp only [readsK, List.length_append]
    split <;> simp <;> omega
theorem shl_2 (k : Nat) (hk : k < 3) : zShl .i64 2 k = 2 ^ (k + 1) := by
  rcases k with _|_|_|k <;> first | rfl | omega
theorem read_c (hX : CxOk (cx W G)) (hG : G 0 = .iptr formsC) (o : UOp) (hk : Kd o.kind) (H : Hp) : CC Tryz.prog W 101 [.agg (opC o)] H fun x H' => ∃ v, x = .ret v ∧ Own H H' v 1 (ints (reads o)) := by
  refine CC.of_ev hX mixed d101 Tryz.func101 rfl rfl (Nat.le_of_ble_eq_true rfl) d101_ok ?_
  simp (config := {contextual := true}) [Tryz.f101, d101, opC]
  intro r1 hr1
  refine (of_c hX hG o.kind (by have := hk; simp only [Kd] at this; omega) _).mono ?_
  rintro x H' ⟨rfl, rfl⟩
  obtain ⟨a, b, hf, ha, hb⟩ := formOf_0 o.kind
  simp (config := {contextual := true}) [hf, cfill]
  intro r2 h1 h2 hr2
  generalize hH0 : (H.set r1 _).set r2 _ = H0
  have hle : Le H H0 := by rw [← hH0]; exact (Le.set_new hr1).trans (Le.set_new (by simp [h1, hr2]))
  have h02 : H0 r2 = some (.cells [ci (usesOf o.kind), a, b]) := by rw [← hH0]; simp
  have h01 : H0 r1 = some (.cells (opC o)) := by rw [← hH0]; simp [h2, opC]
  refine CW.loop (fun j s' H' => ∃ k v, k ≤ 3 ∧ j = 3 - k ∧ s'.env 3 = .ptr r2 0 ∧ s'.env 5 = v ∧ s'.env 20 = .agg [ci o.a, ci o.b, ci o.c] ∧ s'.env 21 = .int .i64 k ∧ s'.ds = [] ∧ Own H0 H' v 1 (ints (readsK o k))) ?_ (m := 3) ⟨0, .nilsl, by simp [readsK, ints, Own.nil, Le.refl]⟩
  rintro j ⟨e, ds⟩ H' ⟨k, v, hk3, rfl, e3, e5, e20, e21, rfl, hown⟩
  dsimp only at e3 e5 e20 e21
  refine vw_sound hX mixed (D := d101) _ _ _ _ (by kernel_rfl) ?_
  have h2' := hown.le r2 _ h02
  by_cases hk : k < 3
  · have hget : [ci o.a, ci o.b, ci o.c][k]? = some (ci ([o.a, o.b, o.c].getD k 0)) := by rcases k with _|_|_|k <;> first | rfl | omega
    generalize [ci o.a, ci o.b, ci o.c] = L at hget e20
    generalize hn : [o.a, o.b, o.c].getD k 0 = n at hget
    have hk' : (k : Int) < 3 := by omega
    simp [e3, e5, e20, e21, h2', hk, hk', hget, d101, cfill, -vcAppend]
    rw [shl_2 k hk, uses_and' o.kind (k + 1) _ (by omega) rfl]
    have hlen := readsK_le o k
    refine ⟨fun hz r hr => ?_, fun hz => ?_⟩
    · refine (hown.more hr).append (ys := [[ci n]]) (by simp) (by simp [ints]; omega) (src_one set_at rfl) fun v' H2 how2 _ => ?_
      simp [e3, e5, e20, e21]
      refine ⟨2 - k, by omega, k + 1, by omega, by omega, by rw [wrapI (by omega) (by omega)]; simp, ?_⟩
      simp at hz
      simpa [readsK, hz, ints, ← hn] using how2
    · refine ⟨2 - k, by omega, k + 1, by omega, by omega, by rw [wrapI (by omega) (by omega)]; simp, ?_⟩
      simpa [readsK, hz] using hown
  · have hk3' : k = 3 := by omega
    subst hk3'
    simp [e3, e5, e20, e21]
    rw [readsK_3] at hown
    exact hown.base hle
end Go.Cl
set_option linter.unusedSimpArgs false
set_option linter.unusedVariables false
namespace Go.Cl
open Go.Proofs
variable {W : World} {G : Nat → CV}
set_option maxRecDepth 8000
theorem reads_len (o : UOp) : (reads o).length ≤ 3 := by rw [← readsK_3]; exact readsK_le o 3
end Go.Cl
set_option linter.unusedSimpArgs false
set_option linter.unusedVariables false
namespace Go.Cl
open Go.Proofs
variable {W : World} {G : Nat → CV}
set_option maxRecDepth 8000
theorem setCx_get {m : Nat} {f : Nat → Bool} {i : Nat} {ex : List CV} (h : i < m) : (setC m f ++ ex)[i]? = some (.int .u64 (word f i)) := by
  rw [List.getElem?_append_left (by rw [setC_len]; exact h), setC_get h]
theorem word_inj {f g : Nat → Bool} {k : Nat} (h : word f k = word g k) (j : Nat) (hj : j < 64) : f (64 * k + j) = g (64 * k + j) := by
  have := congrArg (Nat.testBit · j) h
  simpa [testBit_word, hj] using this
end Go.Cl
set_option linter.unusedSimpArgs false
set_option linter.unusedVariables false
namespace Go.Cl
open Go.Proofs
variable {W : World} {G : Nat → CV}
set_option maxRecDepth 8000
def liveS (n m : Nat) (I : Nat → Nat → Bool) : List (List CV) := (List.range n).map fun b => [.sl 1 (setS m (I b))]
theorem liveS_ex {n m : Nat} {I : Nat → Nat → Bool} {i : Nat} {P : List CV → Prop} : (∃ e, (liveS n m I)[i]? = some e ∧ P e) = (i < n ∧ P [.sl 1 (setS m (I i))]) := by
  simp only [liveS, List.getElem?_map, eq_iff_iff]
  rcases Nat.lt_or_ge i n with h | h
  · rw [List.getElem?_range h]; simp [h]
  · rw [List.getElem?_eq_none (by simpa using h)]; simp [show ¬ i < n by omega]
attribute [simp ↓] liveS_ex
def mayC (pn : Nat) (p : Nat → Bool) (cn : Nat) (c : Nat → Bool) : List CV := [.sl 1 (boolS pn p), .sl 1 (boolS cn c)]
def liveC (u : UUnit) (pn : Nat) (p : Nat → Bool) (cn : Nat) (c : Nat → Bool) (I : Nat → Nat → Bool) : List CV := unitC u ++ (mayC pn p cn c ++ [.sl 1 (liveS u.blocks.length (mOf u) I)])
theorem hset_self {H : Hp} {r : Nat} {o : Ob} (h : H r = some o) : H.set r o = H := by
  funext i
  simp only [Hp.set]
  split
  · rename_i e; rw [e, h]
  · rfl
theorem Eq.le_hp {A B : Hp} (h : A = B) : Le A B := h ▸ Le.refl A
def endRd (e : UEnd) : List Int := if e.kind = 1 then [] else [e.a]
theorem ints_flat (l : List Int) : (ints l).flatten = l.map ci := by
  induction l with
  | nil => rfl
  | cons x l ih => simp only [ints, List.map_cons, List.flatten_cons] at ih ⊢; rw [ih]; rfl
theorem own_get {H0 H : Hp} {v : CV} {l : List Int} {k : Nat} {x : Int} (h : Own H0 H v 1 (ints l)) (hk : l[k]? = some x) : ∃ q c cs, v = .ref q 0 l.length c ∧ H q = some (.cells cs) ∧ cs[k]? = some (ci x) ∧ H0 q = none := by
  obtain ⟨_, _, ⟨rfl, hx⟩ | ⟨q, c, ex, rfl, hq, hq2, _⟩⟩ := h
  · have : l = [] := by simpa [ints] using hx
    subst this
    simp at hk
  · refine ⟨q, c, _, by simp [ints], hq2, ?_, hq⟩
    have := (List.getElem?_eq_some_iff.1 hk).1
    rw [ints_flat, List.getElem?_append_left (by simpa using this), List.getElem?_map, hk]
    rfl
def vcLen (v : CV) (n : Nat) : Prop := v = .nilsl ∧ n = 0 ∨ ∃ q c, v = .ref q 0 n c
theorem Own.vlen {H0 H : Hp} {v : CV} {l : List Int} (h : Own H0 H v 1 (ints l)) : vcLen v l.length := by
  obtain ⟨_, _, ⟨rfl, hx⟩ | ⟨q, c, ex, rfl, hq, hq2, _⟩⟩ := h
  · have : l = [] := by simpa [ints] using hx
    subst this
    exact .inl ⟨rfl, rfl⟩
  · exact .inr ⟨q, c, by simp [ints]⟩
def endM (L : CV) (b : Nat) (m : Nat) (en : List CV) (H : Hp) (f : Nat → Bool) : CA → Hp → Prop := fun s' H' => ∃ r q, s'.env 0 = L ∧ s'.env 1 = .int .i64 b ∧ s'.env 5 = .ref r 0 m m ∧ s'.env 6 = .ptr q 0 ∧ s'.ds = [] ∧ H r = none ∧ q ≠ r ∧ r ≠ q ∧ H' r = some (.cells (setC m f)) ∧ H' q = some (.cells en) ∧ Le (H.set r (.cells (setC m f))) H'
theorem set_le {A B : Hp} {r : Nat} {o o' : Ob} (h : Le (A.set r o) B) : Le (A.set r o') (B.set r o') := by
  have := Le.set (r := r) (o := o') h
  rwa [set_set] at this
end Go.Cl
set_option linter.unusedSimpArgs false
set_option linter.unusedVariables false
namespace Go.Cl
open Go.Proofs
variable {W : World} {G : Nat → CV}
set_option maxRecDepth 8000
def befM (L : CV) (b r m cc : Nat) (op : List CV) (H : Hp) (f : Nat → Bool) : CA → Hp → Prop := fun s' H' => ∃ q, s'.env 0 = L ∧ s'.env 1 = .ref r 0 m cc ∧ s'.env 2 = .int .i64 b ∧ s'.env 7 = .ptr q 0 ∧ s'.ds = [] ∧ q ≠ r ∧ r ≠ q ∧ H' r = some (.cells (setC m f)) ∧ H' q = some (.cells op) ∧ Le (H.set r (.cells (setC m f))) H'
end Go.Cl
set_option linter.unusedSimpArgs false
set_option linter.unusedVariables false
namespace Go.Cl
open Go.Proofs
variable {W : World} {G : Nat → CV}
set_option maxRecDepth 8000
end Go.Cl
set_option linter.unusedSimpArgs false
set_option linter.unusedVariables false
namespace Go.Cl
open Go.Proofs
variable {W : World} {G : Nat → CV}
set_option maxRecDepth 8000
def upto (f : Nat → Bool) (n : Nat) : List Int := ((List.range n).filter f).map Int.ofNat
theorem upto_succ (f : Nat → Bool) (n : Nat) : upto f (n + 1) = upto f n ++ (if f n then [(n : Int)] else []) := by
  simp only [upto, List.range_succ, List.filter_append, List.map_append]
  congr 1
  by_cases h : f n <;> simp [h]
theorem upto_same (f : Nat → Bool) (n : Nat) : ∀ k, (∀ j, j < k → f (n + j) = false) → upto f (n + k) = upto f n
  | 0, _ => rfl
  | k + 1, h => by
    rw [← Nat.add_assoc, upto_succ, h k (by omega)]
    simpa using upto_same f n k fun j hj => h j (by omega)
theorem upto_len (f : Nat → Bool) (n : Nat) : (upto f n).length ≤ n := by
  simp only [upto, List.length_map]
  have := List.length_filter_le f (List.range n)
  simpa using this
theorem word_shr0 {f : Nat → Bool} {k j : Nat} (h : word f k >>> j = 0) (hj : j ≤ 64) : ∀ i, i < 64 - j → f (64 * k + j + i) = false := by
  intro i hi
  have h1 := congrArg (Nat.testBit · i) h
  simp only [Nat.testBit_shiftRight, Nat.zero_testBit, testBit_word] at h1
  have : j + i < 64 := by omega
  simpa [this, Nat.add_assoc] using h1
theorem u64_shrle {a k : Nat} (hk : k ≤ 64) : zShr .u64 (a : Int) (k : Int) = ((a >>> k : Nat) : Int) := by
  show (a : Int).fdiv (2 ^ (min (k : Int).toNat 64)) = _
  rw [Int.toNat_natCast]
  have h2 : (2 : Int) ^ k = ((2 ^ k : Nat) : Int) := by simp
  rw [Nat.min_eq_left (by omega), Nat.shiftRight_eq_div_pow, h2, Int.fdiv_eq_ediv_of_nonneg _ (Int.natCast_nonneg _)]
  rfl
end Go.Cl
set_option linter.unusedSimpArgs false
set_option linter.unusedVariables false
namespace Go.Cl
open Go.Proofs
variable {W : World} {G : Nat → CV}
set_option maxRecDepth 8000
/-- A slice of numbers that can be read. -/
def SlR (H : Hp) (v : CV) (l : List Int) : Prop := v = .sl 1 (ints l) ∨ (∃ r c cs, v = .ref r 0 l.length c ∧ H r = some (.cells cs) ∧ ∀ (k : Nat) x, l[k]? = some x → cs[k]? = some (ci x)) ∨ (v = .nilsl ∧ l = [])
theorem Own.slR {H0 H : Hp} {v : CV} {l : List Int} (h : Own H0 H v 1 (ints l)) : SlR H v l := by
  obtain ⟨_, _, ⟨rfl, hx⟩ | ⟨q, c, ex, rfl, hq, hq2, _⟩⟩ := h
  · exact .inr (.inr ⟨rfl, by simpa [ints] using hx⟩)
  · refine .inr (.inl ⟨q, c, _, by simp [ints], hq2, fun k x hk => ?_⟩)
    have := (List.getElem?_eq_some_iff.1 hk).1
    rw [ints_flat, List.getElem?_append_left (by simpa using this), List.getElem?_map, hk]
    rfl
theorem ints_len (l : List Int) : (ints l).length = l.length := by simp [ints]
theorem indexFunc_c (hX : CxOk (cx W G)) (v : CV) (l : List Int) (g : FuncId) (first cap : List CV) (q : Int → Bool) (H : Hp) (hv : SlR H v l) (hlen : l.length ≤ 1000000) (hf : ∀ x ∈ l, CC Tryz.prog W g (first ++ ci x :: cap) H fun r H' => r = .ret (.bool (q x)) ∧ H' = H) :
    CC Tryz.prog W 91 [v, .func (.func g) first cap] H fun x H' => ∃ k : Int, x = .ret (ci k) ∧ H' = H ∧ (0 ≤ k ↔ l.any q = true) := by
  have hv0 := hv
  rcases hv with rfl | ⟨r, c, cs, rfl, hr, hcs⟩ | ⟨rfl, rfl⟩
  all_goals
    refine CC.of_ev hX mixed d91 Tryz.func91 rfl rfl (Nat.le_of_ble_eq_true rfl) d91_ok ?_
    simp [Tryz.f91, d91, ints_len]
  · refine CW.loop (fun j s' H' => ∃ k, k ≤ l.length ∧ j = l.length - k ∧ s'.env 0 = .sl 1 (ints l) ∧ s'.env 1 = .func (.func g) first cap ∧ s'.env 7 = .int .i64 l.length ∧ s'.env 8 = .int .i64 k ∧ s'.ds = [] ∧ H' = H ∧ (l.take k).any q = false) ?_ (m := l.length) ⟨0, by simp⟩
    rintro j ⟨e, ds⟩ H' ⟨k, hk, rfl, e0, e1, e7, e8, rfl, rfl, hno⟩
    dsimp only at e0 e1 e7 e8
    refine vw_sound hX mixed (D := d91) _ _ _ _ (by kernel_rfl) ?_
    by_cases hkl : k < l.length
    · have hx : l[k]? = some l[k] := List.getElem?_eq_getElem hkl
      have hm : l[k] ∈ l := List.getElem_mem hkl
      have ht : l.take (k + 1) = l.take k ++ [l[k]] := by rw [List.take_succ_eq_append_getElem hkl]
      generalize l[k] = x at hx hm ht
      have hxi : (ints l)[k]? = some [ci x] := by simp [ints, hx]
      simp [e0, e1, e7, e8, hkl, hxi]
      refine (hf x hm).k ?_
      rintro y H2 ⟨rfl, rfl⟩
      simp [e0, e1, e7, e8]
      refine ⟨fun h => ⟨x, hm, h⟩, fun h => ?_⟩
      refine ⟨l.length - (k + 1), by omega, k + 1, by omega, rfl, by rw [wrapI (by omega) (by omega)]; simp, ?_⟩
      rw [ht]
      intro y hy
      rcases List.mem_append.1 hy with hy | hy
      · simp at hno; exact hno y hy
      · simp at hy; subst hy; exact h
    · have : k = l.length := by omega
      subst this
      simp [e0, e1, e7, e8]
      simpa using hno
  · refine CW.loop (fun j s' H' => ∃ k, k ≤ l.length ∧ j = l.length - k ∧ s'.env 0 = .ref r 0 l.length c ∧ s'.env 1 = .func (.func g) first cap ∧ s'.env 7 = .int .i64 l.length ∧ s'.env 8 = .int .i64 k ∧ s'.ds = [] ∧ H' = H ∧ (l.take k).any q = false) ?_ (m := l.length) ⟨0, by simp⟩
    rintro j ⟨e, ds⟩ H' ⟨k, hk, rfl, e0, e1, e7, e8, rfl, rfl, hno⟩
    dsimp only at e0 e1 e7 e8
    refine vw_sound hX mixed (D := d91) _ _ _ _ (by kernel_rfl) ?_
    by_cases hkl : k < l.length
    · have hx : l[k]? = some l[k] := List.getElem?_eq_getElem hkl
      have hm : l[k] ∈ l := List.getElem_mem hkl
      have ht : l.take (k + 1) = l.take k ++ [l[k]] := by rw [List.take_succ_eq_append_getElem hkl]
      generalize l[k] = x at hx hm ht
      have hxi := hcs k x hx
      simp [e0, e1, e7, e8, hkl, hxi, hr]
      refine (hf x hm).k ?_
      rintro y H2 ⟨rfl, rfl⟩
      simp [e0, e1, e7, e8]
      refine ⟨fun h => ⟨x, hm, h⟩, fun h => ?_⟩
      refine ⟨l.length - (k + 1), by omega, k + 1, by omega, rfl, by rw [wrapI (by omega) (by omega)]; simp, ?_⟩
      rw [ht]
      intro y hy
      rcases List.mem_append.1 hy with hy | hy
      · simp at hno; exact hno y hy
      · simp at hy; subst hy; exact h
    · have : k = l.length := by omega
      subst this
      simp [e0, e1, e7, e8]
      simpa using hno
  · refine CW.loop (fun j s' H' => s'.env 7 = .int .i64 0 ∧ s'.env 8 = .int .i64 0 ∧ s'.ds = [] ∧ H' = H) ?_ (m := 0) (by simp)
    rintro j ⟨e, ds⟩ H' ⟨e7, e8, rfl, rfl⟩
    dsimp only at e7 e8
    refine vw_sound hX mixed (D := d91) _ _ _ _ (by kernel_rfl) ?_
    simp [e7, e8]
theorem containsFunc_c (hX : CxOk (cx W G)) (v : CV) (l : List Int) (g : FuncId) (first cap : List CV) (q : Int → Bool) (H : Hp) (hv : SlR H v l) (hlen : l.length ≤ 1000000) (hf : ∀ x ∈ l, CC Tryz.prog W g (first ++ ci x :: cap) H fun r H' => r = .ret (.bool (q x)) ∧ H' = H) :
    CC Tryz.prog W 67 [v, .func (.func g) first cap] H fun x H' => x = .ret (.bool (l.any q)) ∧ H' = H := by
  refine CC.of_ev hX mixed d67 Tryz.func67 rfl rfl (Nat.le_of_ble_eq_true rfl) d67_ok ?_
  simp [Tryz.f67, d67]
  refine (indexFunc_c hX v l g first cap q H hv hlen hf).k ?_
  rintro x H2 ⟨k, rfl, rfl, hk⟩
  simp
  cases hl : l.any q
  · rw [hl] at hk; simp at hk ⊢; omega
  · rw [hl] at hk; simp at hk ⊢; exact hk
theorem spread1_c (hX : CxOk (cx W G)) (n q rr c : Nat) (p : Nat → Bool) (x : Int) (cc : CV) (H : Hp) (hq : H q = some (.cells [.ref rr 0 n c, cc])) (hr : H rr = some (.cells (boolC n p))) (hx : 0 ≤ x ∧ x < n) : CC Tryz.prog W 102 [ci x, .ptr q 0] H fun y H' => y = .ret (.bool (p x.toNat)) ∧ H' = H := by
  refine CC.of_ev hX mixed d102 Tryz.func102 rfl rfl (Nat.le_of_ble_eq_true rfl) d102_ok ?_
  simp [Tryz.f102, d102, hq, hr]
  have := boolC_get (p := p) (show x.toNat < n by omega)
  simp [this]
  omega
end Go.Cl
set_option linter.unusedSimpArgs false
set_option linter.unusedVariables false
namespace Go.Cl
open Go.Proofs
variable {W : World} {G : Nat → CV}
set_option maxRecDepth 8000
theorem boolC_set {n : Nat} {p : Nat → Bool} {i : Nat} (h : i < n) : (boolC n p).take i ++ .bool true :: (boolC n p).drop (i + 1) = boolC n (fun r => p r || r == i) := by
  rw [take_drop_set (by rw [boolC_len]; exact h)]
  apply List.ext_getElem?
  intro j
  rw [List.getElem?_set]
  simp only [boolC, List.length_map, List.length_range, List.getElem?_map]
  by_cases hj : i = j
  · subst hj; simp [h]
  · rw [if_neg hj]
    rcases Nat.lt_or_ge j n with h2 | h2
    · rw [List.getElem?_range h2]; simp [Ne.symm hj]
    · rw [List.getElem?_eq_none (by simpa using h2)]; rfl
theorem boolC_gets {n : Nat} {p : Nat → Bool} {i : Nat} {e : CV} : ((boolC n p)[i]? = some e) = (i < n ∧ .bool (p i) = e) := by
  simp only [boolC, List.getElem?_map]
  rcases Nat.lt_or_ge i n with h | h
  · rw [List.getElem?_range h]; simp [h]
  · rw [List.getElem?_eq_none (by simpa using h)]; simp [show ¬ i < n by omega]
theorem boolC_ex {n : Nat} {p : Nat → Bool} {i : Nat} {P : CV → Prop} : (∃ e, (boolC n p)[i]? = some e ∧ P e) = (i < n ∧ P (.bool (p i))) := by
  simp only [boolC_gets, eq_iff_iff]
  exact ⟨fun ⟨e, ⟨h, he⟩, k⟩ => ⟨h, he ▸ k⟩, fun ⟨h, k⟩ => ⟨_, ⟨h, rfl⟩, k⟩⟩
attribute [simp ↓] boolC_ex
attribute [simp] boolC_len
def spM (u : UUnit) (o : UOp) (q2 : Nat) (p c : Nat → Bool) (H2 : Hp) : CA → Hp → Prop := fun s' H' => s'.env 5 = .bool (badP o p c) ∧ s'.env 6 = .ptr q2 (if o.kind = 19 then 1 else 0) ∧ s'.env 7 = ci (if o.kind = 19 then o.n else o.dst) ∧ s'.ds = [] ∧ H' = H2 ∧ (o.kind ≠ 19 → 0 ≤ o.dst ∧ o.dst < u.regs)
theorem uBit_dst {o : UOp} (h : (2 ≤ o.kind ∧ o.kind ≤ 13) ∨ o.kind = 18 ∨ o.kind = 23 ∨ o.kind = 24 ∨ o.kind = 25) : uBit o.kind 0 = true := by
  have hk : o.kind = 2 ∨ o.kind = 3 ∨ o.kind = 4 ∨ o.kind = 5 ∨ o.kind = 6 ∨ o.kind = 7 ∨ o.kind = 8 ∨ o.kind = 9 ∨ o.kind = 10 ∨ o.kind = 11 ∨ o.kind = 12 ∨ o.kind = 13 ∨ o.kind = 18 ∨ o.kind = 23 ∨ o.kind = 24 ∨ o.kind = 25 := by omega
  rcases hk with h | h | h | h | h | h | h | h | h | h | h | h | h | h | h | h <;> rw [h] <;> rfl
theorem spread_c (hX : CxOk (cx W G)) (hG : G 0 = .iptr formsC) (u : UUnit) (hu : wfU u = true) (o : UOp) (ho : wfOp u o = true) (rr rc c1 c2 : Nat) (p c : Nat → Bool) (H : Hp) (hne : rr ≠ rc) (hr : H rr = some (.cells (boolC u.regs.toNat p))) (hc : H rc = some (.cells (boolC u.spill.toNat c))) :
    CC Tryz.prog W 79 [.agg [.ref rr 0 u.regs.toNat c1, .ref rc 0 u.spill.toNat c2], .agg (opC o)] H fun x H' => x = .ret (.bool (spreadN o p c)) ∧ H' = (H.set rr (.cells (boolC u.regs.toNat (spreadR o p c)))).set rc (.cells (boolC u.spill.toNat (spreadC o p c))) := by
  obtain ⟨f1, f2, f3, f4, f5, f6, f7, f8, f9, f10, f11⟩ := wfU_facts hu
  obtain ⟨o1, o2, o3, o4, o5, o6, o7, o8, o9⟩ := wfO_facts ho f3
  have hkd : Kd o.kind := by simp only [Kd]; omega
  refine CC.shrink ?_
  refine CC.of_cw hX Tryz.func79 rfl rfl (Nat.le_of_ble_eq_true rfl) ?_
  refine CW.walk hX mixed d79 rfl ?_
  simp (config := {contextual := true})
  intro q2 hq2 q3 h32 h23 hq3
  refine CW.walk hX mixed d79 rfl ?_
  simp [h23, h32, opC]
  refine (read_c hX hG o hkd _).k ?_
  rintro x H1 ⟨v, rfl, hown⟩
  have hle : Le H H1 := ((Le.set_new hq2).trans (Le.set_new (by simp [h32, hq3]))).trans hown.le
  have hq2' : H1 q2 = some (.cells [.ref rr 0 u.regs.toNat c1, .ref rc 0 u.spill.toNat c2]) := hown.le q2 _ (by simp [h23])
  have hq3' : H1 q3 = some (.cells (opC o)) := hown.le q3 _ (by simp [opC])
  have hr' := hle rr _ hr
  have hc' := hle rc _ hc
  have hre : ∀ x ∈ reads o, 0 ≤ x ∧ x < (u.regs.toNat : Int) := fun x hx => by
    have := o3 x (by simp only [allReads]; split; exact hx; exact List.mem_cons_of_mem _ hx)
    omega
  have hlr := reads_len o
  simp
  refine (containsFunc_c hX v (reads o) 102 [] [.ptr q2 0] (fun x => p x.toNat) H1 hown.slR (by omega) fun x hx => spread1_c hX _ q2 rr c1 p x _ H1 hq2' hr' (hre x hx)).k ?_
  rintro x H2 ⟨rfl, rfl⟩
  clear hown hq2 hq3
  simp
  refine CW.walk hX mixed d79 rfl ?_
  simp
  refine CW.walk hX mixed d79 rfl ?_
  simp [hq3', opC]
  have hsame : spreadN o p c = false → Le ((H.set rr (.cells (boolC u.regs.toNat (spreadR o p c)))).set rc (.cells (boolC u.spill.toNat (spreadC o p c)))) H2 := fun h => by
    rw [spreadR_same h, spreadC_same h, hset_self hr, hset_self hc]
    exact hle
  have hb0 : badP o p c = false → spreadN o p c = false := fun h => by simp [spreadN, h]
  refine CW.cut (spM u o q2 p c H2) ?_ ?_
  · refine CW.walk1 hX mixed d79 rfl ?_
    simp (config := {contextual := true}) [hq3', hq2', hc', opC, d79]
    refine ⟨fun h => ?_, fun n23 => ⟨fun h => ?_, fun n24 => ⟨fun h => ?_, fun n25 => ⟨fun h => ?_, fun n19 => ⟨fun h => ?_, fun n18 => ⟨fun h => ?_, fun h2 => ⟨fun h => ?_, fun h13 => ?_⟩⟩⟩⟩⟩⟩⟩
    · exact ⟨by simp [badP, h], by simp [h], by simp [h], rfl, rfl, fun _ => o4 (uBit_dst (by omega))⟩
    · exact ⟨by simp [badP, h], by simp [h], by simp [h], rfl, rfl, fun _ => o4 (uBit_dst (by omega))⟩
    · exact ⟨by simp [badP, h], by simp [h], by simp [h], rfl, rfl, fun _ => o4 (uBit_dst (by omega))⟩
    · exact ⟨by simp [badP, h], by simp [h], by simp [h], rfl, rfl, fun hn => absurd h hn⟩
    · have := o7 (.inl h)
      exact ⟨by omega, by omega, by omega, by simp [badP, h], by simp [h], by simp [h], rfl, rfl, fun _ => o4 (uBit_dst (by omega))⟩
    · have hb : badP o p c = false := by simp only [badP]; rw [if_neg (by omega), if_neg (by omega), if_neg (by omega)]
      exact ⟨hsame (hb0 hb), hb0 hb⟩
    · have hb : badP o p c = false := by simp only [badP]; rw [if_neg (by omega), if_neg (by omega), if_neg (by omega)]
      exact ⟨hsame (hb0 hb), hb0 hb⟩
    · have hb : badP o p c = (reads o).any fun r => p r.toNat := by simp only [badP]; rw [if_neg (by omega), if_neg (by omega), if_pos (by omega)]
      exact ⟨by simp [hb], by simp [n19], by simp [n19], rfl, rfl, fun _ => o4 (uBit_dst (by omega))⟩
  rintro ⟨e, ds⟩ H' ⟨e5, e6, e7, rfl, rfl, hd⟩
  dsimp only at e5 e6 e7
  have hle2 : Le ((H.set rr (.cells (boolC u.regs.toNat p))).set rc (.cells (boolC u.spill.toNat c))) H' := by rw [hset_self hr, hset_self hc]; exact hle
  by_cases hk : o.kind = 19
  · simp only [hk, if_true] at e6 e7
    refine CW.walk1 hX mixed d79 rfl ?_
    simp [e5, e6, e7, hq2', hc']
    have := o7 (.inr hk)
    refine ⟨fun h => ⟨hsame (hb0 h), hb0 h⟩, fun hb => ⟨this.1, by omega, by omega, fun h => ?_, fun h => ⟨this.1, by omega, by omega, ?_, ?_⟩⟩⟩
    · have h2 : spreadN o p c = false := by simp [spreadN, hk, h]
      exact ⟨hsame h2, h2⟩
    · rw [boolC_set (by omega)]
      have e1 : spreadR o p c = p := by funext r; simp [spreadR, hk]
      have e2 : spreadC o p c = fun r => c r || r == o.n.toNat := by funext r; simp [spreadC, hk, hb]
      rw [e1, e2, hset_self hr]
      rw [hset_self hr] at hle2
      exact set_le hle2
    · simp [spreadN, hk, hb, h]
  · simp only [hk, if_false] at e6 e7
    have hd := hd hk
    refine CW.walk1 hX mixed d79 rfl ?_
    simp [e5, e6, e7, hq2', hr']
    refine ⟨fun h => ⟨hsame (hb0 h), hb0 h⟩, fun hb => ⟨hd.1, by omega, by omega, fun h => ?_, fun h => ⟨hd.1, by omega, by omega, ?_, ?_⟩⟩⟩
    · have h2 : spreadN o p c = false := by simp [spreadN, hk, h]
      exact ⟨hsame h2, h2⟩
    · rw [boolC_set (by omega)]
      have e1 : spreadC o p c = c := by funext r; simp [spreadC, hk]
      have e2 : spreadR o p c = fun r => p r || r == o.dst.toNat := by funext r; simp [spreadR, hk, hb]
      have hcr : (H.set rr (.cells (boolC u.regs.toNat fun r => p r || r == o.dst.toNat))) rc = some (.cells (boolC u.spill.toNat c)) := by simp [Ne.symm hne, hc]
      rw [e1, e2, hset_self hcr]
      rw [hset_self (H := H.set rr _) (by simp [Ne.symm hne, hc])] at hle2
      exact set_le hle2
    · simp [spreadN, hk, hb, h]
end Go.Cl
set_option linter.unusedSimpArgs false
set_option linter.unusedVariables false
namespace Go.Cl
open Go.Proofs
variable {W : World} {G : Nat → CV}
set_option maxRecDepth 8000
theorem ops_c (hX : CxOk (cx W G)) (u : UUnit) (H : Hp) : CC Tryz.prog W 78 [.agg (unitC u)] H fun x H' => ∃ q, H q = none ∧ x = .ret (.func (.func 100) [] [.ptr q 0]) ∧ H' = H.set q (.cells (unitC u)) := by
  refine CC.of_ev hX mixed d78 Tryz.func78 rfl rfl (Nat.le_of_ble_eq_true rfl) d78_ok ?_
  simp [Tryz.f78, d78]
  exact fun r hr => ⟨r, hr, rfl, rfl⟩
def off (u : UUnit) (i : Nat) : Nat := ((u.blocks.take i).flatMap (·.ops)).length
theorem off_succ {u : UUnit} {i : Nat} {k : UBlk} (h : u.blocks[i]? = some k) : off u (i + 1) = off u i + k.ops.length := by
  have hi := (List.getElem?_eq_some_iff.1 h).1
  have hk := (List.getElem?_eq_some_iff.1 h).2
  simp only [off]
  rw [List.take_succ_eq_append_getElem hi, List.flatMap_append, List.length_append, hk]
  simp
theorem off_get {u : UUnit} {i j : Nat} {k : UBlk} {o : UOp} (h : u.blocks[i]? = some k) (ho : k.ops[j]? = some o) : (opsOf u)[off u i + j]? = some o := by
  have hi := (List.getElem?_eq_some_iff.1 h).1
  have hk := (List.getElem?_eq_some_iff.1 h).2
  have hj := (List.getElem?_eq_some_iff.1 ho).1
  have e : opsOf u = (u.blocks.take i).flatMap (·.ops) ++ (k.ops ++ (u.blocks.drop (i + 1)).flatMap (·.ops)) := by
    rw [opsOf]
    conv => lhs; rw [← List.take_append_drop i u.blocks, List.flatMap_append, List.drop_eq_getElem_cons hi, hk]
    simp
  rw [e, List.getElem?_append_right (by simp [off])]
  simp only [off, Nat.add_sub_cancel_left]
  rw [List.getElem?_append_left hj, ho]
theorem off_all (u : UUnit) : off u u.blocks.length = (opsOf u).length := by simp [off, opsOf]
def opYs (u : UUnit) : List (List CV) := (opsOf u).map fun o => [.agg (opC o)]
theorem ops_it (hX : CxOk (cx W G)) (u : UUnit) (hu : wfU u = true) (q : Nat) : Iter Tryz.prog W 100 [] [.ptr q 0] (opYs u) (boxed q (unitC u)) := by
  obtain ⟨f1, f2, f3, f4, f5, f6, f7, f8, f9, f10, f11⟩ := wfU_facts hu
  intro l J E H0 hinv h0 hy
  refine CC.of_ev hX mixed d100 Tryz.func100 rfl rfl (Nat.le_of_ble_eq_true rfl) d100_ok ?_
  have hq := hinv 0 H0 h0
  simp only [boxed, unitC] at hq
  simp [Tryz.f100, d100, hq]
  refine CW.loop (fun m s' H' => ∃ i, i ≤ u.blocks.length ∧ m = u.blocks.length - i ∧ s'.env 0 = .func (.yield l) [] [] ∧ s'.env 8 = .sl 6 (u.blocks.map blkC) ∧ s'.env 9 = .int .i64 u.blocks.length ∧ s'.env 10 = .int .i64 i ∧ s'.ds = [] ∧ J (off u i) H') ?_ (m := u.blocks.length) ⟨0, by simp, by simp, by simp, by simp, by simp, by simp, by simp, by simpa [off] using h0⟩
  rintro m ⟨e, ds⟩ H' ⟨i, hi, rfl, e0, e8, e9, e10, rfl, hJ⟩
  dsimp only at e0 e8 e9 e10
  refine vw_sound hX mixed (D := d100) _ _ _ _ (by kernel_rfl) ?_
  by_cases hil : i < u.blocks.length
  · obtain ⟨k, hke⟩ : ∃ k, u.blocks[i] = k := ⟨_, rfl⟩
    have hk : u.blocks[i]? = some k := by rw [List.getElem?_eq_getElem hil, hke]
    obtain ⟨g1, g2, g3, g4⟩ := wfB_facts hu hk
    simp [e0, e8, e9, e10, hil, hke, blkC]
    intro q4 hq4
    refine CW.forget (H' := H') ?_ (Le.set_new hq4)
    refine CW.loop (fun m s' H' => ∃ j, j ≤ k.ops.length ∧ m = k.ops.length - j ∧ s'.env 0 = .func (.yield l) [] [] ∧ s'.env 8 = .sl 6 (u.blocks.map blkC) ∧ s'.env 9 = .int .i64 u.blocks.length ∧ s'.env 10 = .int .i64 i ∧ s'.env 15 = .sl 7 (k.ops.map opC) ∧ s'.env 16 = .int .i64 k.ops.length ∧ s'.env 17 = .int .i64 j ∧ s'.ds = [] ∧ J (off u i + j) H') ?_ (m := k.ops.length) ⟨0, by simp [e0, e8, e9, e10, hJ]⟩
    clear hJ hq4 e0 e8 e9 e10
    clear q4 e H'
    rintro m ⟨e, ds⟩ H' ⟨j, hj, rfl, e0, e8, e9, e10, e15, e16, e17, rfl, hJ⟩
    dsimp only at e0 e8 e9 e10 e15 e16 e17
    refine vw_sound hX mixed (D := d100) _ _ _ _ (by kernel_rfl) ?_
    by_cases hjl : j < k.ops.length
    · obtain ⟨o, hoe⟩ : ∃ o, k.ops[j] = o := ⟨_, rfl⟩
      have ho : k.ops[j]? = some o := by rw [List.getElem?_eq_getElem hjl, hoe]
      simp [e0, e8, e9, e10, e15, e16, e17, hjl, hoe, opC]
      intro q6 hq6
      refine ((hy (off u i + j) [.agg (opC o)] (by simp [opYs, off_get hk ho]) H' hJ).forget (Le.set_new hq6)).k ?_
      intro b H2 hb
      simp [e0, e8, e9, e10, e15, e16, e17]
      refine ⟨fun hbf => .inr (by simpa [hbf] using hb), fun hbt => ?_⟩
      refine ⟨k.ops.length - (j + 1), by omega, j + 1, by omega, by omega, by rw [wrapI (by omega) (by omega)]; simp, by simpa [hbt, Nat.add_assoc] using hb⟩
    · have : j = k.ops.length := by omega
      subst this
      simp [e0, e8, e9, e10, e15, e16, e17]
      refine ⟨u.blocks.length - (i + 1), by omega, i + 1, by omega, by omega, by rw [wrapI (by omega) (by omega)]; simp, by rw [off_succ hk]; exact hJ⟩
  · have : i = u.blocks.length := by omega
    subst this
    simp [e0, e8, e9, e10]
    rw [off_all] at hJ
    exact .inl (by simpa [opYs] using hJ)
end Go.Cl
