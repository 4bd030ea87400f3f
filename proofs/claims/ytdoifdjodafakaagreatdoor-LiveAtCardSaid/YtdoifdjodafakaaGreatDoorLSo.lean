/- DERIVED HERE. Plain: rising lists, sorting by insertion, doubles left out. -/
import Derived.Test.YtdoifdjodafakaaGreatDoorLM
set_option linter.unusedSimpArgs false
set_option linter.unusedVariables false
namespace Go.Cl
/-- Two rising lists, each number once, with the same members, are the same. -/
theorem rise_ext : ∀ {a b : List Int}, a.Pairwise (· < ·) → b.Pairwise (· < ·) → (∀ x, x ∈ a ↔ x ∈ b) → a = b
  | [], [], _, _, _ => rfl
  | [], y :: b, _, _, h => by have := (h y).2 (by simp); simp at this
  | x :: a, [], _, _, h => by have := (h x).1 (by simp); simp at this
  | x :: a, y :: b, ha, hb, h => by
    rw [List.pairwise_cons] at ha hb
    have hxy : x = y := by
      rcases List.mem_cons.1 ((h x).1 (by simp)) with e | e
      · exact e
      · rcases List.mem_cons.1 ((h y).2 (by simp)) with e' | e'
        · exact e'.symm
        · have := hb.1 x e; have := ha.1 y e'; omega
    subst hxy
    congr 1
    refine rise_ext ha.2 hb.2 fun z => ⟨fun hz => ?_, fun hz => ?_⟩
    · rcases List.mem_cons.1 ((h z).1 (List.mem_cons_of_mem _ hz)) with e | e
      · have := ha.1 z hz; omega
      · exact e
    · rcases List.mem_cons.1 ((h z).2 (List.mem_cons_of_mem _ hz)) with e | e
      · have := hb.1 z hz; omega
      · exact e
def gI (L : List Int) (i : Nat) : Int := L.getD i 0
theorem gI_get {L : List Int} {i : Nat} (h : i < L.length) : L[i]? = some (gI L i) := by
  simp only [gI, List.getD_eq_getElem?_getD, List.getElem?_eq_getElem h, Option.getD_some]
def SortTo (L : List Int) (i : Nat) : Prop := ∀ p q, p < q → q < i → gI L p ≤ gI L q
structure InsI (L : List Int) (i j : Nat) : Prop where
  a : ∀ p q, p < q → q ≤ i → p ≠ j → q ≠ j → gI L p ≤ gI L q
  b : ∀ q, j < q → q ≤ i → gI L j ≤ gI L q
theorem ins_start {L : List Int} {i : Nat} (h : SortTo L i) : InsI L i i := ⟨fun p q h1 h2 h3 h4 => h p q h1 (by omega), fun q h1 h2 => by omega⟩
def swp (L : List Int) (j : Nat) : List Int := (L.set j (gI L (j - 1))).set (j - 1) (gI L j)
theorem swp_len {L : List Int} {j : Nat} : (swp L j).length = L.length := by simp [swp]
theorem gI_swp {L : List Int} {j : Nat} (hj : 0 < j) (hl : j < L.length) (p : Nat) : gI (swp L j) p = if p = j - 1 then gI L j else if p = j then gI L (j - 1) else gI L p := by
  simp only [gI, swp, List.getD_eq_getElem?_getD, List.getElem?_set, List.length_set]
  by_cases h1 : p = j - 1
  · subst h1
    simp [show j - 1 < L.length by omega]
  · rw [if_neg (Ne.symm h1), if_neg h1]
    by_cases h2 : p = j
    · subst h2; simp [hl]
    · rw [if_neg (Ne.symm h2), if_neg h2]
theorem swp_perm {L : List Int} {j : Nat} (hj : 0 < j) (hl : j < L.length) : (swp L j).Perm L := by
  have h1 : gI L (j - 1) = L[j - 1] := by simp [gI, List.getD_eq_getElem?_getD, List.getElem?_eq_getElem (show j - 1 < L.length by omega)]
  have h2 : gI L j = L[j] := by simp [gI, List.getD_eq_getElem?_getD, List.getElem?_eq_getElem hl]
  rw [swp, h1, h2]
  exact List.set_set_perm hl (by omega)
theorem ins_step {L : List Int} {i j : Nat} (h : InsI L i j) (hj : 0 < j) (hi : j ≤ i) (hl : i < L.length) (hlt : gI L j < gI L (j - 1)) : InsI (swp L j) i (j - 1) := by
  have g := gI_swp hj (show j < L.length by omega)
  refine ⟨fun p q h1 h2 h3 h4 => ?_, fun q h1 h2 => ?_⟩
  · rw [g, g, if_neg h3, if_neg h4]
    by_cases hp : p = j
    · subst hp
      rw [if_pos rfl, if_neg (by omega)]
      exact h.a (p - 1) q (by omega) h2 (by omega) (by omega)
    · rw [if_neg hp]
      by_cases hq : q = j
      · subst hq
        rw [if_pos rfl]
        exact h.a p (q - 1) (by omega) (by omega) hp (by omega)
      · rw [if_neg hq]
        exact h.a p q h1 h2 hp hq
  · rw [g, g, if_pos rfl, if_neg (by omega)]
    by_cases hq : q = j
    · subst hq; rw [if_pos rfl]; omega
    · rw [if_neg hq]
      exact h.b q (by omega) h2
theorem ins_end {L : List Int} {i j : Nat} (h : InsI L i j) (hi : j ≤ i) (he : j = 0 ∨ gI L (j - 1) ≤ gI L j) : SortTo L (i + 1) := by
  intro p q h1 h2
  by_cases hq : q = j
  · subst hq
    rcases he with he | he
    · omega
    · by_cases hp : p = q - 1
      · subst hp; exact he
      · have := h.a p (q - 1) (by omega) (by omega) (by omega) (by omega)
        omega
  · by_cases hp : p = j
    · subst hp; exact h.b q h1 (by omega)
    · exact h.a p q h1 (by omega) hp hq
theorem sortTo_pw {L : List Int} (h : SortTo L L.length) : L.Pairwise (· ≤ ·) := by
  rw [List.pairwise_iff_getElem]
  intro i j hi hj hij
  have := h i j hij hj
  simpa [gI, List.getD_eq_getElem?_getD, List.getElem?_eq_getElem hi, List.getElem?_eq_getElem hj] using this
/-- Doubles that stand side by side, left out, behind p. -/
def dd (p : Int) : List Int → List Int
  | [] => []
  | x :: t => if x = p then dd x t else x :: dd x t
def compL : List Int → List Int
  | [] => []
  | x :: t => x :: dd x t
theorem dd_rise : ∀ (t : List Int) (p : Int), (p :: t).Pairwise (· ≤ ·) → (p :: dd p t).Pairwise (· < ·) ∧ ∀ x, x ∈ p :: dd p t ↔ x ∈ p :: t
  | [], p, _ => by simp [dd]
  | y :: t, p, h => by
    rw [List.pairwise_cons] at h
    obtain ⟨h1, h2⟩ := dd_rise t y h.2
    simp only [dd]
    by_cases hy : y = p
    · subst hy
      rw [if_pos rfl]
      refine ⟨h1, fun x => ?_⟩
      rw [h2 x]
      simp
    · rw [if_neg hy]
      have hpy := h.1 y (by simp)
      rw [List.pairwise_cons] at h1 ⊢
      refine ⟨⟨fun z hz => ?_, List.pairwise_cons.2 h1⟩, fun x => ?_⟩
      · rcases List.mem_cons.1 hz with e | e
        · omega
        · have := h1.1 z e; omega
      · rw [List.mem_cons, h2 x, List.mem_cons (a := x) (b := p)]
theorem compL_rise {l : List Int} (h : l.Pairwise (· ≤ ·)) : (compL l).Pairwise (· < ·) ∧ ∀ x, x ∈ compL l ↔ x ∈ l := by
  cases l with
  | nil => simp [compL]
  | cons x t => exact dd_rise t x h
theorem dd_len : ∀ (t : List Int) (p : Int), (dd p t).length ≤ t.length
  | [], p => by simp [dd]
  | y :: t, p => by
    have := dd_len t y
    simp only [dd]
    split <;> simp <;> omega
/-- The registers of a set, as numbers, rising. -/
theorem upto_rise (f : Nat → Bool) (n : Nat) : (upto f n).Pairwise (· < ·) := by
  simp only [upto]
  rw [List.pairwise_map]
  exact (List.pairwise_lt_range.filter _).imp fun h => Int.ofNat_lt.2 h
theorem mem_upto {f : Nat → Bool} {n : Nat} {x : Int} : x ∈ upto f n ↔ ∃ r, r < n ∧ f r = true ∧ x = (r : Int) := by
  simp only [upto, List.mem_map, List.mem_filter, List.mem_range]
  constructor
  · rintro ⟨r, ⟨h1, h2⟩, h3⟩; exact ⟨r, h1, h2, h3.symm⟩
  · rintro ⟨r, h1, h2, h3⟩; exact ⟨r, ⟨h1, h2⟩, h3.symm⟩
end Go.Cl
