/- DERIVED HERE. Plain: rising lists, sorting by insertion, doubles left out. DERIVED HERE. The library's sort of a short slice of numbers; Clone, DeleteFunc, Compact. DERIVED HERE. The library's DeleteFunc, Compact and Clone on slices of numbers. -/
import Derived.Test.YtoophlkbngagcaaGreatDoorUMq
import Derived.Test.YtoophlkbngagcaaGreatDoorTAq
set_option linter.unusedSimpArgs false
set_option linter.unusedVariables false
namespace Go.Cl
/-- Two rising lists, each number once, with the same members, are the same. -/
theorem rise_ext : ∀ {a b : List Int}, a.Pairwise (· < ·) → b.Pairwise (· < ·) → (∀ x, x ∈ a ↔ x ∈ b) → a = b
  | [], [], _, _, _ => rfl
  | [], y :: b, _, _, h => by have := (h y).2 (by simp); simp at this
  | x :: a, [], _, _, h => by have := (h x).1 (by simp); simp at this
  | x :: a, y :: b, ha, hb, h => by
    rw [List.pairwise_cons] at ha hb
    have hxy : x = y := by
      rcases List.mem_cons.1 ((h x).1 (by simp)) with e | e
      · exact e
      · rcases List.mem_cons.1 ((h y).2 (by simp)) with e' | e'
        · exact e'.symm
        · have := hb.1 x e; have := ha.1 y e'; omega
    subst hxy
    congr 1
    refine rise_ext ha.2 hb.2 fun z => ⟨fun hz => ?_, fun hz => ?_⟩
    · rcases List.mem_cons.1 ((h z).1 (List.mem_cons_of_mem _ hz)) with e | e
      · have := ha.1 z hz; omega
      · exact e
    · rcases List.mem_cons.1 ((h z).2 (List.mem_cons_of_mem _ hz)) with e | e
      · have := hb.1 z hz; omega
      · exact e
def gI (L : List Int) (i : Nat) : Int := L.getD i 0
theorem gI_get {L : List Int} {i : Nat} (h : i < L.length) : L[i]? = some (gI L i) := by
  simp only [gI, List.getD_eq_getElem?_getD, List.getElem?_eq_getElem h, Option.getD_some]
def SortTo (L : List Int) (i : Nat) : Prop := ∀ p q, p < q → q < i → gI L p ≤ gI L q
structure InsI (L : List Int) (i j : Nat) : Prop where
  a : ∀ p q, p < q → q ≤ i → p ≠ j → q ≠ j → gI L p ≤ gI L q
  b : ∀ q, j < q → q ≤ i → gI L j ≤ gI L q
theorem ins_start {L : List Int} {i : Nat} (h : SortTo L i) : InsI L i i := ⟨fun p q h1 h2 h3 h4 => h p q h1 (by omega), fun q h1 h2 => by omega⟩
def swp (L : List Int) (j : Nat) : List Int := (L.set j (gI L (j - 1))).set (j - 1) (gI L j)
theorem swp_len {L : List Int} {j : Nat} : (swp L j).length = L.length := by simp [swp]
theorem gI_swp {L : List Int} {j : Nat} (hj : 0 < j) (hl : j < L.length) (p : Nat) : gI (swp L j) p = if p = j - 1 then gI L j else if p = j then gI L (j - 1) else gI L p := by
  simp only [gI, swp, List.getD_eq_getElem?_getD, List.getElem?_set, List.length_set]
  by_cases h1 : p = j - 1
  · subst h1
    simp [show j - 1 < L.length by omega]
  · rw [if_neg (Ne.symm h1), if_neg h1]
    by_cases h2 : p = j
    · subst h2; simp [hl]
    · rw [if_neg (Ne.symm h2), if_neg h2]
theorem swp_perm {L : List Int} {j : Nat} (hj : 0 < j) (hl : j < L.length) : (swp L j).Perm L := by
  have h1 : gI L (j - 1) = L[j - 1] := by simp [gI, List.getD_eq_getElem?_getD, List.getElem?_eq_getElem (show j - 1 < L.length by omega)]
  have h2 : gI L j = L[j] := by simp [gI, List.getD_eq_getElem?_getD, List.getElem?_eq_getElem hl]
  rw [swp, h1, h2]
  exact List.set_set_perm hl (by omega)
theorem ins_step {L : List Int} {i j : Nat} (h : InsI L i j) (hj : 0 < j) (hi : j ≤ i) (hl : i < L.length) (hlt : gI L j < gI L (j - 1)) : InsI (swp L j) i (j - 1) := by
  have g := gI_swp hj (show j < L.length by omega)
  refine ⟨fun p q h1 h2 h3 h4 => ?_, fun q h1 h2 => ?_⟩
  · rw [g, g, if_neg h3, if_neg h4]
    by_cases hp : p = j
    · subst hp
      rw [if_pos rfl, if_neg (by omega)]
      exact h.a (p - 1) q (by omega) h2 (by omega) (by omega)
    · rw [if_neg hp]
      by_cases hq : q = j
      · subst hq
        rw [if_pos rfl]
        exact h.a p (q - 1) (by omega) (by omega) hp (by omega)
      · rw [if_neg hq]
        exact h.a p q h1 h2 hp hq
  · rw [g, g, if_pos rfl, if_neg (by omega)]
    by_cases hq : q = j
    · subst hq; rw [if_pos rfl]; omega
    · rw [if_neg hq]
      exact h.b q (by omega) h2
theorem ins_end {L : List Int} {i j : Nat} (h : InsI L i j) (hi : j ≤ i) (he : j = 0 ∨ gI L (j - 1) ≤ gI L j) : SortTo L (i + 1) := by
  intro p q h1 h2
  by_cases hq : q = j
  · subst hq
    rcases he with he | he
    · omega
    · by_cases hp : p = q - 1
      · subst hp; exact he
      · have := h.a p (q - 1) (by omega) (by omega) (by omega) (by omega)
        omega
  · by_cases hp : p = j
    · subst hp; exact h.b q h1 (by omega)
    · exact h.a p q h1 (by omega) hp hq
theorem sortTo_pw {L : List Int} (h : SortTo L L.length) : L.Pairwise (· ≤ ·) := by
  rw [List.pairwise_iff_getElem]
  intro i j hi hj hij
  have := h i j hij hj
  simpa [gI, List.getD_eq_getElem?_getD, List.getElem?_eq_getElem hi, List.getElem?_eq_getElem hj] using this
/-- Doubles that stand side by side, left out, behind p. -/
def dd (p : Int) : List Int → List Int
  | [] => []
  | x :: t => if x = p then dd x t else x :: dd x t
def compL : List Int → List Int
  | [] => []
  | x :: t => x :: dd x t
theorem dd_rise : ∀ (t : List Int) (p : Int), (p :: t).Pairwise (· ≤ ·) → (p :: dd p t).Pairwise (· < ·) ∧ ∀ x, x ∈ p :: dd p t ↔ x ∈ p :: t
  | [], p, _ => by simp [dd]
  | y :: t, p, h => by
    rw [List.pairwise_cons] at h
    obtain ⟨h1, h2⟩ := dd_rise t y h.2
    simp only [dd]
    by_cases hy : y = p
    · subst hy
      rw [if_pos rfl]
      refine ⟨h1, fun x => ?_⟩
      rw [h2 x]
      simp
    · rw [if_neg hy]
      have hpy := h.1 y (by simp)
      rw [List.pairwise_cons] at h1 ⊢
      refine ⟨⟨fun z hz => ?_, List.pairwise_cons.2 h1⟩, fun x => ?_⟩
      · rcases List.mem_cons.1 hz with e | e
        · omega
        · have := h1.1 z e; omega
      · rw [List.mem_cons, h2 x, List.mem_cons (a := x) (b := p)]
theorem compL_rise {l : List Int} (h : l.Pairwise (· ≤ ·)) : (compL l).Pairwise (· < ·) ∧ ∀ x, x ∈ compL l ↔ x ∈ l := by
  cases l with
  | nil => simp [compL]
  | cons x t => exact dd_rise t x h
theorem dd_len : ∀ (t : List Int) (p : Int), (dd p t).length ≤ t.length
  | [], p => by simp [dd]
  | y :: t, p => by
    have := dd_len t y
    simp only [dd]
    split <;> simp <;> omega
/-- The registers of a set, as numbers, rising. -/
theorem upto_rise (f : Nat → Bool) (n : Nat) : (upto f n).Pairwise (· < ·) := by
  simp only [upto]
  rw [List.pairwise_map]
  exact (List.pairwise_lt_range.filter _).imp fun h => Int.ofNat_lt.2 h
theorem mem_upto {f : Nat → Bool} {n : Nat} {x : Int} : x ∈ upto f n ↔ ∃ r, r < n ∧ f r = true ∧ x = (r : Int) := by
  simp only [upto, List.mem_map, List.mem_filter, List.mem_range]
  constructor
  · rintro ⟨r, ⟨h1, h2⟩, h3⟩; exact ⟨r, h1, h2, h3.symm⟩
  · rintro ⟨r, h1, h2, h3⟩; exact ⟨r, ⟨h1, h2⟩, h3.symm⟩
end Go.Cl
set_option linter.unusedSimpArgs false
set_option linter.unusedVariables false
namespace Go.Cl
open Go.Proofs
variable {W : World} {G : Nat → CV}
set_option maxRecDepth 8000
/-- The cells of a block that begins with numbers. -/
abbrev nums (L : List Int) (ex : List CV) : List CV := L.map (fun n => ci n) ++ ex
theorem nums_get {L : List Int} {ex : List CV} {i : Nat} (h : i < L.length) : (nums L ex)[i]? = some (ci (gI L i)) := by
  rw [nums, List.getElem?_append_left (by simpa using h), List.getElem?_map, gI_get h]
  rfl
theorem nums_set {L : List Int} {ex : List CV} {i : Nat} {x : Int} (h : i < L.length) : (nums L ex).take i ++ ci x :: (nums L ex).drop (i + 1) = nums (L.set i x) ex := by
  rw [take_drop_set (by simp [nums]; omega), nums, List.set_append_left _ _ (by simpa using h)]
  simp only [nums, List.map_set]
theorem isNaN_c (hX : CxOk (cx W G)) (x : Int) (H : Hp) : CC Tryz.prog W 97 [ci x] H fun y H' => y = .ret (.bool false) ∧ H' = H := by
  refine CC.at0 ?_ H
  refine CC.of_ev hX mixed d97 Tryz.func97 rfl rfl (Nat.le_of_ble_eq_true rfl) d97_ok ?_
  simp [Tryz.f97, d97]
theorem less_c (hX : CxOk (cx W G)) (x y : Int) (H : Hp) : CC Tryz.prog W 136 [ci x, ci y] H fun z H' => z = .ret (.bool (decide (x < y))) ∧ H' = H := by
  refine CC.of_ev hX mixed d136 Tryz.func136 rfl rfl (Nat.le_of_ble_eq_true rfl) d136_ok ?_
  simp [Tryz.f136, d136]
  refine (isNaN_c hX x H).k ?_
  rintro z H1 ⟨rfl, rfl⟩
  simp
structure isO (H : Hp) (l : List Int) (r c : Nat) (ex : List CV) (d : Nat) (j : Nat) (s' : CA) (H' : Hp) : Prop where
  ex : ∃ i i6 : Nat, ∃ L, i ≤ max l.length 1 ∧ 1 ≤ i ∧ j = max l.length 1 - i ∧ s'.env 0 = .ref r 0 l.length c ∧ s'.env 1 = ci 0 ∧ s'.env 2 = .int .i64 l.length ∧ s'.env 6 = .int .i64 i6 ∧ i6 + d = i ∧ s'.ds = [] ∧ List.Perm L l ∧ SortTo L i ∧ H' = H.set r (.cells (nums L ex))
structure isI (H : Hp) (l : List Int) (r c i : Nat) (ex : List CV) (m : Nat) (s' : CA) (H' : Hp) : Prop where
  ex : ∃ L, m ≤ i ∧ s'.env 0 = .ref r 0 l.length c ∧ s'.env 1 = ci 0 ∧ s'.env 2 = .int .i64 l.length ∧ s'.env 6 = .int .i64 i ∧ s'.env 7 = .int .i64 m ∧ s'.ds = [] ∧ List.Perm L l ∧ InsI L i m ∧ H' = H.set r (.cells (nums L ex))
structure isW (H : Hp) (l : List Int) (r c i m : Nat) (ex : List CV) (s' : CA) (H' : Hp) : Prop where
  ex : ∃ L, s'.env 0 = .ref r 0 l.length c ∧ s'.env 1 = ci 0 ∧ s'.env 2 = .int .i64 l.length ∧ s'.env 6 = .int .i64 i ∧ s'.env 7 = .int .i64 m ∧ s'.ds = [] ∧ List.Perm L l ∧ InsI L i (m - 1) ∧ H' = H.set r (.cells (nums L ex))
theorem insSort_c (hX : CxOk (cx W G)) (l : List Int) (r c : Nat) (ex : List CV) (hl : l.length ≤ 1000000) (H : Hp) (hr : H r = some (.cells (nums l ex))) :
    CC Tryz.prog W 130 [.ref r 0 l.length c, ci 0, .int .i64 l.length] H fun x H' => x = .ret (.tuple []) ∧ ∃ L, List.Perm L l ∧ SortTo L L.length ∧ H' = H.set r (.cells (nums L ex)) := by
  refine CC.of_cw hX Tryz.func130 rfl rfl (Nat.le_of_ble_eq_true rfl) ?_
  refine CW.walk hX mixed d130 rfl ?_
  simp
  refine CW.block ?_
  refine CW.loop (isO H l r c ex 0) ?_ (m := max l.length 1 - 1) ⟨1, 1, l, by omega, by omega, rfl, by simp, by simp, by simp, by simp; exact wrapI (by omega) (by omega), rfl, rfl, .refl _, fun p q h1 h2 => by omega, (hset_self hr).symm⟩
  rintro j ⟨e, ds⟩ H1 ⟨i, i6, L, hi, hi1, rfl, e0, e1, e2, e6, hi6, rfl, hp, hs, rfl⟩
  obtain rfl : i = i6 := by omega
  dsimp only at e0 e1 e2 e6
  have hLl := hp.length_eq
  by_cases hil : i < l.length
  rotate_left
  · refine CW.walk hX mixed d130 rfl ?_
    simp [e2, e6, hil]
    exact ⟨L, hp, fun p q h1 h2 => hs p q h1 (by omega), rfl⟩
  refine CW.walk hX mixed d130 rfl ?_
  simp [e2, e6, hil]
  refine CW.cut (isO H l r c ex 1 (max l.length 1 - (i + 1))) ?_ ?_
  · refine CW.block ?_
    refine CW.walk hX mixed d130 rfl ?_
    simp [e6]
    refine CW.block ?_
    refine CW.loop (isI H l r c i ex) ?_ (m := i) ⟨L, by omega, by simp [e0], by simp [e1], by simp [e2], by simp [e6], by simp, rfl, hp, ins_start hs, rfl⟩
    clear e0 e1 e2 e6 hp hs hLl
    clear e L
    rintro m ⟨e, ds⟩ H1 ⟨L, hm, e0, e1, e2, e6, e7, rfl, hp, hs, rfl⟩
    dsimp only at e0 e1 e2 e6 e7
    have hLl := hp.length_eq
    by_cases hm0 : m = 0
    · subst hm0
      refine CW.walk hX mixed d130 rfl ?_
      simp [d130, e0, e1, e6, e7]
      exact ⟨i + 1, i, L, by omega, by omega, rfl, by simp [e0], by simp [e1], by simp [e2], by simp [e6], rfl, rfl, hp, ins_end hs hm (.inl rfl), rfl⟩
    have hm1 : 0 < m := by omega
    have hml : m < l.length := by omega
    have hw : IntKind.i64.wrap ((m : Int) - 1) = ((m - 1 : Nat) : Int) := by rw [wrapI (by omega) (by omega)]; omega
    have g1 := nums_get (ex := ex) (show m < L.length by omega)
    have g2 := nums_get (ex := ex) (show m - 1 < L.length by omega)
    refine CW.walk hX mixed d130 rfl ?_
    simp [d130, e0, e1, e6, e7, hm1, hml, hw, g1, g2, show m - 1 < l.length by omega]
    refine (less_c hX _ _ _).k ?_
    rintro z H2 ⟨rfl, rfl⟩
    by_cases hlt : gI L m < gI L (m - 1)
    rotate_left
    · simp [hlt]
      exact ⟨i + 1, i, L, by omega, by omega, rfl, by simp [e0], by simp [e1], by simp [e2], by simp [e6], rfl, rfl, hp, ins_end hs hm (.inr (by omega)), rfl⟩
    simp [hlt]
    refine CW.cut (isW H l r c i m ex) ?_ ?_
    · refine CW.block ?_
      refine CW.walk1 hX mixed d130 rfl ?_
      simp [d130, e0, e1, e6, e7, hm1, hml, hw, g1, g2, show m - 1 < l.length by omega]
      refine ⟨by omega, by omega, ?_⟩
      rw [nums_set (show m < L.length by omega), nums_set (show m - 1 < (L.set m (gI L (m - 1))).length by simp; omega)]
      exact ⟨swp L m, by simp [e0], by simp [e1], by simp [e2], by simp [e6], by simp [e7], rfl, (swp_perm hm1 (by omega)).trans hp, ins_step hs hm1 hm (by omega) hlt, rfl⟩
    clear e0 e1 e2 e6 e7 g1 g2 hlt hs hp hLl
    clear e L
    rintro ⟨e, ds⟩ H1 ⟨L, e0, e1, e2, e6, e7, rfl, hp, hs, rfl⟩
    dsimp only at e0 e1 e2 e6 e7
    refine CW.walk1 hX mixed d130 rfl ?_
    simp [e7, hw]
    exact ⟨m - 1, by omega, L, by omega, by simp [e0], by simp [e1], by simp [e2], by simp [e6], by simp, rfl, hp, hs, rfl⟩
  clear e0 e1 e2 e6 hs hp hLl
  clear e L
  rintro ⟨e, ds⟩ H1 ⟨i2, i6, L, hi2, hi21, hij, e0, e1, e2, e6, hi6, rfl, hp, hs, rfl⟩
  dsimp only at e0 e1 e2 e6
  obtain rfl : i2 = i + 1 := by omega
  obtain rfl : i = i6 := by omega
  refine CW.walk1 hX mixed d130 rfl ?_
  simp [e6]
  exact ⟨max l.length 1 - (i + 1), by omega, i + 1, i + 1, L, hi2, hi21, rfl, by simp [e0], by simp [e1], by simp [e2], by simp; exact wrapI (by omega) (by omega), rfl, rfl, hp, hs, rfl⟩
theorem u64_wrap {n : Int} (h1 : 0 ≤ n) (h2 : n < 18446744073709551616) : IntKind.u64.wrap n = n := by
  have : IntKind.u64.wrap n = n % 18446744073709551616 := by simp [IntKind.wrap, IntKind.bits, IntKind.signed]
  rw [this]
  omega
theorem insSort_nil (hX : CxOk (cx W G)) (H : Hp) : CC Tryz.prog W 130 [.nilsl, ci 0, ci 0] H fun x H' => x = .ret (.tuple []) ∧ H' = H := by
  refine CC.of_cw hX Tryz.func130 rfl rfl (Nat.le_of_ble_eq_true rfl) ?_
  refine CW.walk hX mixed d130 rfl ?_
  simp
  refine CW.block ?_
  refine CW.loop (fun j s' H' => s'.env 2 = ci 0 ∧ s'.env 6 = ci 1 ∧ s'.ds = [] ∧ H' = H) ?_ (m := 0) ⟨by simp, by simp; exact wrapI (by omega) (by omega), rfl, rfl⟩
  rintro j ⟨e, ds⟩ H1 ⟨e2, e6, rfl, rfl⟩
  dsimp only at e2 e6
  refine CW.walk hX mixed d130 rfl ?_
  simp [e2, e6]
theorem len64_c (hX : CxOk (cx W G)) (n : Nat) (hn : n ≤ 4) (H : Hp) : CC Tryz.prog W 122 [.int .u64 n] H fun x H' => (∃ m : Int, x = .ret (ci m)) ∧ H' = H := by
  refine CC.of_ev hX mixed d122 Tryz.func122 rfl rfl (Nat.le_of_ble_eq_true rfl) d122_ok ?_
  rcases n with _|_|_|_|_|n
  all_goals try omega
  all_goals
    simp [Tryz.f122, d122]
    exact ⟨by decide, by decide⟩
theorem len_c (hX : CxOk (cx W G)) (n : Nat) (hn : n ≤ 4) (H : Hp) : CC Tryz.prog W 96 [.int .u64 n] H fun x H' => (∃ m : Int, x = .ret (ci m)) ∧ H' = H := by
  refine CC.of_ev hX mixed d96 Tryz.func96 rfl rfl (Nat.le_of_ble_eq_true rfl) d96_ok ?_
  simp [Tryz.f96, d96]
  refine (len64_c hX n hn H).k ?_
  rintro x H1 ⟨⟨m, rfl⟩, rfl⟩
  simp
/-- A slice of numbers, in a block that may be written. -/
def Mu (H : Hp) (v : CV) (l : List Int) (r c : Nat) (ex : List CV) : Prop := v = .ref r 0 l.length c ∧ l.length ≤ c ∧ H r = some (.cells (nums l ex))
theorem pdq_c (hX : CxOk (cx W G)) (l : List Int) (r c : Nat) (ex : List CV) (lim : Int) (hl : l.length ≤ 4) (H : Hp) (hr : H r = some (.cells (nums l ex))) :
    CC Tryz.prog W 112 [.ref r 0 l.length c, ci 0, .int .i64 l.length, ci lim] H fun x H' => x = .ret (.tuple []) ∧ ∃ L, List.Perm L l ∧ SortTo L L.length ∧ H' = H.set r (.cells (nums L ex)) := by
  refine CC.of_cw hX Tryz.func112 rfl rfl (Nat.le_of_ble_eq_true rfl) ?_
  refine CW.walk hX mixed d112 rfl ?_
  simp
  refine CW.walk hX mixed d112 rfl ?_
  simp
  refine CW.block ?_
  refine CW.loop (fun j s' H' => s'.env 0 = .ref r 0 l.length c ∧ s'.env 1 = ci 0 ∧ s'.env 2 = .int .i64 l.length ∧ s'.ds = [] ∧ H' = H) ?_ (m := 0) ⟨by simp, by simp, by simp, rfl, rfl⟩
  rintro j ⟨e, ds⟩ H1 ⟨e0, e1, e2, rfl, rfl⟩
  dsimp only at e0 e1 e2
  refine CW.block ?_
  refine CW.walk hX mixed d112 rfl ?_
  have hw : IntKind.i64.wrap (l.length : Int) = l.length := wrapI (by omega) (by omega)
  simp [e1, e2, hw]
  refine CW.walk hX mixed d112 rfl ?_
  simp [e0, e1, e2, show (l.length : Int) ≤ 12 by omega]
  refine (insSort_c hX l r c ex (by omega) H1 hr).k ?_
  rintro x H2 ⟨rfl, L, h1, h2, rfl⟩
  simp
  exact ⟨L, h1, h2, rfl⟩
theorem pdq_nil (hX : CxOk (cx W G)) (lim : Int) (H : Hp) : CC Tryz.prog W 112 [.nilsl, ci 0, ci 0, ci lim] H fun x H' => x = .ret (.tuple []) ∧ H' = H := by
  refine CC.of_cw hX Tryz.func112 rfl rfl (Nat.le_of_ble_eq_true rfl) ?_
  refine CW.walk hX mixed d112 rfl ?_
  simp
  refine CW.walk hX mixed d112 rfl ?_
  simp
  refine CW.block ?_
  refine CW.loop (fun j s' H' => s'.env 0 = .nilsl ∧ s'.env 1 = ci 0 ∧ s'.env 2 = ci 0 ∧ s'.ds = [] ∧ H' = H) ?_ (m := 0) ⟨by simp, by simp, by simp, rfl, rfl⟩
  rintro j ⟨e, ds⟩ H1 ⟨e0, e1, e2, rfl, rfl⟩
  dsimp only at e0 e1 e2
  refine CW.block ?_
  refine CW.walk hX mixed d112 rfl ?_
  have hw : IntKind.i64.wrap 0 = 0 := wrapI (by omega) (by omega)
  simp [e1, e2, hw]
  refine CW.walk hX mixed d112 rfl ?_
  simp [e0, e1, e2]
  refine (insSort_nil hX H1).k ?_
  rintro x H2 ⟨rfl, rfl⟩
  simp
theorem sort_c (hX : CxOk (cx W G)) (l : List Int) (r c : Nat) (ex : List CV) (hl : l.length ≤ 4) (H : Hp) (hr : H r = some (.cells (nums l ex))) :
    CC Tryz.prog W 94 [.ref r 0 l.length c] H fun x H' => x = .ret (.tuple []) ∧ ∃ L, List.Perm L l ∧ SortTo L L.length ∧ H' = H.set r (.cells (nums L ex)) := by
  refine CC.of_ev hX mixed d94 Tryz.func94 rfl rfl (Nat.le_of_ble_eq_true rfl) d94_ok ?_
  simp [Tryz.f94, d94]
  rw [show IntKind.u64.wrap (l.length : Int) = ((l.length : Nat) : Int) from u64_wrap (by omega) (by omega)]
  refine (len_c hX l.length hl H).k ?_
  rintro x H1 ⟨⟨m, rfl⟩, rfl⟩
  simp
  refine (pdq_c hX l r c ex m hl H1 hr).k ?_
  rintro x H2 ⟨rfl, L, h1, h2, rfl⟩
  simp
  exact ⟨L, h1, h2, rfl⟩
theorem sort_nil (hX : CxOk (cx W G)) (H : Hp) : CC Tryz.prog W 94 [.nilsl] H fun x H' => x = .ret (.tuple []) ∧ H' = H := by
  refine CC.of_ev hX mixed d94 Tryz.func94 rfl rfl (Nat.le_of_ble_eq_true rfl) d94_ok ?_
  simp [Tryz.f94, d94]
  rw [show IntKind.u64.wrap 0 = (((0 : Nat) : Nat) : Int) from u64_wrap (by omega) (by omega)]
  refine (len_c hX 0 (by omega) H).k ?_
  rintro x H1 ⟨⟨m, rfl⟩, rfl⟩
  simp
  refine (pdq_nil hX m H1).k ?_
  rintro x H2 ⟨rfl, rfl⟩
  simp
end Go.Cl
set_option linter.unusedSimpArgs false
set_option linter.unusedVariables false
namespace Go.Cl
open Go.Proofs
variable {W : World} {G : Nat → CV}
set_option maxRecDepth 8000
theorem take_set_succ {α : Type} {L : List α} {i : Nat} {v : α} (h : i < L.length) : (L.set i v).take (i + 1) = L.take i ++ [v] := by
  rw [← take_drop_set h, show L.take i ++ v :: L.drop (i + 1) = (L.take i ++ [v]) ++ L.drop (i + 1) by simp]
  exact List.take_left' (by simp; omega)
theorem drop_set_lt {α : Type} {L : List α} {i j : Nat} {v : α} (h : i < j) : (L.set i v).drop j = L.drop j := by
  apply List.ext_getElem?
  intro x
  rw [List.getElem?_drop, List.getElem?_drop, List.getElem?_set_ne (by omega)]
theorem gI_drop {L l : List Int} {j k : Nat} (h : L.drop j = l.drop j) (hk : j ≤ k) : gI L k = gI l k := by
  have h2 := congrArg (fun x : List Int => x[k - j]?) h
  simp only [List.getElem?_drop] at h2
  rw [show j + (k - j) = k by omega] at h2
  simp only [gI, List.getD_eq_getElem?_getD, h2]
theorem drop_more {L l : List Int} {j k : Nat} (h : L.drop j = l.drop j) (hk : j ≤ k) : L.drop k = l.drop k := by
  have h2 := congrArg (List.drop (k - j)) h
  simp only [List.drop_drop] at h2
  rwa [show j + (k - j) = k by omega] at h2
theorem drop_gI {l : List Int} {j : Nat} (h : j < l.length) : l.drop j = gI l j :: l.drop (j + 1) := by
  rw [List.drop_eq_getElem_cons h]
  congr 1
  simp [gI, List.getD_eq_getElem?_getD, List.getElem?_eq_getElem h]
theorem take_gI {l : List Int} {j : Nat} (h : j < l.length) : l.take (j + 1) = l.take j ++ [gI l j] := by
  rw [List.take_succ_eq_append_getElem h]
  simp [gI, List.getD_eq_getElem?_getD, List.getElem?_eq_getElem h]
theorem gI_mem {l : List Int} {j : Nat} (h : j < l.length) : gI l j ∈ l := List.mem_of_getElem? (gI_get h)
theorem nums_take {L : List Int} {ex : List CV} {i : Nat} (h : i ≤ L.length) : (nums L ex).take i = (L.take i).map fun n => ci n := by
  rw [nums, List.take_append_of_le_length (by simpa using h), List.map_take]
theorem indexX_c (hX : CxOk (cx W G)) (l : List Int) (r c : Nat) (ex : List CV) (g : FuncId) (first cap : List CV) (q : Int → Bool) (H : Hp) (hr : H r = some (.cells (nums l ex))) (hlen : l.length ≤ 1000000) (hf : ∀ x ∈ l, CC Tryz.prog W g (first ++ ci x :: cap) H fun r H' => r = .ret (.bool (q x)) ∧ H' = H) :
    CC Tryz.prog W 91 [.ref r 0 l.length c, .func (.func g) first cap] H fun x H' => H' = H ∧ ((x = .ret (ci (-1)) ∧ ∀ y ∈ l, q y = false) ∨ ∃ i, i < l.length ∧ x = .ret (.int .i64 i) ∧ (∀ y ∈ l.take i, q y = false) ∧ q (gI l i) = true) := by
  refine CC.of_ev hX mixed d91 Tryz.func91 rfl rfl (Nat.le_of_ble_eq_true rfl) d91_ok ?_
  simp [Tryz.f91, d91, ints_len]
  refine CW.loop (fun j s' H' => ∃ k, k ≤ l.length ∧ j = l.length - k ∧ s'.env 0 = .ref r 0 l.length c ∧ s'.env 1 = .func (.func g) first cap ∧ s'.env 7 = .int .i64 l.length ∧ s'.env 8 = .int .i64 k ∧ s'.ds = [] ∧ H' = H ∧ ∀ y ∈ l.take k, q y = false) ?_ (m := l.length) ⟨0, by simp⟩
  rintro j ⟨e, ds⟩ H' ⟨k, hk, rfl, e0, e1, e7, e8, rfl, rfl, hno⟩
  dsimp only at e0 e1 e7 e8
  refine vw_sound hX mixed (D := d91) _ _ _ _ (by kernel_rfl) ?_
  by_cases hkl : k < l.length
  · have hm := gI_mem hkl
    have hxi := nums_get (ex := ex) hkl
    have ht := take_gI hkl
    generalize hgx : gI l k = x at hm hxi ht
    simp [e0, e1, e7, e8, hkl, hxi, hr]
    refine (hf x hm).k ?_
    rintro y H2 ⟨rfl, rfl⟩
    simp [e0, e1, e7, e8]
    refine ⟨fun h => ⟨k, hkl, rfl, hno, by rw [hgx]; exact h⟩, fun h => ?_⟩
    refine ⟨l.length - (k + 1), by omega, k + 1, by omega, rfl, by rw [wrapI (by omega) (by omega)]; simp, ?_⟩
    intro y hy
    rw [ht] at hy
    rcases List.mem_append.1 hy with hy | hy
    · exact hno y hy
    · simp at hy; subst hy; exact h
  · have : k = l.length := by omega
    subst this
    simp [e0, e1, e7, e8]
    simpa using hno
structure dfI (H : Hp) (l : List Int) (r c : Nat) (ex : List CV) (fv : CV) (q : Int → Bool) (d : Nat) (m : Nat) (s' : CA) (H' : Hp) : Prop where
  ex : ∃ i j j6 : Nat, ∃ L, m = l.length - j ∧ i < j ∧ j ≤ l.length ∧ List.length L = l.length ∧ L.take i = (l.take j).filter (fun x => !q x) ∧ L.drop j = l.drop j ∧ s'.env 0 = .ref r 0 l.length c ∧ s'.env 1 = fv ∧ s'.env 5 = .int .i64 i ∧ s'.env 6 = .int .i64 j6 ∧ j6 + d = j ∧ s'.ds = [] ∧ H' = H.set r (.cells (nums L ex))
structure dfX (H : Hp) (l : List Int) (r c : Nat) (ex : List CV) (q : Int → Bool) (s' : CA) (H' : Hp) : Prop where
  ex : ∃ i L, i < l.length ∧ List.length L = l.length ∧ L.take i = l.filter (fun x => !q x) ∧ s'.env 0 = .ref r 0 l.length c ∧ s'.env 5 = .int .i64 i ∧ s'.ds = [] ∧ H' = H.set r (.cells (nums L ex))
theorem indexNil_c (hX : CxOk (cx W G)) (v : CV) (H : Hp) : CC Tryz.prog W 91 [.nilsl, v] H fun x H' => x = .ret (ci (-1)) ∧ H' = H := by
  refine CC.of_ev hX mixed d91 Tryz.func91 rfl rfl (Nat.le_of_ble_eq_true rfl) d91_ok ?_
  simp [Tryz.f91, d91, ints_len]
  refine CW.loop (fun j s' H' => s'.env 7 = .int .i64 0 ∧ s'.env 8 = .int .i64 0 ∧ s'.ds = [] ∧ H' = H) ?_ (m := 0) (by simp)
  rintro j ⟨e, ds⟩ H' ⟨e7, e8, rfl, rfl⟩
  dsimp only at e7 e8
  refine vw_sound hX mixed (D := d91) _ _ _ _ (by kernel_rfl) ?_
  simp [e7, e8]
structure cpX (H : Hp) (l : List Int) (r c : Nat) (ex : List CV) (s' : CA) (H' : Hp) : Prop where
  ex : ∃ kk L, kk < l.length ∧ List.length L = l.length ∧ L.take kk = compL l ∧ s'.env 0 = .ref r 0 l.length c ∧ s'.env 3 = .int .i64 kk ∧ s'.ds = [] ∧ H' = H.set r (.cells (nums L ex))
structure cpI (H : Hp) (l : List Int) (r c : Nat) (d : Nat) (m : Nat) (s' : CA) (H' : Hp) : Prop where
  ex : ∃ k k3 : Nat, m = l.length - k ∧ 1 ≤ k ∧ k ≤ l.length ∧ l.take k ++ dd (gI l (k - 1)) (l.drop k) = compL l ∧ s'.env 0 = .ref r 0 l.length c ∧ s'.env 3 = .int .i64 k3 ∧ k3 + d = k ∧ s'.ds = [] ∧ H' = H
structure cpJ (H : Hp) (l : List Int) (r c k0 : Nat) (ex : List CV) (d : Nat) (m : Nat) (s' : CA) (H' : Hp) : Prop where
  ex : ∃ kk k2 k5 L, m = l.length - (k0 + k2) ∧ 1 ≤ k2 ∧ k0 + k2 ≤ l.length ∧ kk < k0 + k2 ∧ List.length L = l.length ∧ L.drop (k0 + k2 - 1) = l.drop (k0 + k2 - 1) ∧ L.take kk ++ dd (gI l (k0 + k2 - 1)) (l.drop (k0 + k2)) = compL l ∧ s'.env 0 = .ref r 0 l.length c ∧ s'.env 3 = .int .i64 kk ∧ s'.env 4 = .ref r k0 (l.length - k0) (c - k0) ∧ s'.env 5 = .int .i64 k5 ∧ k5 + d = k2 ∧ s'.ds = [] ∧ H' = H.set r (.cells (nums L ex))
theorem compact_c (hX : CxOk (cx W G)) (l : List Int) (r c : Nat) (ex : List CV) (hl : l.length ≤ 1000000) (hc : l.length ≤ c) (H : Hp) (hr : H r = some (.cells (nums l ex))) :
    CC Tryz.prog W 106 [.ref r 0 l.length c] H fun x H' => ∃ ex', x = .ret (.ref r 0 (compL l).length c) ∧ H' = H.set r (.cells (nums (compL l) ex')) := by
  refine CC.of_cw hX Tryz.func106 rfl rfl (Nat.le_of_ble_eq_true rfl) ?_
  refine CW.walk hX mixed d106 rfl ?_
  simp
  by_cases h2 : l.length < 2
  · have hcl : compL l = l := by
      match l, h2 with
      | [], _ => rfl
      | [x], _ => rfl
    refine CW.walk hX mixed d106 rfl ?_
    simp [show (l.length : Int) < 2 by omega]
    exact ⟨by rw [hcl], ex, by rw [hcl]; exact (hset_self hr).symm⟩
  refine CW.walk hX mixed d106 rfl ?_
  simp [show ¬ (l.length : Int) < 2 by omega]
  have h0 : l.take 1 ++ dd (gI l 0) (l.drop 1) = compL l := by
    match l, h2 with
    | x :: y :: t, _ => simp [gI, compL]
    | [x], h => exact absurd (by simp) h
    | [], h => exact absurd (by simp) h
  refine CW.cut (fun s' H' => s'.env 0 = .ref r 0 l.length c ∧ s'.ds = [] ∧ H' = H ∧ compL l = l) ?_ ?_
  · refine CW.walk hX mixed d106 rfl ?_
    simp
    refine CW.block ?_
    refine CW.loop (cpI H l r c 0) ?_ (m := l.length - 1) ⟨1, 1, rfl, by omega, by omega, h0, by simp, by simp, rfl, rfl, rfl⟩
    clear h0
    rintro m ⟨e, ds⟩ H1 ⟨k, k3, rfl, hk1, hkl, hcp, e0, e3, hk3, rfl, rfl⟩
    obtain rfl : k = k3 := by omega
    dsimp only at e0 e3
    by_cases hkl2 : k < l.length
    rotate_left
    · refine CW.walk hX mixed d106 rfl ?_
      simp [e0, e3, hkl2]
      have : k = l.length := by omega
      subst this
      simp [dd] at hcp
      exact hcp.symm
    refine CW.walk hX mixed d106 rfl ?_
    simp [e0, e3, hkl2]
    have hw : IntKind.i64.wrap ((k : Int) - 1) = ((k - 1 : Nat) : Int) := by rw [wrapI (by omega) (by omega)]; omega
    have g1 := nums_get (ex := ex) hkl2
    have g2 := nums_get (ex := ex) (show k - 1 < l.length by omega)
    rw [drop_gI hkl2] at hcp
    refine CW.cut (cpI H1 l r c 1 (l.length - (k + 1))) ?_ ?_
    · refine CW.block ?_
      by_cases he : gI l k = gI l (k - 1)
      rotate_left
      · refine CW.walk1 hX mixed d106 rfl ?_
        simp [d106, e0, e3, hkl2, hw, g1, g2, hr, he, show k - 1 < l.length by omega]
        exact ⟨k + 1, k, rfl, by omega, by omega, by rw [take_gI hkl2]; simpa [dd, he] using hcp, by simp [e0], by simp [e3], rfl, rfl, rfl⟩
      refine CW.walk hX mixed d106 rfl ?_
      simp [d106, e0, e3, hkl2, hw, g1, g2, hr, he, show k - 1 < l.length by omega]
      refine CW.walk1 hX mixed d106 rfl ?_
      have hck : c ≠ k := by omega
      simp [e0, e3, hck]
      refine ⟨by omega, by omega, ?_⟩
      refine CW.loop (cpJ H1 l r c k ex 0) ?_ (m := l.length - (k + 1)) ⟨k, 1, 1, l, rfl, by omega, by omega, by omega, rfl, rfl, ?_, by simp [e0], by simp [e3], by simp, by simp, rfl, rfl, (hset_self hr).symm⟩
      rotate_left
      · rw [show k + 1 - 1 = k by omega]
        simpa [dd, he] using hcp
      clear e0 e3 hcp g1 g2 hw he hkl
      clear e
      rintro m ⟨e, ds⟩ H2 ⟨kk, k2, k5, L, rfl, hk2, hj, hkk, hL, hLd, hcp, e0, e3, e4, e5, hk5, rfl, rfl⟩
      obtain rfl : k2 = k5 := by omega
      dsimp only at e0 e3 e4 e5
      obtain ⟨j, hje⟩ : ∃ j, k + k2 = j := ⟨_, rfl⟩
      rw [hje] at hj hkk hLd hcp
      by_cases hjl : j < l.length
      rotate_left
      · have : j = l.length := by omega
        subst this
        rw [List.drop_length] at hcp
        simp only [dd, List.append_nil] at hcp
        have hck2 : c ≠ kk := by omega
        refine CW.walk hX mixed d106 rfl ?_
        simp [e0, e3, e4, e5, show ¬ (k2 : Int) < ((l.length - k : Nat) : Int) by omega, vcClear, hck2]
        have hlen : (compL l).length = kk := by rw [← hcp, List.length_take]; omega
        refine ⟨hc, by omega, by omega, by omega, hlen.symm, ?_⟩
        rw [nums_take (show kk ≤ L.length by omega), hcp]
        exact ⟨_, rfl⟩
      have hw : IntKind.i64.wrap ((k2 : Int) - 1) = ((k2 - 1 : Nat) : Int) := by rw [wrapI (by omega) (by omega)]; omega
      have hw3 : IntKind.i64.wrap ((kk : Int) + 1) = ((kk + 1 : Nat) : Int) := by rw [wrapI (by omega) (by omega)]; simp
      have g1 := nums_get (ex := ex) (show k + k2 < L.length by omega)
      have g2 := nums_get (ex := ex) (show k + (k2 - 1) < L.length by omega)
      rw [gI_drop hLd (by omega), hje] at g1
      rw [gI_drop hLd (by omega), show k + (k2 - 1) = j - 1 by omega] at g2
      rw [drop_gI hjl] at hcp
      have hLd1 := drop_more hLd (show j - 1 ≤ j by omega)
      refine CW.walk hX mixed d106 rfl ?_
      simp [e0, e3, e4, e5, show (k2 : Int) < ((l.length - k : Nat) : Int) by omega]
      refine CW.cut (cpJ H1 l r c k ex 1 (l.length - (j + 1))) ?_ ?_
      · refine CW.block ?_
        refine CW.walk1 hX mixed d106 rfl ?_
        by_cases he : gI l j = gI l (j - 1)
        · simp [d106, e0, e3, e4, e5, hw, g1, g2, he, hje, show k2 < l.length - k by omega, show k2 - 1 < l.length - k by omega, show k + (k2 - 1) = j - 1 by omega]
          exact ⟨kk, k2 + 1, k2, L, by omega, by omega, by omega, by omega, hL, by rw [show k + (k2 + 1) - 1 = j by omega]; exact hLd1, by rw [show k + (k2 + 1) - 1 = j by omega, show k + (k2 + 1) = j + 1 by omega]; simpa [dd, he] using hcp, by simp [e0], by simp [e3], by simp [e4], by simp [e5], rfl, rfl, rfl⟩
        · simp [d106, e0, e3, e4, e5, hw, hw3, g1, g2, he, hje, show k2 < l.length - k by omega, show k2 - 1 < l.length - k by omega, show k + (k2 - 1) = j - 1 by omega, show kk < l.length by omega]
          refine ⟨by omega, ?_⟩
          rw [nums_set (show kk < L.length by omega)]
          exact ⟨kk + 1, k2 + 1, k2, L.set kk (gI l j), by omega, by omega, by omega, by omega, by simp [hL], by rw [show k + (k2 + 1) - 1 = j by omega, drop_set_lt (by omega)]; exact hLd1, by rw [show k + (k2 + 1) - 1 = j by omega, show k + (k2 + 1) = j + 1 by omega, take_set_succ (by omega)]; simpa [dd, he] using hcp, by simp [e0], by simp [hw3], by simp [e4], by simp [e5], rfl, rfl, rfl⟩
      · clear e0 e3 e4 e5 g1 g2 hw hw3 hL hLd hLd1 hcp hkk
        clear e L kk
        rintro ⟨e, ds⟩ H2 ⟨kk, k22, k5, L, hm, hk22, hj2, hkk, hL, hLd, hcp, e0, e3, e4, e5, hk5, rfl, rfl⟩
        dsimp only at e0 e3 e4 e5
        obtain rfl : k22 = k2 + 1 := by omega
        obtain rfl : k2 = k5 := by omega
        refine CW.walk1 hX mixed d106 rfl ?_
        simp [e5]
        exact ⟨l.length - (j + 1), by omega, kk, k2 + 1, k2 + 1, L, by omega, by omega, hj2, hkk, hL, hLd, hcp, by simp [e0], by simp [e3], by simp [e4], by simp; rw [wrapI (by omega) (by omega)], rfl, rfl, rfl⟩
    · clear e0 e3 g1 g2 hw hcp
      clear e
      rintro ⟨e, ds⟩ H2 ⟨k1, k3, hm, hk1, hkl3, hcp, e0, e3, hk3, rfl, rfl⟩
      dsimp only at e0 e3
      obtain rfl : k1 = k + 1 := by omega
      obtain rfl : k = k3 := by omega
      refine CW.walk1 hX mixed d106 rfl ?_
      simp [e3]
      exact ⟨l.length - (k + 1), by omega, k + 1, k + 1, rfl, by omega, by omega, hcp, by simp [e0], by simp; rw [wrapI (by omega) (by omega)], rfl, rfl, rfl⟩
  · rintro ⟨e, ds⟩ H2 ⟨e0, rfl, rfl, hcl⟩
    dsimp only at e0
    refine CW.walk1 hX mixed d106 rfl ?_
    simp [e0]
    exact ⟨by rw [hcl], ex, by rw [hcl]; exact (hset_self hr).symm⟩
theorem compact_nil (hX : CxOk (cx W G)) (H : Hp) : CC Tryz.prog W 106 [.nilsl] H fun x H' => x = .ret .nilsl ∧ H' = H := by
  refine CC.of_cw hX Tryz.func106 rfl rfl (Nat.le_of_ble_eq_true rfl) ?_
  refine CW.walk hX mixed d106 rfl ?_
  simp
  refine CW.walk hX mixed d106 rfl ?_
  simp
theorem cloneI_nil (hX : CxOk (cx W G)) (H : Hp) : CC Tryz.prog W 93 [.nilsl] H fun x H' => x = .ret .nilsl ∧ H' = H := by
  refine CC.of_ev hX mixed d93 Tryz.func93 rfl rfl (Nat.le_of_ble_eq_true rfl) d93_ok ?_
  simp [Tryz.f93, d93]
theorem cloneI_c (hX : CxOk (cx W G)) (l : List Int) (r c : Nat) (ex : List CV) (hl : l.length ≤ 1000000) (H : Hp) (hr : H r = some (.cells (nums l ex))) :
    CC Tryz.prog W 93 [.ref r 0 l.length c] H fun x H' => ∃ v, x = .ret v ∧ Own H H' v 1 (ints l) := by
  refine CC.of_ev hX mixed d93 Tryz.func93 rfl rfl (Nat.le_of_ble_eq_true rfl) d93_ok ?_
  simp [Tryz.f93, d93, -vcAppend, cfill]
  intro r1 hr1
  have h1r : r ≠ r1 := fun e => by rw [← e, hr] at hr1; cases hr1
  have hlen : (ints l).length = l.length := by simp [ints]
  have how : Own H (H.set r1 (.cells [])) (.ref r1 0 0 0) 1 [] := ⟨Le.set_new hr1, by simp, .inr ⟨r1, 0, [], rfl, hr1, by simp, by simp, by simp⟩⟩
  refine how.append2 (ys := ints l) (fun e he => by simp only [ints, List.mem_map] at he; obtain ⟨_, _, rfl⟩ := he; rfl) (by simp [ints]; omega) (fun K' h => ?_) fun v H4 how4 _ => ?_
  · refine ⟨nums l ex, by simp [Hp.set, h1r, hr], by simp [nums], ?_⟩
    rw [hlen, ints_flat] at h
    have : ((nums l ex).drop 0).take (l.length * 1) = l.map ci := by
      rw [List.drop_zero, Nat.mul_one, nums_take (Nat.le_refl _), List.take_length]
    rw [this]
    exact h
  · simp
    simpa using how4
end Go.Cl
