/- DERIVED HERE. The program's Copy of a unit that lies in blocks. DERIVED HERE. code.Copy: the copied blocks lie apart from the copied sizes. DERIVED HERE. The graph's New, where the unit lies in blocks: its order alone. DERIVED HERE. The reference's walk and its order. DERIVED HERE. Plain: the shapes of branches, and who is alone after whom. DERIVED HERE. Plain: what is done again and again, and why it ends. DERIVED HERE. Plain: the chapter's example of guards. DERIVED HERE. The guard's open: how often blocks are gone to. DERIVED HERE. The guard's alone. -/
import Derived.Test.YtoophlkbngagcaaGreatDoorCP
import Derived.Test.YtoophlkbngagcaaGreatDoorGR
import Derived.Test.YtoophlkbngagcaaGreatDoorTAq
import Derived.Test.YtoophlkbngagcaaGreatDoorRQ
set_option linter.unusedSimpArgs false
set_option linter.unusedVariables false
namespace Go.Cl.Gu
open Go.Proofs Go.Cl.Gd
variable {W : World} {G : Nat → CV}
set_option maxRecDepth 8000
theorem cloneI_o (hX : CxOk (cx W G)) {l : List Int} {v : CV} (hl : l.length ≤ 1000000) {B H : Hp} (h : Own B H v 1 (ints l)) : CC Tryz.prog W 93 [v] H fun x H' => ∃ v', x = .ret v' ∧ Own H H' v' 1 (ints l) := by
  obtain ⟨_, hz, ⟨rfl, h0⟩ | ⟨r, c, ex, rfl, _, hr, _, _⟩⟩ := h
  · obtain rfl : l = [] := by simpa [ints] using h0
    exact (cloneI_nil hX H).mono fun x H' ⟨h1, h2⟩ => ⟨_, h1, by rw [h2]; exact Own.nil (Le.refl _)⟩
  · rw [ints_flat] at hr
    rw [show (ints l).length = l.length by simp [ints]]
    exact cloneI_c hX l r c ex hl H hr
/-- Rows of blocks; the operations of the first i lie in memory that H0 doesn't know, each apart; the others' lie in H0. -/
structure RowsB (H0 H : Hp) (cs : List CV) (bs : List UBlk) (i : Nat) : Prop where
  row : ∀ (j : Nat) k, bs[j]? = some k → ∃ x0, (cs.drop (j * 6)).take 6 = x0 :: blkT k ∧ (j < i → Own H0 H x0 7 (k.ops.map opC)) ∧ (i ≤ j → Own E0 H0 x0 7 (k.ops.map opC))
  ap : ∀ (j j' r o n c r' o' n' c' : Nat), j < j' → j' < i → cs[j * 6]? = some (.ref r o n c) → cs[j' * 6]? = some (.ref r' o' n' c') → r ≠ r'
/-- Blocks in fresh memory. -/
def BlkN (H0 H : Hp) (v : CV) (bs : List UBlk) : Prop := (v = .nilsl ∧ bs = []) ∨ ∃ r c cs, v = .ref r 0 bs.length c ∧ bs.length ≤ c ∧ H0 r = none ∧ H r = some (.cells cs) ∧ RowsB H0 (hole H r) cs bs bs.length
theorem BlkN.r {H0 H : Hp} {v : CV} {bs : List UBlk} (h : BlkN H0 H v bs) : BlkR H v bs := by
  rcases h with h | ⟨r, c, cs, h1, _, _, h2, h3⟩
  · exact .inl h
  · exact .inr ⟨r, c, cs, h1, h2, fun j k hk => by obtain ⟨x0, a, b, _⟩ := h3.row j k hk; exact ⟨x0, a, ((b (List.getElem?_eq_some_iff.1 hk).1).mono hole_le).bare⟩⟩
theorem row_other {cs : List CV} {i j : Nat} {x : CV} (h : j ≠ i) : ((cs.set (i * 6) x).drop (j * 6)).take 6 = (cs.drop (j * 6)).take 6 := by
  apply List.ext_getElem?
  intro t
  simp only [List.getElem?_take, List.getElem?_drop, List.getElem?_set]
  split
  · rw [if_neg (by omega)]
  · rfl
theorem row_same {cs : List CV} {i : Nat} {x y : CV} {l : List CV} (hl : i * 6 < cs.length) (h : (cs.drop (i * 6)).take 6 = y :: l) : ((cs.set (i * 6) x).drop (i * 6)).take 6 = x :: l := by
  apply List.ext_getElem?
  intro t
  have ht := congrArg (fun l : List CV => l[t]?) h
  simp only [List.getElem?_take, List.getElem?_drop, List.getElem?_set] at ht ⊢
  cases t with
  | zero => simp [hl]
  | succ t =>
    rw [List.getElem?_cons_succ] at ht ⊢
    rw [← ht]
    by_cases h6 : t + 1 < 6
    · simp only [h6, if_true]
      rw [if_neg (by omega)]
    · simp only [h6, if_false]
theorem row_head {cs l : List CV} {j : Nat} {x0 : CV} (h : (cs.drop (j * 6)).take 6 = x0 :: l) : cs[j * 6]? = some x0 := by
  have := congrArg (fun l : List CV => l[0]?) h
  simpa [List.getElem?_take, List.getElem?_drop] using this
/-- One row's operations, cloned. -/
theorem RowsB.step {H0 H H' : Hp} {r : Nat} {cs : List CV} {bs : List UBlk} {i : Nat} {k : UBlk} {x : CV} (h : RowsB H0 (hole H r) cs bs i) (hk : bs[i]? = some k) (hl : bs.length * 6 ≤ cs.length) (hle : Le H H') (h0 : Le H0 H) (hr0 : H0 r = none) (hr : H r ≠ none) (hx : Own H H' x 7 (k.ops.map opC)) :
    RowsB H0 (hole H' r) (cs.set (i * 6) x) bs (i + 1) := by
  have hi := (List.getElem?_eq_some_iff.1 hk).1
  have hhole : Le (hole H r) (hole H' r) := fun y o hy => by
    by_cases e : y = r
    · simp [hole, e] at hy
    · simp only [hole, if_neg e] at hy ⊢
      exact hle _ _ hy
  have hx' : Own H0 (hole H' r) x 7 (k.ops.map opC) := by
    obtain ⟨a, b, c⟩ := hx
    refine ⟨le_hole (h0.trans hle) hr0, b, ?_⟩
    rcases c with c | ⟨q, n, ex, e1, e2, e3, e4⟩
    · exact .inl c
    · have hqr : q ≠ r := fun e => hr (by rw [← e]; exact e2)
      exact .inr ⟨q, n, ex, e1, h0.none e2, by simp only [hole, if_neg hqr]; exact e3, e4⟩
  refine ⟨fun j k' hk' => ?_, fun j j' ra o n c ra' o' n' c' h1 h2 h3 h4 => ?_⟩
  · obtain ⟨x0, a, b, c⟩ := h.row j k' hk'
    by_cases e : j = i
    · subst e
      rw [hk] at hk'
      injection hk' with hk'
      subst hk'
      exact ⟨x, row_same (by omega) a, fun _ => hx', fun q => by omega⟩
    · exact ⟨x0, by rw [row_other e]; exact a, fun q => (b (by omega)).mono hhole, fun q => c (by omega)⟩
  · have hj : j < i := by omega
    rw [List.getElem?_set, if_neg (by omega)] at h3
    by_cases e : j' = i
    · subst e
      rw [List.getElem?_set, if_pos rfl, if_pos (by omega)] at h4
      injection h4 with h4
      subst h4
      obtain ⟨x0, a, b, _⟩ := h.row j bs[j] (List.getElem?_eq_getElem (by omega))
      rw [row_head a] at h3
      injection h3 with h3
      subst h3
      obtain ⟨_, _, ⟨hc, _⟩ | ⟨q, n2, ex, e1, e2, e3, _⟩⟩ := b hj
      · cases hc
      obtain ⟨_, _, ⟨hc, _⟩ | ⟨q', n3, ex', e1', e2', _⟩⟩ := hx
      · cases hc
      injection e1 with e1 _ _ _
      injection e1' with e1' _ _ _
      subst e1
      subst e1'
      intro e
      subst e
      simp only [hole] at e3
      split at e3
      · cases e3
      · rw [e2'] at e3; cases e3
    · rw [List.getElem?_set, if_neg (by omega)] at h4
      exact h.ap j j' ra o n c ra' o' n' c' h1 (by omega) h3 h4
end Go.Cl.Gu
set_option linter.unusedSimpArgs false
set_option linter.unusedVariables false
namespace Go.Cl.Gu
open Go.Proofs Go.Cl.Gd
variable {W : World} {G : Nat → CV}
set_option maxRecDepth 8000
set_option maxHeartbeats 1000000
end Go.Cl.Gu
set_option linter.unusedSimpArgs false
set_option linter.unusedVariables false
namespace Go.Cl.Gd
open Go.Proofs
variable {W : World} {G : Nat → CV}
set_option maxRecDepth 8000
end Go.Cl.Gd
set_option linter.unusedSimpArgs false
set_option linter.unusedVariables false
namespace Go.Cl.Gd
open Go.Proofs
variable {W : World} {G : Nat → CV}
set_option maxRecDepth 8000
/-- The ways from each block, frozen. -/
def gN (n : Nat) (N : Nat → List Nat) : CV := .sl 1 ((List.range n).map fun b => [CV.sl 1 (ints (natL (N b)))])
theorem RowsN.fz {H : Hp} {v : CV} {n : Nat} {N : Nat → List Nat} (h : RowsN H v n N) : Fz H v (gN n N) := by
  obtain ⟨rn, cn, cs, rfl, hc, hr, hb⟩ := h
  refine .ref rn 0 n cn 1 cs _ hr (by simp) hc (fun i e he => ?_) (fun i _ => cs.getD i .any) (fun i j hi hj => ?_) (fun i j e x he hx => ?_)
  · obtain ⟨k, _, rfl⟩ := List.mem_map.1 (List.mem_of_getElem? he); rfl
  · obtain rfl : j = 0 := by omega
    obtain ⟨w, h1, _⟩ := hb i hi
    rw [show 0 + (i * 1 + 0) = i by omega, h1, List.getD_eq_getElem?_getD, h1]
    rfl
  · have hi : i < n := by have := (List.getElem?_eq_some_iff.1 he).1; simpa using this
    rw [List.getElem?_map, List.getElem?_range hi] at he
    injection he with he
    subst he
    obtain ⟨w, h1, h2⟩ := hb i hi
    rw [List.getD_eq_getElem?_getD, h1]
    cases j with
    | zero => simp at hx; subst hx; exact h2.fz
    | succ j => simp at hx
structure wrI (B : Hp) (n q q4 b : Nat) (N : Nat → List Nat) (f : Nat) (l : List Nat) (s1 : Nat → Bool) (out : List Nat) (d m : Nat) (s' : CA) (H' : Hp) : Prop where
  ex : ∃ (i i9 : Nat) (v : CV), m = l.length - i ∧ i ≤ l.length ∧ s'.env 1 = .int .i64 b ∧ s'.env 2 = .ref q 0 n n ∧ s'.env 3 = v ∧ s'.env 4 = .ptr q4 0 ∧ s'.env 9 = .int .i64 i9 ∧ i9 + d = i ∧ s'.ds = [] ∧ Own (B.set q (.cells (boolC n (visL N f (l.take i) (s1, out)).1))) H' v 1 (ints (natL (visL N f (l.take i) (s1, out)).2))
structure wrX (B : Hp) (n q b : Nat) (N : Nat → List Nat) (f : Nat) (l : List Nat) (s1 : Nat → Bool) (out : List Nat) (s' : CA) (H' : Hp) : Prop where
  ex : ∃ v, s'.env 1 = .int .i64 b ∧ s'.env 3 = v ∧ s'.ds = [] ∧ Own (B.set q (.cells (boolC n (visL N f l (s1, out)).1))) H' v 1 (ints (natL (visL N f l (s1, out)).2))
theorem walkR_c (hX : CxOk (cx W G)) {n : Nat} {N : Nat → List Nat} (hN : ∀ b, b < n → ∀ k ∈ N b, k < n) (hn : n ≤ 100000) (hNl : ∀ b, b < n → (N b).length ≤ 100000) (sz : Nat) (gx : List (List CV)) (q : Nat) : ∀ (f b : Nat) (s : Nat → Bool) (out : List Nat) (B H : Hp) (v : CV), b < n → s b = false → cnt n s ≤ f → out.length + cnt n s ≤ n → B q = none → Own (B.set q (.cells (boolC n s))) H v 1 (ints (natL out)) →
    CC Tryz.prog W 66 [.agg [gN n N, .sl sz gx], .int .i64 b, .ref q 0 n n, v] H fun x H' => ∃ v', x = .ret v' ∧ Own (B.set q (.cells (boolC n (vis N f b (s, out)).1))) H' v' 1 (ints (natL (vis N f b (s, out)).2)) := by
  intro f
  induction f with
  | zero =>
    intro b s out B H v hb hs hc _ _ _
    have := cnt_lt hb hs
    omega
  | succ f ih =>
  intro b s out B H v hb hs hc hol hBq hown
  have hcl := cnt_lt hb hs
  have hrow : ((List.range n).map fun b => [CV.sl 1 (ints (natL (N b)))])[b]? = some [CV.sl 1 (ints (natL (N b)))] := by rw [List.getElem?_map, List.getElem?_range hb]; rfl
  refine CC.of_cw hX Tryz.func66 rfl rfl (Nat.le_of_ble_eq_true rfl) ?_
  refine CW.walk hX mixed d66 rfl ?_
  simp [gN]
  intro q4 hq4
  have mq := hown.le _ _ set_at
  have hqq : q ≠ q4 := fun e => by rw [e] at mq; rw [hq4] at mq; cases mq
  obtain ⟨gc, hgc⟩ : ∃ gc, [CV.sl 1 ((List.range n).map fun b => [CV.sl 1 (ints (natL (N b)))]), CV.sl sz gx] = gc := ⟨_, rfl⟩
  rw [hgc]
  have hB4 : B q4 = none := by
    have := hown.le.none hq4
    rwa [hset_ne (Ne.symm hqq)] at this
  have hown1 := hown.grow (o := .cells gc) hq4
  rw [set_comm hqq] at hown1
  have hB1q : (B.set q4 (.cells gc)) q = none := by rw [hset_ne hqq]; exact hBq
  have hB14 : (B.set q4 (.cells gc)) q4 = some (.cells gc) := set_at
  have hBB : Le B (B.set q4 (.cells gc)) := Le.set_new hB4
  generalize H.set q4 _ = H1 at hown1 ⊢
  generalize B.set q4 _ = B1 at hown1 hB1q hB14 hBB
  clear hown mq hq4 hB4
  have h4 : ∀ (o : Ob), (B1.set q o) q4 = some (.cells gc) := fun o => by rw [hset_ne (Ne.symm hqq)]; exact hB14
  have g1 := hown1.le _ _ set_at
  refine CW.walk hX mixed d66 rfl ?_
  simp [g1, hb, boolC_len]
  have hown2 := hown1.setBase (o := .cells (boolC n fun x => s x || x == b)) (r := q) (by rw [set_at]; simp)
  rw [set_set] at hown2
  rw [boolC_set hb]
  refine ⟨hb, ?_⟩
  generalize H1.set q _ = H2 at hown2 ⊢
  clear hown1 g1
  obtain ⟨s1, hs1⟩ : ∃ s1, (fun x => s x || x == b) = s1 := ⟨_, rfl⟩
  rw [hs1] at hcl hown2
  obtain ⟨l, hl⟩ : ∃ l, N b = l := ⟨_, rfl⟩
  rw [hl] at hrow
  have hll : l.length ≤ 100000 := by rw [← hl]; exact hNl b hb
  have hlk : ∀ k ∈ l, k < n := by rw [← hl]; exact hN b hb
  have hvis : vis N (f + 1) b (s, out) = ((visL N f l (s1, out)).1, (visL N f l (s1, out)).2 ++ [b]) := by
    rw [← hl, ← hs1]
    rfl
  rw [hvis]
  have hlen := visL_len hN f l s1 out hlk
  have hl2 : (ints (natL l)).length = l.length := by simp [ints, natL]
  refine CW.cut (wrX B1 n q b N f l s1 out) ?_ ?_
  · refine CW.walk hX mixed d66 rfl ?_
    simp
    refine CW.block ?_
    refine CW.loop (wrI B1 n q q4 b N f l s1 out 0) ?_ (m := l.length) ⟨0, 0, v, rfl, by omega, by simp, by simp, by simp, by simp, by simp, rfl, rfl, by simpa [visL] using hown2⟩
    clear hown2
    clear H2 v
    rintro m ⟨e, _⟩ H3 ⟨i, i9, v, rfl, hi, e1, e2, e3, e4, e9, hi9, rfl, hown⟩
    obtain rfl : i = i9 := by omega
    dsimp only at e1 e2 e3 e4 e9
    have g4 := hown.le _ _ (h4 _)
    rw [← hgc] at g4
    by_cases hil : i < l.length
    rotate_left
    · refine CW.walk hX mixed d66 rfl ?_
      simp [e1, e4, e9, g4, hb, hl, hl2, hil]
      obtain rfl : i = l.length := by omega
      rw [List.take_length] at hown
      exact ⟨v, by simp [e1], by simp [e3], rfl, hown⟩
    obtain ⟨k, hk⟩ : ∃ k, l[i]? = some k := ⟨_, List.getElem?_eq_getElem hil⟩
    have hke : l[i] = k := by rw [List.getElem?_eq_getElem hil] at hk; injection hk
    have hel : (ints (natL l))[i]'(by rw [hl2]; exact hil) = [ci (k : Int)] := by simp [ints, natL, hke]
    have hkn := hlk k (List.mem_of_getElem? hk)
    have htk : l.take (i + 1) = l.take i ++ [k] := by rw [List.take_succ_eq_append_getElem hil, hke]
    obtain ⟨σ, hσ⟩ : ∃ σ, visL N f (l.take i) (s1, out) = σ := ⟨_, rfl⟩
    have hcσ : cnt n σ.1 ≤ f := by
      have := cnt_le (n := n) (s := s1) (t := σ.1) fun x hx => by rw [← hσ]; exact visL_mono f _ _ _ x hx
      omega
    have hlσ : σ.2.length + cnt n σ.1 ≤ n := by
      have := visL_len hN f (l.take i) s1 out fun x hx => hlk x (List.mem_of_mem_take hx)
      rw [hσ] at this
      omega
    rw [hσ] at hown
    have hnext : visL N f (l.take (i + 1)) (s1, out) = if σ.1 k then σ else vis N f k σ := by rw [htk, visL_snoc, hσ]
    refine CW.walk hX mixed d66 rfl ?_
    simp [e1, e4, e9, g4, hb, hl, hl2, hil]
    refine CW.cut (wrI B1 n q q4 b N f l s1 out 1 (l.length - (i + 1))) ?_ ?_
    rotate_left
    · clear e1 e2 e3 e4 e9 g4 hown
      rintro ⟨e, _⟩ H3 ⟨i2, i9, v, hm, hi2, e1, e2, e3, e4, e9, hi9, rfl, hown⟩
      dsimp only at e1 e2 e3 e4 e9
      obtain rfl : i2 = i + 1 := by omega
      obtain rfl : i = i9 := by omega
      refine CW.walk1 hX mixed d66 rfl ?_
      simp [e9]
      exact ⟨l.length - (i + 1), by omega, i + 1, i + 1, v, rfl, hi2, by simp [e1], by simp [e2], by simp [e3], by simp [e4], by simp; rw [wrapI (by omega) (by omega)], rfl, rfl, hown⟩
    refine CW.block ?_
    refine CW.walk hX mixed d66 rfl ?_
    simp [e1, e4, e9, g4, hb, hl, hl2, hil, hel]
    have gq := hown.le _ _ set_at
    have gb' := boolC_get (p := σ.1) hkn
    refine CW.walk1 hX mixed d66 rfl ?_
    cases hσk : σ.1 k with
    | true =>
      simp [e2, gq, hkn, gb', boolC_len, boolC_gets, boolC_ex, hσk]
      exact ⟨i + 1, i, v, rfl, by omega, by simp [e1], by simp [e2], by simp [e3], by simp [e4], by simp [e9], rfl, rfl, by rw [hnext, hσk]; exact hown⟩
    | false =>
      simp [e2, e3, e4, g4, gq, hkn, gb', boolC_len, boolC_gets, boolC_ex, hσk]
      have hc := ih k σ.1 σ.2 B1 H3 v hkn hσk hcσ hlσ hB1q hown
      simp only [gN] at hc
      refine hc.k ?_
      rintro x H4 ⟨v', rfl, hown4⟩
      simp
      exact ⟨i + 1, i, v', rfl, by omega, by simp [e1], by simp [e2], by simp, by simp [e4], by simp [e9], rfl, rfl, by rw [hnext, hσk]; exact hown4⟩
  clear hown2
  rintro ⟨e, _⟩ H3 ⟨v, e1, e3, rfl, hown⟩
  dsimp only at e1 e3
  have hbl : (visL N f l (s1, out)).2.length ≤ 1000000 := by omega
  obtain ⟨σ, hσ⟩ : ∃ σ, visL N f l (s1, out) = σ := ⟨_, rfl⟩
  rw [hσ] at hown hbl ⊢
  refine CW.walk1 hX mixed d66 rfl ?_
  simp [e1, e3, cfill, -vcAppend]
  intro q5 hq5
  refine (hown.more hq5).append2 (ys := [[ci (b : Int)]]) (by simp) (by simp [ints, natL]; omega) (src_one set_at rfl) fun v' H4 how4 _ => ?_
  simp
  exact (by simpa [ints, natL] using how4 : Own (B1.set q (.cells (boolC n σ.1))) H4 v' 1 (ints (natL (σ.2 ++ [b])))).base (Le.set hBB)
structure orI (H1 : Hp) (d : List Nat) (dv : CV) (dd m : Nat) (s' : CA) (H' : Hp) : Prop where
  ex : ∃ (t t5 : Nat) (v : CV), m = d.length - t ∧ t ≤ d.length ∧ s'.env 3 = dv ∧ s'.env 4 = v ∧ s'.env 5 = .int .i64 ((d.length : Int) - 1 - t5) ∧ t5 + dd = t ∧ s'.ds = [] ∧ Own H1 H' v 1 (ints (natL (d.reverse.take t)))
structure orX (H1 : Hp) (d : List Nat) (s' : CA) (H' : Hp) : Prop where
  ex : ∃ (v : CV), s'.env 4 = v ∧ s'.ds = [] ∧ Own H1 H' v 1 (ints (natL d.reverse))
theorem orderG_c (hX : CxOk (cx W G)) {n : Nat} {N : Nat → List Nat} (h0 : 0 < n) (hN : ∀ b, b < n → ∀ k ∈ N b, k < n) (hn : n ≤ 100000) (hNl : ∀ b, b < n → (N b).length ≤ 100000) (sz : Nat) (gx : List (List CV)) (H : Hp) :
    CC Tryz.prog W 39 [.agg [gN n N, .sl sz gx]] H fun x H' => ∃ v, x = .ret v ∧ Own H H' v 1 (ints (natL (ordL N n))) := by
  refine CC.of_cw hX Tryz.func39 rfl rfl (Nat.le_of_ble_eq_true rfl) ?_
  refine CW.walk hX mixed d39 rfl ?_
  simp [gN]
  intro q1 hq1
  refine CW.walk hX mixed d39 rfl ?_
  simp [d39]
  refine ⟨by omega, by omega, fun q hqq hqq' hq => ?_⟩
  rw [zeroB]
  have hle1 : Le H (H.set q1 (.cells [CV.sl 1 ((List.range n).map fun b => [CV.sl 1 (ints (natL (N b)))]), CV.sl sz gx])) := Le.set_new hq1
  have hqn : (H.set q1 (.cells [CV.sl 1 ((List.range n).map fun b => [CV.sl 1 (ints (natL (N b)))]), CV.sl sz gx])) q = none := by rw [hset_none_iff]; exact ⟨hqq, hq⟩
  generalize H.set q1 _ = H0 at hle1 hqn ⊢
  have hw := walkR_c hX hN hn hNl sz gx q n 0 (fun _ => false) [] H0 (H0.set q (.cells (boolC n fun _ => false))) .nilsl h0 rfl (by
    simp only [cnt]
    have := List.length_filter_le (fun _ : Nat => !false) (List.range n)
    simpa using this) (by
    simp only [cnt]
    have := List.length_filter_le (fun _ : Nat => !false) (List.range n)
    simpa using this) hqn (Own.nil (Le.refl _))
  simp only [gN] at hw
  refine hw.k ?_
  rintro x H1 ⟨dv, rfl, hown⟩
  have hd : ordL N n = (vis N n 0 (fun _ => false, [])).2.reverse := rfl
  rw [hd]
  have hdl : (vis N n 0 (fun _ => false, [])).2.length ≤ n := by
    have := vis_len hN n 0 (fun _ => false) [] h0 rfl
    simp only [cnt] at this
    have h2 := List.length_filter_le (fun _ : Nat => !false) (List.range n)
    simp at this h2
    omega
  generalize (vis N n 0 (fun _ => false, [])).2 = d at hown hdl ⊢
  have hsd := hown.slF
  have hH : Le H H1 := hle1.trans ((Le.set_new hqn).trans ((Le.set (Le.refl H0)).trans hown.le))
  clear hw hown hqn hle1 hq hqq hqq' hq1
  simp [d39]
  refine CW.walk hX mixed d39 rfl ?_
  simp
  refine CW.cut (orX H1 d) ?_ ?_
  · refine CW.cut (fun s' H' => H' = H1 ∧ s'.env 3 = dv ∧ s'.env 4 = .nilsl ∧ s'.env 5 = .int .i64 ((d.length : Int) - 1) ∧ s'.ds = []) ?_ ?_
    · refine CW.walk1 hX mixed d39 rfl ?_
      rcases hsd with ⟨rfl, h⟩ | ⟨r, c, cs, rfl, _⟩
      · simp [natL] at h
        simp [h]
        exact wrapI (by omega) (by omega)
      · simp [natL_len]
        exact wrapI (by omega) (by omega)
    rintro ⟨e, _⟩ H2 ⟨rfl, e3, e4, e5, rfl⟩
    dsimp only at e3 e4 e5
    refine CW.block ?_
    refine CW.loop (orI H2 d dv 0) ?_ (m := d.length) ⟨0, 0, .nilsl, rfl, by omega, by simp [e3], by simp [e4], by simp [e5], rfl, rfl, Own.nil (Le.refl _)⟩
    clear e3 e4 e5
    clear e
    rintro m ⟨e, _⟩ H3 ⟨t, t5, v, rfl, ht, e3, e4, e5, ht5, rfl, how⟩
    obtain rfl : t = t5 := by omega
    dsimp only at e3 e4 e5
    by_cases htl : t < d.length
    rotate_left
    · refine CW.walk hX mixed d39 rfl ?_
      simp [e5, show ¬ (t : Int) ≤ (d.length : Int) - 1 by omega]
      obtain rfl : t = d.length := by omega
      refine ⟨v, by simp [e4], rfl, ?_⟩
      rwa [List.take_of_length_le (by simp)] at how
    refine CW.walk hX mixed d39 rfl ?_
    simp [e5, show (t : Int) ≤ (d.length : Int) - 1 by omega]
    refine CW.cut (orI H2 d dv 1 (d.length - (t + 1))) ?_ ?_
    rotate_left
    · clear e3 e4 e5 how
      rintro ⟨e, _⟩ H3 ⟨t2, t5, v, hm, ht2, e3, e4, e5, ht5, rfl, how⟩
      dsimp only at e3 e4 e5
      obtain rfl : t2 = t + 1 := by omega
      obtain rfl : t = t5 := by omega
      refine CW.walk1 hX mixed d39 rfl ?_
      simp [e5]
      exact ⟨d.length - (t + 1), by omega, t + 1, t + 1, v, rfl, ht2, by simp [e3], by simp [e4], by simp; rw [wrapI (by omega) (by omega)]; omega, rfl, rfl, how⟩
    refine CW.block ?_
    obtain ⟨r, c, cs, rfl, mr, hcs⟩ : ∃ r c cs, dv = .ref r 0 d.length (d.length + c) ∧ H2 r = some (.cells cs) ∧ ∀ (k : Nat) x, (natL d)[k]? = some x → cs[k]? = some (ci x) := by
      rcases hsd with ⟨_, h⟩ | ⟨r, cc, cs, h1, h2⟩
      · simp [natL] at h; rw [h] at htl; simp at htl
      · exact ⟨r, cc, cs, by rw [h1, natL_len], h2⟩
    obtain ⟨j, hj⟩ : ∃ j : Nat, (d.length : Int) - 1 - t = j := ⟨d.length - 1 - t, by omega⟩
    have hjl : j < d.length := by omega
    obtain ⟨y, hy⟩ : ∃ y, d[j]? = some y := ⟨_, List.getElem?_eq_getElem hjl⟩
    have hcy := hcs j (y : Int) (by rw [natL, List.getElem?_map, hy]; rfl)
    have hrt : d.reverse.take (t + 1) = d.reverse.take t ++ [y] := by
      have h1 : d.reverse[t]? = some y := by
        rw [List.getElem?_reverse htl, show d.length - 1 - t = j by omega, hy]
      rw [List.take_add_one, h1]
      rfl
    have mr3 := how.le _ _ mr
    refine CW.walk1 hX mixed d39 rfl ?_
    simp [e3, e4, e5, hj, hjl, mr3, hcy, cfill, -vcAppend]
    intro q5 hq5
    refine (how.more hq5).append2 (ys := [[ci (y : Int)]]) (by simp) (by simp [ints, natL]; omega) (src_one set_at rfl) fun v' H4 how4 _ => ?_
    simp
    exact ⟨t + 1, t, v', rfl, by omega, by simp [e3], by simp, by simp [e5], rfl, rfl, by rw [hrt]; simpa [ints, natL] using how4⟩
  rintro ⟨e, _⟩ H3 ⟨v, e4, rfl, how⟩
  dsimp only at e4
  refine CW.walk1 hX mixed d39 rfl ?_
  simp [e4]
  exact how.base hH
theorem orderG_f (hX : CxOk (cx W G)) {n : Nat} {N : Nat → List Nat} (h0 : 0 < n) (hN : ∀ b, b < n → ∀ k ∈ N b, k < n) (hn : n ≤ 100000) (hNl : ∀ b, b < n → (N b).length ≤ 100000) {H : Hp} {vn : CV} {rs : Nat} {s : Nat → Bool} (hr : RowsN H vn n N) (hs : H rs = some (.cells (boolC n s))) :
    CC Tryz.prog W 39 [.agg [vn, .ref rs 0 n n]] H fun x H' => ∃ v, x = .ret v ∧ SlF H' v (natL (ordL N n)) ∧ Le H H' := by
  have hfz : Fz H (.agg [vn, .ref rs 0 n n]) (.agg [gN n N, .sl 1 (boolS n s)]) := by
    refine .agg _ _ rfl (fun j => [vn, .ref rs 0 n n].getD j .any) (fun j hj => ?_) (fun j x hx => ?_)
    · rcases j with _|_|j <;> first | rfl | (simp at hj; omega)
    · rcases j with _|_|j
      · simp at hx; subst hx; exact hr.fz
      · simp at hx; subst hx; exact fz_bool hs (Nat.le_refl _)
      · simp at hx
  refine (CC.freeze3 (args' := [.agg [gN n N, .sl 1 (boolS n s)]]) (R := fun x H' => ∃ v, x = .ret v ∧ SlF H' v (natL (ordL N n))) (by rfl) (fz1 hfz) (by rintro x H' ⟨v, rfl, h⟩; exact h.free) fun w hw => ?_).mono ?_
  · exact (orderG_c (W := w) (CxOk.later hX hw) h0 hN hn hNl 1 (boolS n s) _).mono fun x H' ⟨v, h1, h2⟩ => ⟨v, h1, h2.slF⟩
  · rintro x H2 ⟨H', ⟨v, rfl, h1⟩, h2, h3, _⟩
    exact ⟨v, rfl, h1.wk.mono h3, h2⟩
theorem refOrder_c (hX : CxOk (cx W G)) (u : UUnit) (hu : wfU u = true) (H : Hp) : CC Tryz.prog W 14 [.agg (unitC u)] H fun x H' => ∃ v p c, x = .ret v ∧ PLeast (opsOf u) p c ∧ Le H H' ∧ SlF H' v (natL (ordL (nextN u p) u.blocks.length)) := by
  obtain ⟨f1, f2, f3, f4, f5, f6, f7, f8, f9, f10, f11⟩ := wfU_facts hu
  refine CC.of_cw hX Tryz.func14 rfl rfl (Nat.le_of_ble_eq_true rfl) ?_
  refine CW.walk hX mixed d14 rfl ?_
  simp
  intro q1 hq1
  have hg := refOf_c hX u hu (H.set q1 (.cells (unitC u)))
  refine CW.walk hX mixed d14 rfl ?_
  simp [unitC]
  simp only [unitC] at hg
  refine hg.k ?_
  rintro x H2 ⟨vn, rs, s, p, c, rfl, hp, hle2, hrs, _, hrows⟩
  simp
  have hNl : ∀ b, b < u.blocks.length → (refN u p b).length ≤ 100000 := fun b hb => by
    have hk : u.blocks[b]? = some u.blocks[b] := List.getElem?_eq_getElem hb
    simp only [refN, hk, List.length_map]
    have := refL_len (p := p) (k := u.blocks[b])
    have := (wfB_facts hu hk).2.1
    omega
  refine (orderG_f hX (by omega) (refN_lt hu) (by omega) hNl hrows hrs).k ?_
  rintro x H3 ⟨v, rfl, hv, hle3⟩
  simp
  refine CW.walk1 hX mixed d14 rfl ?_
  simp
  exact ⟨p, ⟨c, hp⟩, (Le.set_new hq1).trans (hle2.trans hle3), by rw [← refN_eq hu]; exact hv⟩
theorem refOrder_f (hX : CxOk (cx W G)) {u : UUnit} (hu : wfU u = true) {H : Hp} {cs : List CV} (hf : Fz H (.agg cs) (.agg (unitC u))) : CC Tryz.prog W 14 [.agg cs] H fun x H' => ∃ v p c, x = .ret v ∧ PLeast (opsOf u) p c ∧ Le H H' ∧ SlF H' v (natL (ordL (nextN u p) u.blocks.length)) := by
  refine (CC.freeze3 (args' := [.agg (unitC u)]) (R := fun x H' => ∃ v p c, x = .ret v ∧ PLeast (opsOf u) p c ∧ SlF H' v (natL (ordL (nextN u p) u.blocks.length))) (by rfl) (fz1 hf) (by rintro x H' ⟨v, p, c, rfl, _, h⟩; exact h.free) fun w hw => ?_).mono ?_
  · exact (refOrder_c (W := w) (CxOk.later hX hw) u hu _).mono fun x H' ⟨v, p, c, h1, h2, _, h3⟩ => ⟨v, p, c, h1, h2, h3⟩
  · rintro x H2 ⟨H', ⟨v, p, c, rfl, h1, h4⟩, h2, h3, _⟩
    exact ⟨v, p, c, rfl, h1, h2, h4.wk.mono h3⟩
end Go.Cl.Gd
set_option linter.unusedSimpArgs false
set_option linter.unusedVariables false
namespace Go.Cl.Gu
open Go.Cl.Gd
/-- Where a block goes: by Exits, its End, its Catch. -/
def goN (k : UBlk) : List Nat := ((k.ops.filter fun o => decide (o.kind = 21)).map fun o => o.n.toNat) ++ (goesL k.en).map Int.toNat ++ (if 0 ≤ k.catch_ then [k.catch_.toNat] else [])
/-- How often a block is gone to by the blocks of a list. -/
def waysN (u : UUnit) (ord : List Nat) (t : Nat) : Nat := (ord.flatMap fun i => goN (blkAt u i)).count t
end Go.Cl.Gu
set_option linter.unusedSimpArgs false
set_option linter.unusedVariables false
namespace Go.Cl.Gu
open Go.Cl.Gd
/-- The order of a unit's reached blocks. -/
noncomputable def ordC (u : UUnit) : List Nat := open Classical in if h : ∃ p c, PLeast (opsOf u) p c then ordL (nextN u h.choose) u.blocks.length else []
/-- The first step that a unit lets. -/
def firstS (f : UUnit → Nat → Option UUnit) (u : UUnit) : Option UUnit := (List.range u.blocks.length).findSome? (f u)
inductive AgR (f : UUnit → Nat → Option UUnit) : UUnit → UUnit → Prop
  | stop {u : UUnit} (h : firstS f u = none) : AgR f u u
  | go {u v w : UUnit} (h : firstS f u = some v) (k : AgR f v w) : AgR f u w
/-- A way to u from which it goes on. -/
theorem AgR.back {f : UUnit → Nat → Option UUnit} {u v : UUnit} (P : ∀ w, AgR f v w → AgR f u w) {x : UUnit} (h : firstS f v = some x) : ∀ w, AgR f x w → AgR f u w := fun w k => P w (.go h k)
/-! ### Convert takes a branch away -/
/-! ### Join takes a reached block away -/
structure JnF (u : UUnit) (x t : Nat) : Prop where
  lx : x < u.blocks.length
  lt : t < u.blocks.length
  k : (blkAt u x).en.kind = 1
  to : (blkAt u x).en.to = t
  xo : x ∈ ordC u
  t0 : t ≠ 0
  tx : t ≠ x
  only : ∀ i ∈ ordC u, i ≠ x → t ∉ goN (blkAt u i)
  one : (goN (blkAt u x)).count t = 1
  ct : (blkAt u t).catch_ = (blkAt u x).catch_
theorem JnF.last {u : UUnit} {x t : Nat} (h : JnF u x t) : t ∉ ((blkAt u x).ops.filter fun o => decide (o.kind = 21)).map fun o => o.n.toNat := by
  have h1 := h.one
  have hg : (goesL (blkAt u x).en).map Int.toNat = [t] := by simp [goesL, h.k, h.to]
  rw [goN, hg, List.count_append, List.count_append] at h1
  simp at h1
  have h2 : List.count t (((blkAt u x).ops.filter fun o => decide (o.kind = 21)).map fun o => o.n.toNat) = 0 := by omega
  exact List.count_eq_zero.1 h2
theorem JnF.way {u : UUnit} {x t : Nat} (h : JnF u x t) (p : Nat → Bool) : (t : Int) ∈ Gd.waysL p (blkAt u x) := by
  simp [Gd.waysL, goesL, h.k, h.to]
end Go.Cl.Gu
set_option linter.unusedSimpArgs false
set_option linter.unusedVariables false
namespace Go.Cl.Gu
open Go.Cl.Gd
def exU : UUnit := ⟨[], 2, 2, 0, 0, [⟨[], ⟨2, 0, 1, 2⟩, -1⟩, ⟨[⟨3, 1, 1, 0, 0, 0, -1⟩], ⟨1, 0, 3, 0⟩, -1⟩, ⟨[], ⟨1, 0, 3, 0⟩, -1⟩, ⟨[], ⟨3, 1, 0, 0⟩, -1⟩]⟩
theorem least_none {ops : List UOp} (h : ops.all (fun o => !spreadN o (fun _ => false) (fun _ => false)) = true) : PLeast ops (fun _ => false) (fun _ => false) :=
  ⟨fun o ho => by simpa using List.all_eq_true.1 h o ho, PLow.empty _⟩
end Go.Cl.Gu
set_option linter.unusedSimpArgs false
set_option linter.unusedVariables false
namespace Go.Cl.Gu
open Go.Proofs Go.Cl.Gd
variable {W : World} {G : Nat → CV}
set_option maxRecDepth 8000
set_option maxHeartbeats 1000000
/-- What lies still while blocks are counted. -/
structure OpB (B : Hp) (u : UUnit) (q1 xp rw rr ro co : Nat) (ord : List Nat) (w0 w5 v0 v5 : CV) : Prop where
  m1 : B q1 = some (.cells [w0, ci u.params, ci u.regs, ci u.code, ci u.spill, w5])
  mx : B xp = some (.cells [v0, ci u.params, ci u.regs, ci u.code, ci u.spill, v5, .ref rw 0 u.blocks.length u.blocks.length, .ref rr 0 u.blocks.length u.blocks.length])
  bk : BlkR B w5 u.blocks
  o : SlF B (.ref ro 0 ord.length co) (natL ord)
  zw : B rw = none
  zr : B rr = none
theorem OpB.more {B B' : Hp} {u : UUnit} {q1 xp rw rr ro co : Nat} {ord : List Nat} {w0 w5 v0 v5 : CV} (h : OpB B u q1 xp rw rr ro co ord w0 w5 v0 v5) (hl : Le B B') (hw : B' rw = none) (hr : B' rr = none) : OpB B' u q1 xp rw rr ro co ord w0 w5 v0 v5 :=
  ⟨hl _ _ h.m1, hl _ _ h.mx, h.bk.mono hl, h.o.mono hl, hw, hr⟩
/-- The counts, and what is reached. -/
structure OpH (B : Hp) (n rw rr : Nat) (F : Nat → Nat) (S : Nat → Bool) (H' : Hp) : Prop where
  le : Le B H'
  w : H' rw = some (.cells (genC n fun t => (F t : Int)))
  r : H' rr = some (.cells (boolC n S))
theorem OpH.mono {B H H' : Hp} {n rw rr : Nat} {F : Nat → Nat} {S : Nat → Bool} (h : OpH B n rw rr F S H) (hl : Le H H') : OpH B n rw rr F S H' := ⟨h.le.trans hl, hl _ _ h.w, hl _ _ h.r⟩
theorem OpH.hit {B H : Hp} {n rw rr t : Nat} {F : Nat → Nat} {S : Nat → Bool} (h : OpH B n rw rr F S H) (hne : rw ≠ rr) (hz : B rr = none) (ht : t < n) : OpH B n rw rr F (fun x => S x || x == t) (H.set rr (.cells ((boolC n S).take t ++ .bool true :: (boolC n S).drop (t + 1)))) := by
  refine ⟨h.le.put hz, by rw [hset_ne hne]; exact h.w, ?_⟩
  rw [set_at, boolC_set ht]
theorem OpH.same {B H : Hp} {n rw rr : Nat} {F F' : Nat → Nat} {S S' : Nat → Bool} (h : OpH B n rw rr F S H) (hF : ∀ x, F x = F' x) (hS : ∀ x, S x = S' x) : OpH B n rw rr F' S' H := by
  obtain rfl : F = F' := funext hF
  obtain rfl : S = S' := funext hS
  exact h
structure opS (B : Hp) (u : UUnit) (q1 xp rw rr ro co n i : Nat) (F : Nat → Nat) (S : Nat → Bool) (s' : CA) (H' : Hp) : Prop where
  e1 : s'.env 1 = .ptr q1 0
  e3 : s'.env 3 = .ptr xp 0
  e27 : s'.env 27 = .ref ro 0 n co
  e28 : s'.env 28 = .int .i64 n
  e29 : s'.env 29 = .int .i64 i
  ds : s'.ds = []
  hp : OpH B u.blocks.length rw rr F S H'
structure opI (B : Hp) (u : UUnit) (q1 xp rw rr ro co : Nat) (ord : List Nat) (d m : Nat) (s' : CA) (H' : Hp) : Prop where
  ex : ∃ i i29 : Nat, m = ord.length - i ∧ i ≤ ord.length ∧ i29 + d = i ∧ opS B u q1 xp rw rr ro co ord.length i29 (waysN u (ord.take i)) (fun t => decide (t ∈ ord.take i)) s' H'
/-- What open answers. -/
structure OpR (H H' : Hp) (u : UUnit) (xp rw rr : Nat) (v0 v5 : CV) (ord : List Nat) : Prop where
  le : Le H H'
  mx : H' xp = some (.cells [v0, ci u.params, ci u.regs, ci u.code, ci u.spill, v5, .ref rw 0 u.blocks.length u.blocks.length, .ref rr 0 u.blocks.length u.blocks.length])
  w0 : Own E0 H' v0 1 (ints u.sizes)
  b5 : BlkR H' v5 u.blocks
  c5 : ∀ r n c, v5 = .ref r 0 n c → n ≤ c
  w : H' rw = some (.cells (genC u.blocks.length fun t => (waysN u ord t : Int)))
  r : H' rr = some (.cells (boolC u.blocks.length fun t => decide (t ∈ ord)))
def exN (l : List UOp) : List Nat := (l.filter fun o => decide (o.kind = 21)).map fun o => o.n.toNat
end Go.Cl.Gu
set_option linter.unusedSimpArgs false
set_option linter.unusedVariables false
namespace Go.Cl.Gu
open Go.Proofs Go.Cl.Gd
variable {W : World} {G : Nat → CV}
set_option maxRecDepth 8000
set_option maxHeartbeats 1000000
def waysL (u : UUnit) (ord : List Nat) : List Int := (List.range u.blocks.length).map fun t => (waysN u ord t : Int)
/-- A unit with its counts, frozen. -/
def openC (u : UUnit) (ord : List Nat) : List CV := unitC u ++ [.sl 1 (ints (waysL u ord)), .sl 1 (boolS u.blocks.length fun t => decide (t ∈ ord))]
theorem boolS_len {n : Nat} {p : Nat → Bool} : (boolS n p).length = n := by simp [boolS]
theorem OpR.fz {H H' : Hp} {u : UUnit} {xp rw rr : Nat} {v0 v5 : CV} {ord : List Nat} (h : OpR H H' u xp rw rr v0 v5 ord) : Fz H' (.ptr xp 0) (.iptr (openC u ord)) := by
  have hw : Fz H' (.ref rw 0 u.blocks.length u.blocks.length) (.sl 1 (ints (waysL u ord))) := by
    have hg : (genC u.blocks.length fun t => (waysN u ord t : Int)) = nums (waysL u ord) [] := by simp [genC, nums, waysL]
    have hll : (waysL u ord).length = u.blocks.length := by simp [waysL]
    have h1 := h.w
    rw [hg] at h1
    have := nums_slF (l := waysL u ord) (by rw [hll]; exact Nat.le_refl u.blocks.length) h1
    rw [hll] at this
    exact this.fz
  refine .ptr xp 0 _ (openC u ord) h.mx (fun j => [v0, ci u.params, ci u.regs, ci u.code, ci u.spill, v5, .ref rw 0 u.blocks.length u.blocks.length, .ref rr 0 u.blocks.length u.blocks.length].getD j .any) (fun j hj => ?_) (fun j x hx => ?_)
  · rw [Nat.zero_add]
    rcases j with _|_|_|_|_|_|_|_|j <;> first | rfl | (simp [openC, unitC] at hj; omega)
  · rcases j with _|_|_|_|_|_|_|_|j <;> simp [openC, unitC] at hx ⊢ <;> subst hx
    · exact h.w0.fz
    · exact .same _
    · exact .same _
    · exact .same _
    · exact .same _
    · exact h.b5.fz h.c5
    · exact hw
    · exact fz_bool h.r (Nat.le_refl _)
end Go.Cl.Gu
