/- DERIVED HERE. Copies of units. DERIVED HERE. Check, Copy, right; At, In, All. DERIVED HERE. right, of, At, In, All on frozen units. DERIVED HERE. The law's small functions. DERIVED HERE. What the law calls, on units that lie in blocks. DERIVED HERE. The law's example. -/
import Derived.Test.YtoophlkbngagcaaGreatDoorUMq
import Derived.Test.YtoophlkbngagcaaGreatDoorCDf
import Derived.Test.YtoophlkbngagcaaGreatDoorNM
import Derived.Test.YtoophlkbngagcaaGreatDoorCl18
set_option linter.unusedSimpArgs false
set_option linter.unusedVariables false
namespace Go.Cl
open Go.Proofs
variable {W : World} {G : Nat → CV}
set_option maxRecDepth 8000
theorem Fz.mono {H H' : Hp} {x y : CV} (hl : Le H H') (h : Fz H x y) : Fz H' x y := by
  induction h with
  | same c => exact .same c
  | nil sz => exact .nil sz
  | ref r o n c sz cs xs hr hn hc hz y hy hf ih => exact .ref r o n c sz cs xs (hl _ _ hr) hn hc hz y hy ih
  | ptr r o cs xs hr y hy hf ih => exact .ptr r o cs xs (hl _ _ hr) y hy ih
  | agg cs ds hlen y hy hf ih => exact .agg cs ds hlen y hy ih
/-- As 'Own.append', and the new slice lies in no block that was there, but its own. -/
theorem Own.append2 {H0 H : Hp} {v x : CV} {te : TI} {xs ys : List (List CV)} {K : CV → Hp → Prop} (h : Own H0 H v te.size xs) (hy : ∀ e ∈ ys, e.length = te.size) (hb : (xs.length + ys.length) * te.bytes ≤ 140737488355328)
    (hs : ∀ K' : Nat → List CV → Prop, K' ys.length ys.flatten → srcC H te.size x K') (hK : ∀ v' H', Own H0 H' v' te.size (xs ++ ys) → (∀ q o, H q = some o → (∀ n c, v ≠ .ref q 0 n c) → H' q = some o ∧ ∀ n c, v' ≠ .ref q 0 n c) → K v' H') : vcAppend te v x H K := by
  obtain ⟨hle, hx, h⟩ := h
  have hxy : ∀ e ∈ xs ++ ys, e.length = te.size := fun e he => (List.mem_append.1 he).elim (hx e) (hy e)
  unfold vcAppend
  refine hs _ ?_
  have hfx := flat_len hx
  have hfy := flat_len hy
  rcases h with ⟨rfl, rfl⟩ | ⟨r, c, ex, rfl, hr0, hr, hex, hc⟩
  · refine ⟨by simpa using hb, fun h0 => hK _ _ ⟨hle, hxy, .inl ⟨rfl, ?_⟩⟩ fun q o hq hv => ⟨hq, hv⟩, fun hp r c hr hc => hK _ _ ⟨hle.trans (Le.set_new hr), hxy, .inr ⟨r, c, zeroCs te.zero ((c - ys.length) * te.size), ?_, hle.none hr, by simp [set_at], ?_, by simpa using hc⟩⟩ fun q o hq hv => ⟨Le.set_new hr q o hq, fun n c' e => ?_⟩⟩
    · simpa using List.length_eq_zero_iff.1 h0
    · simp
    · simp [zeroCs]
    · injection e with e1; subst e1; rw [hq] at hr; cases hr
  · have e1 : (c - xs.length) * te.size + xs.length * te.size = c * te.size := by rw [← Nat.add_mul]; congr 1; omega
    refine ⟨_, hr, by rw [List.length_append, hfx, hex]; omega, hc, hb, fun hfit => hK _ _ ⟨hle.put hr0, hxy, .inr ⟨r, c, ex.drop (ys.length * te.size), ?_, hr0, ?_, ?_, by simpa using hfit⟩⟩ fun q o hq hv => ?_, fun hfit r' c' hr' hc' => hK _ _ ⟨hle.trans (Le.set_new hr'), hxy, .inr ⟨r', c', zeroCs te.zero ((c' - (xs.length + ys.length)) * te.size), ?_, hle.none hr', ?_, ?_, by simpa using hc'⟩⟩ fun q o hq hv => ⟨Le.set_new hr' q o hq, fun n c2 e => ?_⟩⟩
    · simp
    · rw [set_at, Nat.zero_add, ← hfx, List.take_left, ← List.drop_drop, List.drop_left, List.flatten_append, List.append_assoc]
    · rw [List.length_drop, hex, List.length_append, ← Nat.sub_mul, Nat.sub_sub]
    · have hqr : q ≠ r := fun e => hv xs.length c (by rw [e])
      exact ⟨by simp [Hp.set, hqr, hq], fun n c' e => by injection e with e1; exact hqr e1.symm⟩
    · simp
    · rw [set_at, List.drop_zero, ← hfx, List.take_left, List.flatten_append]
    · simp [zeroCs]
    · injection e with e1; subst e1; rw [hq] at hr'; cases hr'
def dB : UBlk := ⟨[], ⟨1, 0, 0, 0⟩, -1⟩
def remO (bs : List UBlk) (O : Int) : Nat → Int
  | 0 => O
  | i + 1 => remO bs O i - (((bs.getD i dB).ops.take (remO bs O i).toNat).length : Nat)
def cutBlk (bs : List UBlk) (O : Int) (i : Nat) : UBlk := ⟨(bs.getD i dB).ops.take (remO bs O i).toNat, (bs.getD i dB).en, (bs.getD i dB).catch_⟩
def cutU (u : UUnit) (n : Nat) (O : Int) : UUnit := ⟨u.sizes.take 17, u.params, u.regs, u.code, u.spill, (List.range (min u.blocks.length n)).map (cutBlk u.blocks O)⟩
/-- A unit's cells, frozen they are the unit. -/
def blkT (b : UBlk) : List CV := [ci b.en.kind, ci b.en.a, ci b.en.to, ci b.en.els, ci b.catch_]
theorem blkC_eq (b : UBlk) : blkC b = .sl 7 (b.ops.map opC) :: blkT b := rfl
/-- Nothing is held. -/
abbrev E0 : Hp := fun _ => none
theorem Own.bare {H0 H : Hp} {v : CV} {sz : Nat} {xs : List (List CV)} (h : Own H0 H v sz xs) : Own E0 H v sz xs := h.base fun _ _ h => by cases h
/-- The blocks of a unit, in a block of memory. -/
def BlkR (H : Hp) (v : CV) (bs : List UBlk) : Prop := (v = .nilsl ∧ bs = []) ∨ ∃ r c cs, v = .ref r 0 bs.length c ∧ H r = some (.cells cs) ∧ ∀ (j : Nat) k, bs[j]? = some k → ∃ x0, (cs.drop (j * 6)).take 6 = x0 :: blkT k ∧ Own E0 H x0 7 (k.ops.map opC)
theorem BlkR.mono {H H' : Hp} {v : CV} {bs : List UBlk} (h : BlkR H v bs) (hl : Le H H') : BlkR H' v bs := by
  rcases h with h | ⟨r, c, cs, h1, h2, h3⟩
  · exact .inl h
  · exact .inr ⟨r, c, cs, h1, hl _ _ h2, fun j k hk => by obtain ⟨x0, h4, h5⟩ := h3 j k hk; exact ⟨x0, h4, h5.mono hl⟩⟩
structure UV (H : Hp) (cs : List CV) (u : UUnit) : Prop where
  l : cs.length = 6
  f : Fz H (.agg cs) (.agg (unitC u))
  b : ∃ v0 v5, cs = [v0, ci u.params, ci u.regs, ci u.code, ci u.spill, v5] ∧ BlkR H v5 u.blocks
  w : Own E0 H (cs.getD 0 .any) 1 (ints u.sizes)
theorem UV.mono {H H' : Hp} {cs : List CV} {u : UUnit} (h : UV H cs u) (hl : Le H H') : UV H' cs u :=
  ⟨h.l, h.f.mono hl, by obtain ⟨v0, v5, h1, h2⟩ := h.b; exact ⟨v0, v5, h1, h2.mono hl⟩, h.w.mono hl⟩
/-- A unit in blocks made since: its rows lie in a base that doesn't know their own block. -/
structure UVN (H H' : Hp) (cs : List CV) (u : UUnit) : Prop where
  ex : ∃ B v0 v5, cs = [v0, ci u.params, ci u.regs, ci u.code, ci u.spill, v5] ∧ Le H B ∧ Le B H' ∧ Own E0 B v0 1 (ints u.sizes) ∧ ((v5 = .nilsl ∧ u.blocks = []) ∨ ∃ r c ds, v5 = .ref r 0 u.blocks.length c ∧ u.blocks.length ≤ c ∧ B r = none ∧ H' r = some (.cells ds) ∧ ∀ (j : Nat) k, u.blocks[j]? = some k → ∃ x0, (ds.drop (j * 6)).take 6 = x0 :: blkT k ∧ Own E0 B x0 7 (k.ops.map opC))
theorem UVN.mono {H H' H2 : Hp} {cs : List CV} {u : UUnit} (h : UVN H H' cs u) (hl : Le H' H2) : UVN H H2 cs u := by
  obtain ⟨B, v0, v5, h1, h2, h3, h4, h5⟩ := h
  refine ⟨B, v0, v5, h1, h2, h3.trans hl, h4, ?_⟩
  rcases h5 with h5 | ⟨r, c, ds, h5, h6, h7, h8, h9⟩
  · exact .inl h5
  · exact .inr ⟨r, c, ds, h5, h6, h7, hl _ _ h8, h9⟩
theorem UVN.base {H0 H H' : Hp} {cs : List CV} {u : UUnit} (h : UVN H H' cs u) (hl : Le H0 H) : UVN H0 H' cs u := by
  obtain ⟨B, v0, v5, h1, h2, h3⟩ := h
  exact ⟨B, v0, v5, h1, hl.trans h2, h3⟩
theorem flat_take {sz : Nat} {xs : List (List CV)} {ex : List CV} (h : ∀ e ∈ xs, e.length = sz) {i : Nat} {e : List CV} (he : xs[i]? = some e) : ((xs.flatten ++ ex).drop (i * sz)).take sz = e := by
  obtain ⟨hi, rfl⟩ := List.getElem?_eq_some_iff.1 he
  have e1 : xs.flatten = (xs.take i).flatten ++ (xs[i] ++ (xs.drop (i + 1)).flatten) := by
    conv => lhs; rw [← List.take_append_drop i xs, List.flatten_append, List.drop_eq_getElem_cons hi, List.flatten_cons]
  have e2 : (xs.take i).flatten.length = i * sz := by
    rw [flat_len (fun e he => h e (List.mem_of_mem_take he)), List.length_take, Nat.min_eq_left (by omega)]
  rw [e1, List.append_assoc, List.drop_left' e2, List.append_assoc, List.take_left' (h _ (List.getElem_mem hi))]
structure cI (H : Hp) (u : UUnit) (n : Nat) (O : Int) (q3 q6 q7 : Nat) (v0 : CV) (d j : Nat) (s' : CA) (H' : Hp) : Prop where
  ex : ∃ i v5 E B, i ≤ min u.blocks.length n ∧ j = min u.blocks.length n - i ∧ s'.env 1 = .int .i64 n ∧ s'.env 2 = ci (remO u.blocks O i) ∧ s'.env 3 = .ptr q3 0 ∧ s'.env 6 = .ptr q6 0 ∧ s'.env 7 = .ptr q7 0 ∧ (∃ i8 : Nat, s'.env 8 = .int .i64 i8 ∧ i8 + d = i) ∧ s'.ds = [] ∧
    Le H B ∧ B q3 = some (.cells (unitC u)) ∧ ((∃ z, z.length = 6 ∧ H' q6 = some (.cells z)) ∧ B q6 = none ∧ ∀ n c, v5 ≠ .ref q6 0 n c) ∧ B q7 = none ∧ Own E0 B v0 1 (ints (u.sizes.take 17)) ∧ H' q7 = some (.cells [v0, ci u.params, ci u.regs, ci u.code, ci u.spill, v5]) ∧ (∀ n c, v5 ≠ .ref q7 0 n c) ∧ Own B H' v5 6 E ∧ E.length = i ∧
    (∀ j e, E[j]? = some e → ∃ x0, e = x0 :: blkT (cutBlk u.blocks O j) ∧ Own E0 B x0 7 ((cutBlk u.blocks O j).ops.map opC))
theorem remO_bd {u : UUnit} {O : Int} : ∀ i, (O ≤ remO u.blocks O i ∨ 0 ≤ remO u.blocks O i) ∧ remO u.blocks O i ≤ O
  | 0 => by simp [remO]
  | i + 1 => by
    have ih := remO_bd (u := u) (O := O) i
    simp only [remO]
    have := List.length_take_le (remO u.blocks O i).toNat (u.blocks.getD i dB).ops
    omega
def hole (H : Hp) (r : Nat) : Hp := fun i => if i = r then none else H i
theorem hole_le {H : Hp} {r : Nat} : Le (hole H r) H := fun i o hi => by
  simp only [hole] at hi
  split at hi
  · cases hi
  · exact hi
theorem le_hole {H H' : Hp} {r : Nat} (h : Le H H') (hr : H r = none) : Le H (hole H' r) := fun i o hi => by
  have : i ≠ r := fun e => by rw [e, hr] at hi; cases hi
  simp only [hole, if_neg this]
  exact h i o hi
theorem hole_at {H : Hp} {r : Nat} : hole H r r = none := by simp [hole]
theorem hole_ne {H : Hp} {r i : Nat} (h : i ≠ r) : hole H r i = H i := by simp [hole, h]
theorem Own.hole {H0 H : Hp} {v : CV} {sz : Nat} {xs : List (List CV)} {q : Nat} (h : Own H0 H v sz xs) (hv : ∀ n c, v ≠ .ref q 0 n c) : Own (hole H0 q) (hole H q) v sz xs := by
  refine ⟨fun i o hi => ?_, h.2.1, ?_⟩
  · simp only [Cl.hole] at hi ⊢
    split at hi
    · cases hi
    · rename_i e; rw [if_neg e]; exact h.1 i o hi
  · rcases h.2.2 with h' | ⟨r, c, ex, h1, h2, h3, h4⟩
    · exact .inl h'
    · have hne : r ≠ q := fun e => hv xs.length c (by rw [h1, e])
      exact .inr ⟨r, c, ex, h1, by simp [Cl.hole, hne, h2], by simp [Cl.hole, hne, h3], h4⟩
theorem Own.ne_fresh {H0 H : Hp} {v : CV} {sz : Nat} {xs : List (List CV)} (h : Own H0 H v sz xs) {q : Nat} (hq : H q = none) : ∀ n c, v ≠ .ref q 0 n c := by
  intro n c e
  obtain ⟨_, _, ⟨rfl, _⟩ | ⟨r, c', ex, rfl, _, h3, _⟩⟩ := h
  · cases e
  · injection e with e; subst e; rw [hq] at h3; cases h3
theorem Own.put {H0 H : Hp} {v : CV} {sz : Nat} {xs : List (List CV)} (h : Own H0 H v sz xs) {q : Nat} {o : Ob} (hq : H0 q = none) (hv : ∀ n c, v ≠ .ref q 0 n c) : Own H0 (H.set q o) v sz xs := by
  refine ⟨h.1.put hq, h.2.1, ?_⟩
  rcases h.2.2 with h' | ⟨r, c, ex, rfl, h2, h3, h4⟩
  · exact .inl h'
  · have hne : r ≠ q := fun e => hv xs.length c (by rw [e])
    exact .inr ⟨r, c, ex, rfl, h2, by simp [Hp.set, hne, h3], h4⟩
/-- A second slice, made since, is taken into the base of a first one. -/
theorem Own.both {B H H' : Hp} {v w : CV} {sz sz' : Nat} {xs ys : List (List CV)} (h : Own B H v sz xs) (k : Own H H' w sz' ys) : ∃ B', Le B B' ∧ (∀ q, B q = none → H q ≠ none → B' q = none) ∧ Own B' H' v sz xs ∧ Own E0 B' w sz' ys := by
  obtain ⟨kl, kx, ⟨rfl, rfl⟩ | ⟨r, c, ex, rfl, k2, k3, k4, k5⟩⟩ := k
  · exact ⟨B, Le.refl B, fun q hq _ => hq, h.mono kl, Own.nil fun _ _ h => by cases h⟩
  · have hB : B r = none := h.1.none k2
    refine ⟨B.set r (.cells (ys.flatten ++ ex)), Le.set_new hB, fun q hq h1 => by
      have hqr : q ≠ r := fun e => h1 (by rw [e, k2])
      simp [Hp.set, hqr, hq], ?_, ?_⟩
    · refine ⟨fun i o hi => ?_, h.2.1, ?_⟩
      · simp only [Hp.set] at hi
        split at hi
        · rename_i e; subst e; injection hi with hi; rw [← hi]; exact k3
        · exact kl i o (h.1 i o hi)
      · rcases h.2.2 with h' | ⟨p, c', ex', h3, h4, h5, h6⟩
        · exact .inl h'
        · have hne : p ≠ r := fun e => by rw [e, k2] at h5; cases h5
          exact .inr ⟨p, c', ex', h3, by simp [Hp.set, hne, h4], kl _ _ h5, h6⟩
    · exact ⟨(fun i o hi => by cases hi), kx, .inr ⟨r, c, ex, rfl, rfl, by simp [Hp.set], k4, k5⟩⟩
set_option maxHeartbeats 1000000 in
theorem cut_cN (hX : CxOk (cx W G)) (u : UUnit) (n : Nat) (O : Int) (hn : n ≤ 1000000) (hO : -1000000000 ≤ O ∧ O ≤ 1099511627776) (H : Hp) :
    CC Tryz.prog W 35 [.agg (unitC u), .int .i64 n, ci O] H fun x H' => ∃ cs, x = .ret (.agg cs) ∧ Le H H' ∧ UV H' cs (cutU u n O) ∧ UVN H H' cs (cutU u n O) := by
  refine CC.of_cw hX Tryz.func35 rfl rfl (Nat.le_of_ble_eq_true rfl) ?_
  refine CW.walk hX mixed d35 rfl ?_
  simp
  intro q3 hq3 q6 h63 h36 hq6
  refine CW.walk hX mixed d35 rfl ?_
  simp (config := {contextual := true}) [h63, h36, unitC]
  intro q7 h76 h67 h73 h37 hq7
  generalize hH7 : (((H.set q3 _).set q6 _).set q7 _) = H7
  have hle : Le H H7 := by
    rw [← hH7]
    exact ((Le.set_new hq3).trans (Le.set_new (by simp [h63, hq6]))).trans (Le.set_new (by simp [h76, h73, hq7]))
  have m3 : H7 q3 = some (.cells (unitC u)) := by rw [← hH7]; simp [h37, h36, unitC]
  have m6 : H7 q6 = some (.cells [.nilsl, ci 0, ci 0, ci 0, ci 0, .nilsl]) := by rw [← hH7]; simp [h67]
  have m7 : H7 q7 = some (.cells (unitC u)) := by rw [← hH7]; simp [unitC]
  have hH70 : H q7 = none := hq7
  have hH60 : H q6 = none := hq6
  clear hH7
  simp only [unitC] at m3 m7
  refine CW.walk hX mixed d35 rfl ?_
  simp (config := {contextual := true}) [m3, cfill, -vcAppend]
  intro r hr
  have k3 : q3 ≠ r := fun e => by rw [← e, m3] at hr; cases hr
  have k7 : q7 ≠ r := fun e => by rw [← e, m7] at hr; cases hr
  simp [k3, m3, -vcAppend]
  refine ⟨by omega, by omega, ?_⟩
  have htk : List.take (if (17 : Int) < u.sizes.length then 17 else (u.sizes.length : Int)).toNat (List.map (fun n => [ci n]) u.sizes) = ints (u.sizes.take 17) := by
    simp only [ints]
    rw [List.map_take]
    split
    · rfl
    · rename_i h
      rw [Int.toNat_natCast, List.take_of_length_le (by simp), List.take_of_length_le (by simp; omega)]
  have hl17 := List.length_take_le 17 u.sizes
  rw [htk]
  have how : Own H7 (H7.set r (.cells [])) (.ref r 0 0 0) 1 [] := ⟨Le.set_new hr, by simp, .inr ⟨r, 0, [], rfl, hr, by simp, by simp, by simp⟩⟩
  refine how.append2 (ys := ints (u.sizes.take 17)) (fun e he => by simp only [ints, List.mem_map] at he; obtain ⟨_, _, rfl⟩ := he; rfl) (by simp [ints]; omega) (fun K' h => ⟨rfl, h⟩) fun v0 H8 how8 kp => ?_
  obtain ⟨m78, hv0⟩ := kp q7 _ (Le.set_new hr q7 _ m7) (fun n c e => by injection e with e; exact k7 e.symm)
  have k6 : q6 ≠ r := fun e => by rw [← e, m6] at hr; cases hr
  obtain ⟨m68, hv06⟩ := kp q6 _ (Le.set_new hr q6 _ m6) (fun n c e => by injection e with e; exact k6 e.symm)
  clear kp
  have hv0' : v0.stor = true ∧ v0.cells = [v0] := by
    obtain ⟨_, _, ⟨rfl, _⟩ | ⟨q, c, ex, rfl, _⟩⟩ := how8 <;> exact ⟨rfl, rfl⟩
  simp only [CV.stor, CV.cells] at hv0'
  simp [m78, hv0', -vcAppend]
  refine CW.walk hX mixed d35 rfl ?_
  simp
  refine CW.cut (cI H u n O q3 q6 q7 v0 0 0) ?_ ?_
  · refine CW.walk hX mixed d35 rfl ?_
    simp
    refine CW.walk1 hX mixed d35 rfl ?_
    simp
    have hl8 : Le H7 H8 := how8.le
    refine CW.loop (cI H u n O q3 q6 q7 v0 0) ?_ (m := min u.blocks.length n) ⟨0, .nilsl, [], hole (hole H8 q7) q6, by omega, by omega, by simp, by simp [remO], by simp, by simp, by simp, ⟨0, by simp, rfl⟩, rfl, le_hole (le_hole (hle.trans hl8) hH70) hH60, by rw [hole_ne h36, hole_ne (Ne.symm h73)]; simpa [unitC] using hl8 _ _ m3, ⟨⟨_, rfl, by rw [hset_ne (Ne.symm h76)]; exact m68⟩, hole_at, by simp⟩, by rw [hole_ne h76]; exact hole_at, ?_, set_at, by simp, Own.nil ?_, rfl, fun j e he => by simp at he⟩
    rotate_left
    · have := ((how8.hole hv0).hole hv06).bare
      simpa using this
    · exact (hole_le.trans hole_le).put (by rw [hole_ne h76]; exact hole_at)
    clear hl8 how8 hv0' m78 hv0 m68 hv06 k6 how htk hl17 hr k3 k7 m3 m6 m7 hle
    clear H8 r H7
    rintro j ⟨e, ds⟩ H8 ⟨i, v5, E, B, hi, rfl, e1, e2, e3, e6, e7, ⟨i8, e8, hi8⟩, rfl, hB, b3, b6, b7, hf0, m7, hv5, hown, hE, hel⟩
    obtain rfl : i = i8 := by omega
    dsimp only at e1 e2 e3 e6 e7 e8
    have m3 := hown.le _ _ b3
    simp only [unitC] at m3
    refine CW.walk hX mixed d35 rfl ?_
    simp [e1, e2, e3, e7, e8, m3]
    refine ⟨fun hil => ⟨fun hin => ?_, fun hin => ?_⟩, fun hil => ?_⟩
    rotate_left
    · exact ⟨i, v5, E, B, hi, by omega, by simp [e1], by simp [e2], by simp [e3], by simp [e6], by simp [e7], ⟨i, by simp [e8], rfl⟩, rfl, hB, b3, b6, b7, hf0, m7, hv5, hown, hE, hel⟩
    · exact ⟨i, v5, E, B, hi, by omega, by simp [e1], by simp [e2], by simp [e3], by simp [e6], by simp [e7], ⟨i, by simp [e8], rfl⟩, rfl, hB, b3, b6, b7, hf0, m7, hv5, hown, hE, hel⟩
    have hrem := remO_bd (u := u) (O := O) i
    obtain ⟨k, hke⟩ : ∃ k, u.blocks[i] = k := ⟨_, rfl⟩
    have hk : u.blocks[i]? = some k := by rw [List.getElem?_eq_getElem hil, hke]
    have hkd : u.blocks.getD i dB = k := by rw [List.getD_eq_getElem?_getD, hk]; rfl
    have hcb : cutBlk u.blocks O i = ⟨k.ops.take (remO u.blocks O i).toNat, k.en, k.catch_⟩ := by simp only [cutBlk, hkd]
    have hrs : remO u.blocks O (i + 1) = remO u.blocks O i - ((k.ops.take (remO u.blocks O i).toNat).length : Nat) := by simp only [remO, hkd]
    generalize hR : remO u.blocks O i = R at e2 hrem hcb hrs
    refine CW.cut (cI H u n O q3 q6 q7 v0 1 (min u.blocks.length n - (i + 1))) ?_ ?_
    · refine CW.block ?_
      have k37 : q3 ≠ q7 := fun e => by rw [← e, b3] at b7; cases b7
      refine CW.walk hX mixed d35 rfl ?_
      simp [e3, e8, m3, hil, hke, blkC]
      intro q9 hq9
      have k93 : q3 ≠ q9 := fun e => by rw [← e, m3] at hq9; cases hq9
      have k97 : q7 ≠ q9 := fun e => by rw [← e, m7] at hq9; cases hq9
      refine CW.walk hX mixed d35 rfl ?_
      simp [d35, e2, e3, e8, m3, k93, hil, hke, blkC, cfill, -vcAppend]
      refine ⟨by split <;> split at * <;> omega, by split <;> split at * <;> omega, fun r hr9 h9r hr => ?_⟩
      have htk : List.take (if (if R < 0 then 0 else R) < (k.ops.length : Int) then if R < 0 then 0 else R else (k.ops.length : Int)).toNat (List.map opC k.ops) = (k.ops.take R.toNat).map opC := by
        rw [List.map_take]
        by_cases hR0 : R < 0
        · rw [if_pos hR0]
          have : R.toNat = 0 := by omega
          rw [this]
          split
          · rfl
          · rename_i h
            have : k.ops.length = 0 := by omega
            have : k.ops = [] := List.length_eq_zero_iff.1 this
            simp [this]
        · rw [if_neg hR0]
          split
          · rfl
          · rename_i h
            rw [Int.toNat_natCast, List.take_of_length_le (by simp), List.take_of_length_le (by simp; omega)]
      rw [htk]
      have hlo := List.length_take_le R.toNat k.ops
      generalize k.ops.take R.toNat = ops' at hcb hrs hlo
      generalize hH9 : H8.set q9 _ = H9
      have hl9 : Le H8 H9 := by rw [← hH9]; exact Le.set_new hq9
      have m9 : H9 q9 = some (.cells (.sl 7 (k.ops.map opC) :: blkT k)) := by rw [← hH9]; simp [blkT]
      have m79 := hl9 _ _ m7
      have hB9 : B q9 = none := hown.le.none hq9
      have hv59 := hown.ne_fresh hq9
      have hown9 := hown.mono hl9
      have hr' : H9 r = none := by rw [← hH9]; simp [hr9, hr]
      clear hH9
      have how : Own H9 (H9.set r (.cells [])) (.ref r 0 0 0) 7 [] := ⟨Le.set_new hr', by simp, .inr ⟨r, 0, [], rfl, hr', by simp, by simp, by simp⟩⟩
      refine how.append2 (ys := ops'.map opC) (fun e he => by obtain ⟨_, _, rfl⟩ := List.mem_map.1 he; rfl) (by simp; omega) (fun K' h => ⟨rfl, h⟩) fun v9 H10 how10 kp => ?_
      obtain ⟨m910, hv9⟩ := kp q9 _ (Le.set_new hr' q9 _ m9) (fun n c e => by injection e with e; exact hr9 e)
      clear kp
      have hv9' : v9.stor = true ∧ v9.cells = [v9] := by
        obtain ⟨_, _, ⟨rfl, _⟩ | ⟨q, c, ex, rfl, _⟩⟩ := how10 <;> exact ⟨rfl, rfl⟩
      simp only [CV.stor, CV.cells] at hv9'
      simp only [blkT] at m910
      simp [m910, hv9', -vcAppend]
      obtain ⟨B', hBB, hBq, hown10, hf9⟩ := hown9.both how10
      obtain ⟨⟨z6, hz6, m6⟩, b6, hv6⟩ := b6
      have m69 := hl9 _ _ m6
      have hBq9 := hBq q9 hB9 (by rw [m9]; simp)
      have hBq7 := hBq q7 b7 (by rw [m79]; simp)
      have hBq6 := hBq q6 b6 (by rw [m69]; simp)
      have k96 : q6 ≠ q9 := fun e => by rw [← e, m6] at hq9; cases hq9
      have m611 : (H10.set q9 (.cells [v9, ci k.en.kind, ci k.en.a, ci k.en.to, ci k.en.els, ci k.catch_])) q6 = some (.cells z6) := by simp [k96, how10.le _ _ m69]
      have m710 := how10.le _ _ m79
      have hlv : (v9 = .nilsl ∧ ops'.length = 0) ∨ ∃ q c, v9 = .ref q 0 ops'.length c := by
        obtain ⟨_, _, ⟨h1, h2⟩ | ⟨q, c, ex, h1, _⟩⟩ := how10
        · exact .inl ⟨h1, by simpa using congrArg List.length h2⟩
        · exact .inr ⟨q, c, by simpa using h1⟩
      have hown11 := hown10.put (o := .cells [v9, ci k.en.kind, ci k.en.a, ci k.en.to, ci k.en.els, ci k.catch_]) hBq9 hv59
      have m911 : (H10.set q9 (.cells [v9, ci k.en.kind, ci k.en.a, ci k.en.to, ci k.en.els, ci k.catch_])) q9 = some (.cells [v9, ci k.en.kind, ci k.en.a, ci k.en.to, ci k.en.els, ci k.catch_]) := set_at
      have m711 : (H10.set q9 (.cells [v9, ci k.en.kind, ci k.en.a, ci k.en.to, ci k.en.els, ci k.catch_])) q7 = some (.cells [v0, ci u.params, ci u.regs, ci u.code, ci u.spill, v5]) := by simp [k97, m710]
      generalize H10.set q9 _ = H11 at hown11 m911 m711 m611 ⊢
      simp only [List.nil_append] at hf9
      clear how10 hv9' m910 how hown10 hown9 m710 m79 m9 hl9 hr' m3 hv9 hr hr9 h9r htk
      refine CW.cut (fun s' H' => s'.env 1 = .int .i64 n ∧ s'.env 2 = ci (R - ops'.length) ∧ s'.env 3 = .ptr q3 0 ∧ s'.env 6 = .ptr q6 0 ∧ s'.env 7 = .ptr q7 0 ∧ s'.env 8 = .int .i64 i ∧ s'.env 9 = .ptr q9 0 ∧ s'.ds = [] ∧ H' = H11) ?_ ?_
      · rcases hlv with ⟨hv, hl⟩ | ⟨q, c, hv⟩
        all_goals
          refine CW.walk1 hX mixed d35 rfl ?_
          simp [m911, hv, e1, e2, e3, e6, e7, e8]
          first
            | (rw [wrapI (by omega) (by omega)]; try simp [hl])
            | skip
      clear e1 e2 e3 e6 e7 e8
      clear e
      rintro ⟨e, ds⟩ H' ⟨e1, e2, e3, e6, e7, e8, e9, rfl, rfl⟩
      dsimp only at e1 e2 e3 e6 e7 e8 e9
      refine CW.walk hX mixed d35 rfl ?_
      simp [e7, m711]
      refine CW.walk1 hX mixed d35 rfl ?_
      simp [e9, m911, cfill, -vcAppend]
      intro r hr
      rw [List.drop_eq_nil_of_le (by simp)]
      refine (hown11.more hr).append2 (ys := [v9 :: blkT k]) (by simp [blkT]) (by simp; omega) (src_one set_at rfl) fun v' H13 how13 kp => ?_
      obtain ⟨m713, hv'⟩ := kp q7 _ (Le.set_new hr q7 _ m711) hv5
      obtain ⟨m613, hv6'⟩ := kp q6 _ (Le.set_new hr q6 _ m611) hv6
      have k76 : q6 ≠ q7 := Ne.symm h76
      clear kp
      have hvs : v'.stor = true ∧ v'.cells = [v'] := by
        obtain ⟨_, _, ⟨rfl, _⟩ | ⟨q, c, ex, rfl, _⟩⟩ := how13 <;> exact ⟨rfl, rfl⟩
      simp only [CV.stor, CV.cells] at hvs
      simp [e7, m713, hvs]
      refine ⟨i + 1, v', E ++ [v9 :: blkT k], B', by omega, rfl, by simp [e1], ?_, by simp [e3], by simp [e6], by simp [e7], ⟨i, by simp [e8], rfl⟩, rfl, hB.trans hBB, hBB _ _ b3, ⟨⟨z6, hz6, by simp [k76, m613]⟩, hBq6, hv6'⟩, hBq7, hf0.mono hBB, by simp, hv', how13.put hBq7 hv', by simp [hE], ?_⟩
      · simp [e2, hrs]
      · intro j e he
        rcases Nat.lt_or_ge j E.length with h | h
        · rw [List.getElem?_append_left h] at he
          obtain ⟨x0, h1, h2⟩ := hel j e he
          exact ⟨x0, h1, h2.mono hBB⟩
        · rw [List.getElem?_append_right h] at he
          have hj : j - E.length = 0 := by
            rcases hjj : j - E.length with _ | m
            · rfl
            · rw [hjj] at he; simp at he
          rw [hj] at he
          simp at he
          have hji : j = i := by omega
          subst hji
          refine ⟨v9, ?_, ?_⟩
          · rw [← he, hcb]; rfl
          · rw [hcb]; exact hf9
    clear e1 e2 e3 e6 e7 e8 m3 hown m7 hcb hrs hrem hR hf0 hel hv5 hE b3 b6 b7 hB
    clear e H8 B E v5 R
    rintro ⟨e, ds⟩ H8 ⟨i2, v5, E, B, hi2, hj2, e1, e2, e3, e6, e7, ⟨i8, e8, hi8⟩, rfl, hB, b3, b6, b7, hf0, m7, hv5, hown, hE, hel⟩
    dsimp only at e1 e2 e3 e6 e7 e8
    obtain rfl : i2 = i + 1 := by omega
    obtain rfl : i = i8 := by omega
    refine CW.walk1 hX mixed d35 rfl ?_
    simp [e8]
    refine ⟨min u.blocks.length n - (i + 1), by omega, i + 1, v5, E, B, hi2, rfl, by simp [e1], by simp [e2], by simp [e3], by simp [e6], by simp [e7], ⟨i + 1, by simp; rw [wrapI (by omega) (by omega)], rfl⟩, rfl, hB, b3, b6, b7, hf0, m7, hv5, hown, hE, hel⟩
  clear how8 hv0' m78 hv0 m68 hv06 k6 how htk hl17 hr k3 k7 m3 m6 m7 hle
  rintro ⟨e, ds⟩ H9 ⟨i, v5, E, B, hi, hj, e1, e2, e3, e6, e7, ⟨i8, e8, hi8⟩, rfl, hB, b3, ⟨⟨z, hz, m6⟩, b6, hv56⟩, b7, hf0, m7, hv5, hown, hE, hel⟩
  dsimp only at e1 e2 e3 e6 e7 e8
  have hi' : i = min u.blocks.length n := by omega
  refine CW.walk1 hX mixed d35 rfl ?_
  simp [e6, e7, m7, m6, hz]
  have hlB : Le B (H9.set q6 (.cells (v0 :: ci u.params :: ci u.regs :: ci u.code :: ci u.spill :: v5 :: List.drop 6 z))) := hown.le.put b6
  have hown' := hown.put (o := .cells (v0 :: ci u.params :: ci u.regs :: ci u.code :: ci u.spill :: v5 :: List.drop 6 z)) b6 hv56
  refine ⟨hB.trans hlB, ⟨rfl, ?_, ?_, ?_⟩, ?_⟩
  rotate_left
  rotate_left
  · simpa [cutU] using hf0.mono hlB
  · have hE2 : ((cutU u n O).blocks).length = E.length := by simp [cutU, hE, hi']
    refine ⟨B, v0, v5, rfl, hB, hlB, by simpa [cutU] using hf0, ?_⟩
    obtain ⟨_, hz6, ⟨rfl, hE0⟩ | ⟨r, c, ex, rfl, hrb, hr, _, hlc⟩⟩ := hown'
    · rw [hE0] at hE2
      exact .inl ⟨rfl, List.length_eq_zero_iff.1 hE2⟩
    · refine .inr ⟨r, c, _, by rw [hE2], by omega, hrb, hr, fun j k hk => ?_⟩
      have hj : j < E.length := by rw [← hE2]; exact (List.getElem?_eq_some_iff.1 hk).1
      have hcb : (cutU u n O).blocks[j]? = some (cutBlk u.blocks O j) := by
        simp only [cutU, List.getElem?_map]
        rw [List.getElem?_range (by omega)]
        rfl
      rw [hcb] at hk
      injection hk with hk
      obtain ⟨x0, h1, h2⟩ := hel j _ (List.getElem?_eq_getElem hj)
      refine ⟨x0, ?_, by rw [← hk]; exact h2⟩
      rw [flat_take hz6 (List.getElem?_eq_getElem hj), h1, hk]
  rotate_left
  · refine ⟨v0, v5, rfl, ?_⟩
    have hE2 : ((cutU u n O).blocks).length = E.length := by simp [cutU, hE, hi']
    obtain ⟨_, hz6, ⟨rfl, hE0⟩ | ⟨r, c, ex, rfl, _, hr, _⟩⟩ := hown'
    · rw [hE0] at hE2
      exact .inl ⟨rfl, List.length_eq_zero_iff.1 hE2⟩
    · refine .inr ⟨r, c, _, by rw [hE2], hr, fun j k hk => ?_⟩
      have hj : j < E.length := by rw [← hE2]; exact (List.getElem?_eq_some_iff.1 hk).1
      have hcb : (cutU u n O).blocks[j]? = some (cutBlk u.blocks O j) := by
        simp only [cutU, List.getElem?_map]
        rw [List.getElem?_range (by omega)]
        rfl
      rw [hcb] at hk
      injection hk with hk
      obtain ⟨x0, h1, h2⟩ := hel j _ (List.getElem?_eq_getElem hj)
      refine ⟨x0, ?_, by rw [← hk]; exact h2.mono hlB⟩
      rw [flat_take hz6 (List.getElem?_eq_getElem hj), h1, hk]
  have hE2 : ((cutU u n O).blocks).length = E.length := by simp [cutU, hE, hi']
  have hf5 : Fz (H9.set q6 (.cells (v0 :: ci u.params :: ci u.regs :: ci u.code :: ci u.spill :: v5 :: List.drop 6 z))) v5 (.sl 6 ((cutU u n O).blocks.map blkC)) := by
    refine hown'.fzD (by simp [hE2]) (fun e he => by obtain ⟨_, _, rfl⟩ := List.mem_map.1 he; rfl) fun j t e f x y he hf hx hy => ?_
    have hj : j < E.length := (List.getElem?_eq_some_iff.1 he).1
    have hcb : (cutU u n O).blocks[j]? = some (cutBlk u.blocks O j) := by
      simp only [cutU, List.getElem?_map]
      rw [List.getElem?_range (by omega)]
      rfl
    rw [List.getElem?_map, hcb] at hf
    injection hf with hf
    obtain ⟨x0, h1, h2⟩ := hel j e he
    subst hf
    rw [h1] at hx
    rw [blkC_eq] at hy
    cases t with
    | zero => simp at hx hy; subst hx; subst hy; exact (h2.mono hlB).fz
    | succ t =>
      simp only [List.getElem?_cons_succ] at hx hy
      rw [hx] at hy
      injection hy with hy
      subst hy
      exact .same _
  refine .agg _ _ rfl (fun j => [v0, ci u.params, ci u.regs, ci u.code, ci u.spill, v5].getD j .any) (fun j hj => ?_) (fun j x hx => ?_)
  · have : j < 6 := by simpa [unitC] using hj
    rw [List.getD_eq_getElem?_getD, List.getElem?_eq_getElem (by simp; omega)]
    rfl
  · simp only [unitC] at hx ⊢
    rcases j with _|_|_|_|_|_|j
    all_goals simp at hx ⊢
    all_goals subst hx
    · exact (hf0.mono hlB).fz
    · exact .same _
    · exact .same _
    · exact .same _
    · exact .same _
    · exact hf5
theorem cut_c (hX : CxOk (cx W G)) (u : UUnit) (n : Nat) (O : Int) (hn : n ≤ 1000000) (hO : -1000000000 ≤ O ∧ O ≤ 1099511627776) (H : Hp) :
    CC Tryz.prog W 35 [.agg (unitC u), .int .i64 n, ci O] H fun x H' => ∃ cs, x = .ret (.agg cs) ∧ Le H H' ∧ UV H' cs (cutU u n O) := by
  refine (cut_cN hX u n O hn hO H).mono ?_
  rintro x H' ⟨cs, h1, h2, h3, _⟩
  exact ⟨cs, h1, h2, h3⟩
end Go.Cl
set_option linter.unusedSimpArgs false
set_option linter.unusedVariables false
namespace Go.Cl
open Go.Proofs
variable {W : World} {G : Nat → CV}
set_option maxRecDepth 8000
structure CutOk (u : UUnit) : Prop where
  sz : u.sizes.length ≤ 17
  bl : u.blocks.length ≤ 1000
  op : ∀ b ∈ u.blocks, b.ops.length ≤ 1000000
theorem cutOk_uok {u : UUnit} (h : CutOk u) : UOk u := ⟨by have := h.sz; omega, by have := h.bl; omega, h.op, fun b _ o _ => by simp only [Kd]; omega⟩
theorem remO_all {u : UUnit} (h : CutOk u) : ∀ i, i ≤ u.blocks.length → 1099511627776 - i * 1000000 ≤ remO u.blocks 1099511627776 i
  | 0, _ => by simp [remO]
  | i + 1, hi => by
    have ih := remO_all h i (by omega)
    simp only [remO]
    have hb : (u.blocks.getD i dB).ops.length ≤ 1000000 := by
      rw [List.getD_eq_getElem?_getD, List.getElem?_eq_getElem (by omega)]
      exact h.op _ (List.getElem_mem _)
    have := List.length_take_le' (remO u.blocks 1099511627776 i).toNat (u.blocks.getD i dB).ops
    omega
theorem copy_same {u : UUnit} (h : CutOk u) : cutU u u.blocks.length 1099511627776 = u := by
  obtain ⟨sizes, params, regs, code, spill, blocks⟩ := u
  have hbl := h.bl
  simp only at hbl
  simp only [cutU, UUnit.mk.injEq, true_and]
  refine ⟨List.take_of_length_le h.sz, ?_⟩
  rw [Nat.min_self]
  apply List.ext_getElem?
  intro i
  rw [List.getElem?_map]
  rcases Nat.lt_or_ge i blocks.length with hi | hi
  · rw [List.getElem?_range hi, List.getElem?_eq_getElem hi]
    have hr := remO_all h i (by simp; omega)
    have hg : blocks.getD i dB = blocks[i] := by rw [List.getD_eq_getElem?_getD, List.getElem?_eq_getElem hi]; rfl
    have ho : blocks[i].ops.length ≤ 1000000 := h.op _ (List.getElem_mem hi)
    simp only [Option.map_some, cutBlk, hg]
    simp only at hr
    rw [List.take_of_length_le (by omega)]
  · rw [List.getElem?_eq_none (by simpa using hi), List.getElem?_eq_none hi]
    rfl
theorem small_ok (u : UUnit) : CutOk (cutU u 60 600) := by
  refine ⟨by simp [cutU]; omega, by simp [cutU]; omega, fun b hb => ?_⟩
  simp only [cutU, List.mem_map] at hb
  obtain ⟨i, _, rfl⟩ := hb
  simp only [cutBlk]
  have := List.length_take_le (remO u.blocks 600 i).toNat (u.blocks.getD i dB).ops
  have := (remO_bd (u := u) (O := 600) i).2
  omega
/-- Check. -/
theorem check_e (hX : CxOk (cx W G)) (hG : G 0 = .iptr formsC) (u : UUnit) (hu : UOk u) (H : Hp) : CC Tryz.prog W 49 [.agg (unitC u)] H fun x H' => x = .ret (ci (errU u)) ∧ H' = H := by
  refine CC.shrink ?_
  refine CC.of_ev hX mixed d49 Tryz.func49 rfl rfl (Nat.le_of_ble_eq_true rfl) d49_ok ?_
  simp [Tryz.f49, d49, unitC]
  intro q1 hq1
  refine (find_c hX hG u hu _).k ?_
  rintro x H2 ⟨b, a, er, rfl, hle, her⟩
  simp
  exact ⟨(Le.set_new hq1).trans hle, her⟩
theorem check_c (hX : CxOk (cx W G)) (hG : G 0 = .iptr formsC) (u : UUnit) (hu : UOk u) (H : Hp) : CC Tryz.prog W 49 [.agg (unitC u)] H fun x H' => (∃ er, x = .ret (ci er) ∧ (er = 0 ↔ wfU u = true)) ∧ H' = H :=
  (check_e hX hG u hu H).mono fun x H' ⟨h1, h2⟩ => ⟨⟨_, h1, errU_wf⟩, h2⟩
theorem hole_set {H : Hp} {r : Nat} {o : Ob} (h : H r = some o) : (hole H r).set r o = H := by
  funext i
  simp only [hole, Hp.set]
  by_cases e : i = r
  · subst e; simp [h]
  · simp [e]
theorem copy_cN (hX : CxOk (cx W G)) (u : UUnit) (hu : CutOk u) (H : Hp) : CC Tryz.prog W 10 [.agg (unitC u)] H fun x H' => ∃ cs, x = .ret (.agg cs) ∧ Le H H' ∧ UV H' cs u ∧ UVN H H' cs u := by
  refine CC.of_ev hX mixed d10 Tryz.func10 rfl rfl (Nat.le_of_ble_eq_true rfl) d10_ok ?_
  simp (config := {contextual := true}) [Tryz.f10, d10, unitC]
  intro q1 hq1 q2 h21 h12 hq2
  generalize hH1 : (H.set q1 _).set q2 _ = H1
  have hle : Le H H1 := by rw [← hH1]; exact (Le.set_new hq1).trans (Le.set_new (by simp [h21, hq2]))
  have m2 : H1 q2 = some (.cells [.nilsl, ci 0, ci 0, ci 0, ci 0, .nilsl]) := by rw [← hH1]; simp
  clear hH1
  have hH1 : (hole H1 q2).set q2 (.cells [.nilsl, ci 0, ci 0, ci 0, ci 0, .nilsl]) = H1 := hole_set m2
  have hc := (cut_cN hX u u.blocks.length 1099511627776 (by have := hu.bl; omega) (by omega) (hole H1 q2)).frame (r := q2) (ob := .cells [.nilsl, ci 0, ci 0, ci 0, ci 0, .nilsl]) hole_at
  rw [copy_same hu, hH1] at hc
  simp only [unitC] at hc
  refine hc.k ?_
  rintro x G ⟨H2, h2, rfl, cs, rfl, hle2, huv, huvn⟩
  have hl6 := huv.l
  simp [hl6]
  have hn : Le H2 (H2.set q2 (.cells cs)) := Le.set_new h2
  exact ⟨((le_hole hle hq2).trans hle2).trans hn, huv.mono hn, (huvn.mono hn).base (le_hole hle hq2)⟩
theorem copy_c (hX : CxOk (cx W G)) (u : UUnit) (hu : CutOk u) (H : Hp) : CC Tryz.prog W 10 [.agg (unitC u)] H fun x H' => ∃ cs, x = .ret (.agg cs) ∧ Le H H' ∧ UV H' cs u := by
  refine (copy_cN hX u hu H).mono ?_
  rintro x H' ⟨cs, h1, h2, h3, _⟩
  exact ⟨cs, h1, h2, h3⟩
theorem hole_setx : True := trivial
end Go.Cl
set_option linter.unusedSimpArgs false
set_option linter.unusedVariables false
namespace Go.Cl
open Go.Proofs
variable {W : World} {G : Nat → CV}
set_option maxRecDepth 8000
theorem fz1 {H : Hp} {x y : CV} (h : Fz H x y) : ∀ (i : Nat) a b, [x][i]? = some a → [y][i]? = some b → Fz H a b := by
  intro i a b ha hb
  cases i with
  | zero => simp at ha hb; subst ha; subst hb; exact h
  | succ i => simp at ha
theorem fz2 {H : Hp} {x y x' y' : CV} (h : Fz H x y) (h' : Fz H x' y') : ∀ (i : Nat) a b, [x, x'][i]? = some a → [y, y'][i]? = some b → Fz H a b := by
  intro i a b ha hb
  rcases i with _|_|i
  · simp at ha hb; subst ha; subst hb; exact h
  · simp at ha hb; subst ha; subst hb; exact h'
  · simp at ha
theorem fz3 {H : Hp} {x y x' y' x'' y'' : CV} (h : Fz H x y) (h' : Fz H x' y') (h'' : Fz H x'' y'') : ∀ (i : Nat) a b, [x, x', x''][i]? = some a → [y, y', y''][i]? = some b → Fz H a b := by
  intro i a b ha hb
  rcases i with _|_|_|i
  · simp at ha hb; subst ha; subst hb; exact h
  · simp at ha hb; subst ha; subst hb; exact h'
  · simp at ha hb; subst ha; subst hb; exact h''
  · simp at ha
theorem check_f (hX : CxOk (cx W G)) (hG : G 0 = .iptr formsC) {u : UUnit} (hu : UOk u) {H : Hp} {cs : List CV} (hf : Fz H (.agg cs) (.agg (unitC u))) : CC Tryz.prog W 49 [.agg cs] H fun x H' => (∃ er, x = .ret (ci er) ∧ (er = 0 ↔ wfU u = true)) ∧ H' = H := by
  refine (CC.freeze (args' := [.agg (unitC u)]) (R := fun v => ∃ er, v = ci er ∧ (er = 0 ↔ wfU u = true)) (by rfl) (fz1 hf) (by rintro v ⟨er, rfl, _⟩; simp [plainV]) fun w hw => ?_).mono ?_
  · exact (check_c (W := w) (CxOk.later hX hw) hG u hu _).mono fun x H' ⟨⟨er, h1, h2⟩, _⟩ => ⟨_, h1, er, rfl, h2⟩
  · rintro x H' ⟨v, rfl, ⟨er, rfl, h⟩, rfl⟩
    exact ⟨⟨er, rfl, h⟩, rfl⟩
theorem check_ef (hX : CxOk (cx W G)) (hG : G 0 = .iptr formsC) {u : UUnit} (hu : UOk u) {H : Hp} {cs : List CV} (hf : Fz H (.agg cs) (.agg (unitC u))) : CC Tryz.prog W 49 [.agg cs] H fun x H' => x = .ret (ci (errU u)) ∧ H' = H := by
  refine (CC.freeze (args' := [.agg (unitC u)]) (R := fun v => v = ci (errU u)) (by rfl) (fz1 hf) (by rintro v rfl; simp [plainV]) fun w hw => ?_).mono ?_
  · exact (check_e (W := w) (CxOk.later hX hw) hG u hu _).mono fun x H' ⟨h1, _⟩ => ⟨_, h1, rfl⟩
  · rintro x H' ⟨v, rfl, rfl, rfl⟩
    exact ⟨rfl, rfl⟩
theorem right_c (hX : CxOk (cx W G)) (hG : G 0 = .iptr formsC) (u : UUnit) (hu : CutOk u) (H : Hp) : CC Tryz.prog W 27 [.agg (unitC u)] H fun x H' => x = .ret (.bool (wfU u)) ∧ H' = H := by
  refine CC.shrink ?_
  refine CC.of_ev hX mixed d27 Tryz.func27 rfl rfl (Nat.le_of_ble_eq_true rfl) d27_ok ?_
  simp [Tryz.f27, d27, unitC]
  intro q1 hq1
  have hc := copy_c hX u hu (H.set q1 (.cells (unitC u)))
  simp only [unitC] at hc
  refine hc.k ?_
  rintro x H2 ⟨cs, rfl, hle, huv⟩
  simp
  refine (check_f hX hG (cutOk_uok hu) huv.f).k ?_
  rintro x H3 ⟨⟨er, rfl, her⟩, rfl⟩
  simp
  refine ⟨(Le.set_new hq1).trans hle, ?_⟩
  by_cases h : er = 0
  · simp [h, her.1 h]
  · cases hw : wfU u
    · simp [h]
    · exact absurd (her.2 hw) h
theorem right_f (hX : CxOk (cx W G)) (hG : G 0 = .iptr formsC) {u : UUnit} (hu : CutOk u) {H : Hp} {cs : List CV} (hf : Fz H (.agg cs) (.agg (unitC u))) : CC Tryz.prog W 27 [.agg cs] H fun x H' => x = .ret (.bool (wfU u)) ∧ H' = H := by
  refine (CC.freeze (args' := [.agg (unitC u)]) (R := fun v => v = .bool (wfU u)) (by rfl) (fz1 hf) (by rintro v rfl; simp [plainV]) fun w hw => ?_).mono ?_
  · exact (right_c (W := w) (CxOk.later hX hw) hG u hu _).mono fun x H' ⟨h1, _⟩ => ⟨_, h1, rfl⟩
  · rintro x H' ⟨v, rfl, rfl, rfl⟩
    exact ⟨rfl, rfl⟩
theorem wf_uok {u : UUnit} (h : wfU u = true) : UOk u := by
  have h1 := wfU_facts h
  have h0 := h
  simp only [wfU, wfHead, Bool.and_eq_true, decide_eq_true_eq] at h0
  refine ⟨by omega, by omega, fun b hb => ?_, fun b _ o _ => by simp only [Kd]; omega⟩
  obtain ⟨i, hi, hbi⟩ := List.mem_iff_getElem.1 hb
  have := (wfB_facts h (b := i) (k := b) (by rw [List.getElem?_eq_getElem hi, hbi])).2.1
  omega
end Go.Cl
set_option linter.unusedSimpArgs false
set_option linter.unusedVariables false
namespace Go.Cl
open Go.Proofs
variable {W : World} {G : Nat → CV}
set_option maxRecDepth 8000
theorem endTo_c (hX : CxOk (cx W G)) (k : Int) (H : Hp) : CC Tryz.prog W 44 [ci k] H fun x H' => x = .ret (.bool (decide (k = 1) || decide (k = 2))) ∧ H' = H := by
  refine CC.at0 ?_ H
  refine CC.of_ev hX mixed d44 Tryz.func44 rfl rfl (Nat.le_of_ble_eq_true rfl) d44_ok ?_
  simp [Tryz.f44, d44]
  exact ⟨fun h => by simp [h], fun h => by simp [h, decide_beq]⟩
theorem endElse_c (hX : CxOk (cx W G)) (k : Int) (H : Hp) : CC Tryz.prog W 45 [ci k] H fun x H' => x = .ret (.bool (decide (k = 2))) ∧ H' = H := by
  refine CC.at0 ?_ H
  refine CC.of_ev hX mixed d45 Tryz.func45 rfl rfl (Nat.le_of_ble_eq_true rfl) d45_ok ?_
  simp [Tryz.f45, d45, decide_beq]
theorem ints_get {l : List Int} {k : Nat} {x : Int} (h : l[k]? = some x) : (ints l)[k]? = some [ci x] := by simp [ints, h]
theorem ints_at {l : List Int} {k : Nat} {x : Int} (h : l[k]? = some x) (hk : k < (ints l).length) : (ints l)[k] = [ci x] := by
  have := ints_get h
  rw [List.getElem?_eq_getElem hk] at this
  injection this
theorem same_c (hX : CxOk (cx W G)) (l l2 : List Int) (hl : l.length ≤ 1000000) (H : Hp) : CC Tryz.prog W 13 [.sl 1 (ints l), .sl 1 (ints l2)] H fun x H' => x = .ret (.bool (decide (l = l2))) ∧ H' = H := by
  refine CC.of_ev hX mixed d13 Tryz.func13 rfl rfl (Nat.le_of_ble_eq_true rfl) d13_ok ?_
  simp [Tryz.f13, d13, ints_len]
  refine ⟨fun h => fun e => h (by rw [e]), fun hlen => ?_⟩
  have hlen : l.length = l2.length := by omega
  refine CW.loop (fun j s' H' => ∃ k, k ≤ l.length ∧ j = l.length - k ∧ s'.env 0 = .sl 1 (ints l) ∧ s'.env 1 = .sl 1 (ints l2) ∧ s'.env 5 = .int .i64 k ∧ s'.ds = [] ∧ H' = H ∧ ∀ (i : Nat), i < k → l[i]? = l2[i]?) ?_ (m := l.length) ⟨0, by simp⟩
  rintro j ⟨e, ds⟩ H' ⟨k, hk, rfl, e0, e1, e5, rfl, rfl, hno⟩
  dsimp only at e0 e1 e5
  refine vw_sound hX mixed (D := d13) _ _ _ _ (by kernel_rfl) ?_
  by_cases hkl : k < l.length
  · obtain ⟨x, hxe⟩ : ∃ x, l[k] = x := ⟨_, rfl⟩
    have hx : l[k]? = some x := by rw [List.getElem?_eq_getElem hkl, hxe]
    obtain ⟨y, hye⟩ : ∃ y, l2[k] = y := ⟨_, rfl⟩
    have hy : l2[k]? = some y := by rw [List.getElem?_eq_getElem (by omega), hye]
    simp [e0, e1, e5, hkl, ints_len, ints_at hx, ints_get hy, d13]
    refine ⟨fun h => fun e => h (by rw [e, hy] at hx; injection hx with hx; exact hx.symm), fun h => ⟨l.length - (k + 1), by omega, k + 1, by omega, rfl, by rw [wrapI (by omega) (by omega)]; simp, fun i hi => ?_⟩⟩
    rcases Nat.lt_or_ge i k with h2 | h2
    · exact hno i h2
    · have : i = k := by omega
      subst this
      rw [hx, hy, h]
  · have : k = l.length := by omega
    subst this
    simp [e0, e1, e5, ints_len]
    apply List.ext_getElem?
    intro i
    rcases Nat.lt_or_ge i l.length with h | h
    · exact hno i h
    · rw [List.getElem?_eq_none h, List.getElem?_eq_none (by omega)]
end Go.Cl
set_option linter.unusedSimpArgs false
set_option linter.unusedVariables false
namespace Go.Cl
open Go.Proofs
variable {W : World} {G : Nat → CV}
set_option maxRecDepth 8000
theorem free2 {v : CV} {n : Int} (h : Free v) : FreeEnd (.ret (.tuple [v, ci n])) := by
  simp only [FreeEnd]
  refine .tuple _ fun i x hx => ?_
  rcases i with _|_|i
  · simp at hx; subst hx; exact h
  · simp at hx; subst hx; constructor
  · simp at hx
theorem LLeast.fix {u : UUnit} {p : Nat → Bool} {I : Nat → Nat → Bool} (h : LLeast u p I) {b : Nat} (hb : b < u.blocks.length) : FP u p I b = I b := by
  refine (h.1 b hb).antisymm ?_
  have h2 := h.2 (fun i => if i < u.blocks.length then FP u p I i else fun _ => false) (fun i hi => by
    simp only [hi, if_true]
    refine FP_mono (fun j x hx => ?_) i
    split at hx
    · rename_i hj; exact h.1 j hj x hx
    · cases hx) b
  simpa [hb] using h2
theorem same_f (hX : CxOk (cx W G)) {H : Hp} {v v2 : CV} {l l2 : List Int} (hv : SlF H v l) (hv2 : SlF H v2 l2) (hl : l.length ≤ 1000000) : CC Tryz.prog W 13 [v, v2] H fun x H' => x = .ret (.bool (decide (l = l2))) ∧ H' = H := by
  refine (CC.freeze (args' := [.sl 1 (ints l), .sl 1 (ints l2)]) (R := fun v => v = .bool (decide (l = l2))) (by rfl) (fz2 hv.fz hv2.fz) (by rintro v rfl; simp [plainV]) fun w hw => ?_).mono ?_
  · exact (same_c (W := w) (CxOk.later hX hw) l l2 hl _).mono fun x H' ⟨h1, _⟩ => ⟨_, h1, rfl⟩
  · rintro x H' ⟨v, rfl, rfl, rfl⟩
    exact ⟨rfl, rfl⟩
end Go.Cl
set_option linter.unusedSimpArgs false
set_option linter.unusedVariables false
namespace Go.Cl
open Go.Proofs
variable {W : World} {G : Nat → CV}
set_option maxRecDepth 8000
def exO1 : UOp := ⟨1, 1, 0, 0, 0, 2, -1⟩
def exO2 : UOp := ⟨13, 2, 0, 1, 0, 0, -1⟩
def exB : UBlk := ⟨[exO1, exO2], ⟨3, 2, 0, 0⟩, -1⟩
def exU : UUnit := ⟨[], 1, 3, 0, 0, [exB]⟩
theorem ex_wf : wfU exU = true := by decide
theorem ex0 (p : Nat → Bool) (I : Nat → Nat → Bool) : beforeP exU p I exB [] = fun r => r == 2 := by
  funext r
  simp [beforeP, endP, exB, goes, branches, catchP]
theorem ex1 (p : Nat → Bool) (I : Nat → Nat → Bool) : beforeP exU p I exB [exO2] = fun r => r == 0 || r == 1 := by
  have h : beforeP exU p I exB [exO2] = stepP exU p I exB exO2 (beforeP exU p I exB []) := rfl
  rw [h, ex0]
  funext r
  have e1 : writeOf exO2 = 2 := by decide
  have e2 : allReads exO2 = [0, 1] := by decide
  simp [stepP, exB, catchP, e1, e2]
  simp [exO2]
theorem ex2 (p : Nat → Bool) (I : Nat → Nat → Bool) : beforeP exU p I exB [exO1, exO2] = fun r => r == 0 := by
  have h : beforeP exU p I exB [exO1, exO2] = stepP exU p I exB exO1 (beforeP exU p I exB [exO2]) := rfl
  rw [h, ex1]
  funext r
  have e1 : writeOf exO1 = 1 := by decide
  have e2 : allReads exO1 = [] := by decide
  simp [stepP, exB, catchP, e1, e2]
  simp [exO1]
  cases h0 : r == 0 <;> cases h1 : r == 1 <;> simp_all
theorem exM : 64 * mOf exU = 64 := by decide
theorem up0 : upto (fun r => r == 2) 64 = [2] := by decide
theorem up1 : upto (fun r => r == 0 || r == 1) 64 = [0, 1] := by decide
theorem up2 : upto (fun r => r == 0) 64 = [0] := by decide
theorem own0 {H : Hp} {r n sz : Nat} {xs : List (List CV)} (h : H r = some (.cells xs.flatten)) (hl : xs.length = n) (hz : ∀ e ∈ xs, e.length = sz) : Own (fun _ => none) H (.ref r 0 n n) sz xs := by
  refine ⟨fun i o hi => by simp at hi, hz, .inr ⟨r, n, [], by rw [hl], rfl, by simpa using h, by simp [hl], by omega⟩⟩
theorem fz_agg6 {H : Hp} {a b c d e f a' b' c' d' e' f' : CV} (ha : Fz H a a') (hb : Fz H b b') (hc : Fz H c c') (hd : Fz H d d') (he : Fz H e e') (hf : Fz H f f') : Fz H (.agg [a, b, c, d, e, f]) (.agg [a', b', c', d', e', f']) := by
  refine .agg _ _ rfl (fun j => [a, b, c, d, e, f].getD j .any) (fun j hj => ?_) (fun j x hx => ?_)
  · rcases j with _|_|_|_|_|_|j <;> first | rfl | (simp at hj; omega)
  · rcases j with _|_|_|_|_|_|j <;> simp at hx ⊢ <;> subst hx <;> assumption
theorem slF_of {H : Hp} {r : Nat} {l : List Int} (h : H r = some (.cells (l.map fun n => ci n))) : SlF H (.ref r 0 l.length l.length) l :=
  .inr ⟨r, 0, _, rfl, h, fun k x hk => by rw [List.getElem?_map, hk]; rfl⟩
end Go.Cl
