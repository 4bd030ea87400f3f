/- DERIVED HERE. Sets read in what nobody writes; Clone, Equal. DERIVED HERE. What is live: caught, end, before. DERIVED HERE. What is live: before an operation. DERIVED HERE. What is live before an operation of a block: the walk backward through it. DERIVED HERE. The list of a set. -/
import Derived.Test.YtjofhmdjaijgcaaGreatDoorUM
import Derived.Test.YtjofhmdjaijgcaaGreatDoorS2
set_option linter.unusedSimpArgs false
set_option linter.unusedVariables false
namespace Go.Cl
open Go.Proofs
variable {W : World} {G : Nat → CV}
set_option maxRecDepth 8000
theorem setCx_get {m : Nat} {f : Nat → Bool} {i : Nat} {ex : List CV} (h : i < m) : (setC m f ++ ex)[i]? = some (.int .u64 (word f i)) := by
  rw [List.getElem?_append_left (by rw [setC_len]; exact h), setC_get h]
theorem remove_x (hX : CxOk (cx W G)) (r c m : Nat) (f : Nat → Bool) (ex : List CV) (k : Nat) (hk : k < 64 * m) (hm : m ≤ 64) (H : Hp) (hr : H r = some (.cells (setC m f ++ ex))) : CC Tryz.prog W 106 [.ref r 0 m c, .int .i64 k] H fun x H' => x = .ret (.tuple []) ∧ H' = H.set r (.cells ((setC m fun x => x != k && f x) ++ ex)) := by
  refine CC.of_ev hX mixed d106 Tryz.func106 rfl rfl (Nat.le_of_ble_eq_true rfl) d106_ok ?_
  simp [Tryz.f106, d106, hr]
  simp (disch := omega) only [wrapI, tdivI, tmodI, nat64, int64, setCx_get, u64_shl1]
  simp [setC_len, hr, -Int.natCast_pow]
  simp (disch := omega) only [wrapI, tdivI, tmodI, nat64, int64, setCx_get, u64_shl1]
  simp [setC_len, hr, -Int.natCast_pow]
  rw [u64_andNot (word_lt _ _) (Nat.pow_lt_pow_right (by omega) (by omega))]
  have hl : k / 64 < (setC m f ++ ex).length := by rw [List.length_append, setC_len]; omega
  have h2 := take_drop_set (l := setC m f ++ ex) (v := CV.int .u64 ((bitsN (fun j => (word f (k / 64)).testBit j && !(2 ^ (k % 64)).testBit j) 64 : Nat) : Int)) hl
  rw [List.set_append_left _ _ (by rw [setC_len]; omega), setC_set (by omega) word_remove fun j hj => word_other (fun x hx => by simp [hx]) hj] at h2
  rw [h2]
  exact ⟨by omega, by omega, by omega, by omega, by omega, by omega, rfl⟩
theorem has_sl (hX : CxOk (cx W G)) (m : Nat) (f : Nat → Bool) (k : Nat) (hk : k < 64 * m) (hm : m ≤ 64) (H : Hp) : CC Tryz.prog W 50 [.sl 1 (setS m f), .int .i64 k] H fun x H' => x = .ret (.bool (f k)) ∧ H' = H := by
  refine CC.at0 ?_ H
  refine CC.of_ev hX mixed d50 Tryz.func50 rfl rfl (Nat.le_of_ble_eq_true rfl) d50_ok ?_
  simp [Tryz.f50, d50]
  simp (disch := omega) only [wrapI, tdivI, tmodI, nat64, int64, u64_shr1]
  rw [u64_and1 (Nat.lt_of_le_of_lt (Nat.shiftRight_le _ _) (word_lt _ _))]
  refine ⟨by omega, by omega, by omega, ?_⟩
  rw [Nat.testBit_shiftRight, testBit_word]
  simp only [Nat.add_zero, show k % 64 < 64 by omega, decide_true, Bool.true_and, show 64 * (k / 64) + k % 64 = k by omega]
  cases f k <;> rfl
theorem join_sl (hX : CxOk (cx W G)) (r c m : Nat) (f g : Nat → Bool) (hm : m ≤ 64) (H : Hp) (hr : H r = some (.cells (setC m f))) : CC Tryz.prog W 84 [.ref r 0 m c, .sl 1 (setS m g)] H fun x H' => x = .ret (.tuple []) ∧ H' = H.set r (.cells (setC m fun x => f x || g x)) := by
  refine CC.of_ev hX mixed d84 Tryz.func84 rfl rfl (Nat.le_of_ble_eq_true rfl) d84_ok ?_
  simp [Tryz.f84, d84]
  refine CW.loop (fun j s' H' => ∃ k, k ≤ m ∧ j = m - k ∧ s'.env 0 = .ref r 0 m c ∧ s'.env 6 = .sl 1 (setS m g) ∧ s'.env 7 = .int .i64 m ∧ s'.env 8 = .int .i64 k ∧ s'.ds = [] ∧ H' = H.set r (.cells (setC m fun x => f x || (decide (x < 64 * k) && g x)))) ?_ (m := m) ⟨0, ?_⟩
  · rintro j ⟨e, ds⟩ H' ⟨k, hk, rfl, e0, e6, e7, e8, rfl, rfl⟩
    dsimp only at e0 e6 e7 e8
    refine vw_sound hX mixed (D := d84) _ _ _ _ (by kernel_rfl) ?_
    simp [e0, e6, e7, e8]
    refine ⟨fun h => ?_, fun h => ?_⟩
    · simp [setC_len, h, e0, e6, e7, e8]
      refine ⟨by omega, m - (k + 1), by omega, k + 1, by omega, rfl, by rw [wrapI (by omega) (by omega)]; simp, ?_⟩
      rw [u64_or (word_lt _ _) (word_lt _ _), take_drop_set (by rw [setC_len]; omega), setC_set h word_join fun j hj => word_congr fun i hi => by rw [show decide (64 * j + i < 64 * (k + 1)) = decide (64 * j + i < 64 * k) by rw [decide_eq_decide]; omega]]
    · rw [setC_congr (g := fun x => f x || g x) fun x hx => by simp [show x < 64 * k by omega]]
  · simp
    funext i
    by_cases hi : i = r
    · subst hi; simp [hr]
    · simp [hi]
theorem join_x (hX : CxOk (cx W G)) (r c r2 c2 m : Nat) (f g : Nat → Bool) (ex : List CV) (hm : m ≤ 64) (H : Hp) (hne : r2 ≠ r) (hr : H r = some (.cells (setC m f))) (hr2 : H r2 = some (.cells (setC m g ++ ex))) : CC Tryz.prog W 84 [.ref r 0 m c, .ref r2 0 m c2] H fun x H' => x = .ret (.tuple []) ∧ H' = H.set r (.cells (setC m fun x => f x || g x)) := by
  refine CC.of_ev hX mixed d84 Tryz.func84 rfl rfl (Nat.le_of_ble_eq_true rfl) d84_ok ?_
  simp [Tryz.f84, d84]
  refine CW.loop (fun j s' H' => ∃ k, k ≤ m ∧ j = m - k ∧ s'.env 0 = .ref r 0 m c ∧ s'.env 6 = .ref r2 0 m c2 ∧ s'.env 7 = .int .i64 m ∧ s'.env 8 = .int .i64 k ∧ s'.ds = [] ∧ H' = H.set r (.cells (setC m fun x => f x || (decide (x < 64 * k) && g x)))) ?_ (m := m) ⟨0, ?_⟩
  · rintro j ⟨e, ds⟩ H' ⟨k, hk, rfl, e0, e6, e7, e8, rfl, rfl⟩
    dsimp only at e0 e6 e7 e8
    refine vw_sound hX mixed (D := d84) _ _ _ _ (by kernel_rfl) ?_
    simp [e0, e6, e7, e8, hne, hr2]
    refine ⟨fun h => ?_, fun h => ?_⟩
    · simp only [setCx_get h]
      simp [setC_len, h, e0, e6, e7, e8, hr2, hne]
      refine ⟨by omega, m - (k + 1), by omega, k + 1, by omega, rfl, by rw [wrapI (by omega) (by omega)]; simp, ?_⟩
      rw [u64_or (word_lt _ _) (word_lt _ _), take_drop_set (by rw [setC_len]; omega), setC_set h word_join fun j hj => word_congr fun i hi => by rw [show decide (64 * j + i < 64 * (k + 1)) = decide (64 * j + i < 64 * k) by rw [decide_eq_decide]; omega]]
    · rw [setC_congr (g := fun x => f x || g x) fun x hx => by simp [show x < 64 * k by omega]]
  · simp
    funext i
    by_cases hi : i = r
    · subst hi; simp [hr]
    · simp [hi]
theorem clone_c (hX : CxOk (cx W G)) (m : Nat) (f : Nat → Bool) (hm : m ≤ 64) (h0 : 0 < m) (H : Hp) : CC Tryz.prog W 112 [.sl 1 (setS m f)] H fun x H' => ∃ r c ex, H r = none ∧ x = .ret (.ref r 0 m c) ∧ Le H H' ∧ H' r = some (.cells (setC m f ++ ex)) := by
  refine CC.of_ev hX mixed d112 Tryz.func112 rfl rfl (Nat.le_of_ble_eq_true rfl) d112_ok ?_
  simp [Tryz.f112, d112, cfill, -vcAppend]
  refine ⟨h0, fun r hr => ?_⟩
  have how : Own H (H.set r (.cells [])) (.ref r 0 0 0) 1 [] := ⟨Le.set_new hr, by simp, .inr ⟨r, 0, [], rfl, hr, by simp, by simp, by simp⟩⟩
  refine how.append (ys := setS m f) (by simp [setS]) (by simp; omega) (fun K' h => ⟨rfl, h⟩) fun v' H2 how2 _ => ?_
  simp
  obtain ⟨hle, -, ⟨rfl, hx⟩ | ⟨q, c, ex, rfl, hq, hq2, -⟩⟩ := how2
  · have := congrArg List.length hx
    simp at this
    omega
  · refine ⟨q, hq, ⟨c, by simp⟩, hle, ex, ?_⟩
    simp at hq2
    rw [setS_flat] at hq2
    exact hq2
theorem word_inj {f g : Nat → Bool} {k : Nat} (h : word f k = word g k) (j : Nat) (hj : j < 64) : f (64 * k + j) = g (64 * k + j) := by
  have := congrArg (Nat.testBit · j) h
  simpa [testBit_word, hj] using this
theorem equal_c (hX : CxOk (cx W G)) (m : Nat) (f g : Nat → Bool) (hm : m ≤ 64) (H : Hp) : CC Tryz.prog W 94 [.sl 1 (setS m f), .sl 1 (setS m g)] H fun x H' => ∃ b : Bool, x = .ret (.bool b) ∧ H' = H ∧ (b = true ↔ ∀ x, x < 64 * m → f x = g x) := by
  refine CC.of_ev hX mixed d94 Tryz.func94 rfl rfl (Nat.le_of_ble_eq_true rfl) d94_ok ?_
  simp [Tryz.f94, d94]
  refine CW.loop (fun j s' H' => ∃ k, k ≤ m ∧ j = m - k ∧ s'.env 0 = .sl 1 (setS m f) ∧ s'.env 1 = .sl 1 (setS m g) ∧ s'.env 12 = .int .i64 m ∧ s'.env 13 = .int .i64 k ∧ s'.ds = [] ∧ H' = H ∧ ∀ x, x < 64 * k → f x = g x) ?_ (m := m) ⟨0, by simp⟩
  rintro j ⟨e, ds⟩ H' ⟨k, hk, rfl, e0, e1, e12, e13, rfl, rfl, hall⟩
  dsimp only at e0 e1 e12 e13
  refine vw_sound hX mixed (D := d94) _ _ _ _ (by kernel_rfl) ?_
  simp [e0, e1, e12, e13, d94]
  refine ⟨fun h => ⟨h, fun hne => ?_, fun heq => ?_⟩, fun h => fun x hx => hall x (by omega)⟩
  · refine Classical.byContradiction fun hno => hne ?_
    rw [word_congr (g := g) fun j hj => ?_]
    refine Classical.byContradiction fun hj2 => hno ⟨64 * k + j, by omega, hj2⟩
  · refine ⟨m - (k + 1), by omega, k + 1, by omega, rfl, by rw [wrapI (by omega) (by omega)]; simp, fun x hx => ?_⟩
    rcases Nat.lt_or_ge x (64 * k) with h2 | h2
    · exact hall x h2
    · have := word_inj (k := k) (f := f) (g := g) (by omega) (x - 64 * k) (by omega)
      rwa [show 64 * k + (x - 64 * k) = x by omega] at this
end Go.Cl
set_option linter.unusedSimpArgs false
set_option linter.unusedVariables false
namespace Go.Cl
open Go.Proofs
variable {W : World} {G : Nat → CV}
set_option maxRecDepth 8000
def liveS (n m : Nat) (I : Nat → Nat → Bool) : List (List CV) := (List.range n).map fun b => [.sl 1 (setS m (I b))]
theorem liveS_ex {n m : Nat} {I : Nat → Nat → Bool} {i : Nat} {P : List CV → Prop} : (∃ e, (liveS n m I)[i]? = some e ∧ P e) = (i < n ∧ P [.sl 1 (setS m (I i))]) := by
  simp only [liveS, List.getElem?_map, eq_iff_iff]
  rcases Nat.lt_or_ge i n with h | h
  · rw [List.getElem?_range h]; simp [h]
  · rw [List.getElem?_eq_none (by simpa using h)]; simp [show ¬ i < n by omega]
attribute [simp ↓] liveS_ex
def mayC (pn : Nat) (p : Nat → Bool) (cn : Nat) (c : Nat → Bool) : List CV := [.sl 1 (boolS pn p), .sl 1 (boolS cn c)]
def liveC (u : UUnit) (pn : Nat) (p : Nat → Bool) (cn : Nat) (c : Nat → Bool) (I : Nat → Nat → Bool) : List CV := unitC u ++ (mayC pn p cn c ++ [.sl 1 (liveS u.blocks.length (mOf u) I)])
theorem hset_self {H : Hp} {r : Nat} {o : Ob} (h : H r = some o) : H.set r o = H := by
  funext i
  simp only [Hp.set]
  split
  · rename_i e; rw [e, h]
  · rfl
theorem Eq.le_hp {A B : Hp} (h : A = B) : Le A B := h ▸ Le.refl A
theorem caught_c (hX : CxOk (cx W G)) (u : UUnit) (hu : wfU u = true) (pn : Nat) (p : Nat → Bool) (cn : Nat) (c : Nat → Bool) (I : Nat → Nat → Bool) (b : Nat) (k : UBlk) (hb : u.blocks[b]? = some k) (r cc : Nat) (f : Nat → Bool) (H : Hp) (hr : H r = some (.cells (setC (mOf u) f))) :
    CC Tryz.prog W 86 [.iptr (liveC u pn p cn c I), .ref r 0 (mOf u) cc, .int .i64 b] H fun x H' => x = .ret (.tuple []) ∧ H' = H.set r (.cells (setC (mOf u) fun x => f x || catchP u I k x)) := by
  obtain ⟨f1, f2, f3, f4, f5, f6, f7, f8, f9, f10, f11⟩ := wfU_facts hu
  obtain ⟨g1, g2, g3, g4⟩ := wfB_facts hu hb
  have hm : mOf u = (u.regs.toNat + 63) / 64 := rfl
  refine CC.shrink ?_
  refine CC.of_ev hX mixed d86 Tryz.func86 rfl rfl (Nat.le_of_ble_eq_true rfl) d86_ok ?_
  simp [Tryz.f86, d86, liveC, unitC, mayC, hb, blkC]
  refine ⟨fun h => ?_, fun h => ⟨h, by omega, ?_⟩⟩
  · have : (fun x => f x || catchP u I k x) = f := by funext x; simp [catchP, show ¬ 0 ≤ k.catch_ by omega]
    rw [this, hset_self hr]
    exact Le.refl H
  · refine (clone_c hX (mOf u) (I k.catch_.toNat) f10 f9 H).k ?_
    rintro x H1 ⟨q, c1, ex, hq, rfl, hle, hq1⟩
    obtain ⟨kc, hkc⟩ := Int.eq_ofNat_of_zero_le f5
    have hne : q ≠ r := fun e => by rw [e, hr] at hq; cases hq
    simp
    rw [hkc]
    refine (remove_x hX q c1 (mOf u) (I k.catch_.toNat) ex kc (by omega) f10 H1 hq1).k ?_
    rintro x H2 ⟨rfl, rfl⟩
    simp
    refine (join_x hX r cc q c1 (mOf u) f _ ex f10 _ hne (by simp [Ne.symm hne, hle r _ hr]) set_at).k ?_
    rintro x H3 ⟨rfl, rfl⟩
    simp
    refine (Eq.le_hp ?_).trans (Le.set (hle.put hq))
    have e : (fun x => f x || catchP u I k x) = fun x => f x || (x != kc && I k.catch_.toNat x) := by funext x; simp [catchP, hkc, h]
    rw [e]
def endRd (e : UEnd) : List Int := if e.kind = 1 then [] else [e.a]
theorem endReads_o (hX : CxOk (cx W G)) (e : UEnd) (H : Hp) : CC Tryz.prog W 45 [.agg (endC e)] H fun x H' => ∃ v, x = .ret v ∧ Own H H' v 1 (ints (endRd e)) := by
  refine (endReads_c hX e H).mono ?_
  rintro x H' (⟨h, rfl, rfl⟩ | ⟨h, r, hr, rfl, rfl⟩)
  · exact ⟨_, rfl, by simp [endRd, h, ints]; exact Own.nil (Le.refl _)⟩
  · exact ⟨_, rfl, Le.set_new hr, by simp [ints], .inr ⟨r, 1, [], by simp [endRd, h, ints], hr, by simp [endRd, h, ints], by simp [endRd, h, ints], by simp [endRd, h, ints]⟩⟩
theorem ints_flat (l : List Int) : (ints l).flatten = l.map ci := by
  induction l with
  | nil => rfl
  | cons x l ih => simp only [ints, List.map_cons, List.flatten_cons] at ih ⊢; rw [ih]; rfl
theorem own_get {H0 H : Hp} {v : CV} {l : List Int} {k : Nat} {x : Int} (h : Own H0 H v 1 (ints l)) (hk : l[k]? = some x) : ∃ q c cs, v = .ref q 0 l.length c ∧ H q = some (.cells cs) ∧ cs[k]? = some (ci x) ∧ H0 q = none := by
  obtain ⟨_, _, ⟨rfl, hx⟩ | ⟨q, c, ex, rfl, hq, hq2, _⟩⟩ := h
  · have : l = [] := by simpa [ints] using hx
    subst this
    simp at hk
  · refine ⟨q, c, _, by simp [ints], hq2, ?_, hq⟩
    have := (List.getElem?_eq_some_iff.1 hk).1
    rw [ints_flat, List.getElem?_append_left (by simpa using this), List.getElem?_map, hk]
    rfl
def vcLen (v : CV) (n : Nat) : Prop := v = .nilsl ∧ n = 0 ∨ ∃ q c, v = .ref q 0 n c
theorem Own.vlen {H0 H : Hp} {v : CV} {l : List Int} (h : Own H0 H v 1 (ints l)) : vcLen v l.length := by
  obtain ⟨_, _, ⟨rfl, hx⟩ | ⟨q, c, ex, rfl, hq, hq2, _⟩⟩ := h
  · have : l = [] := by simpa [ints] using hx
    subst this
    exact .inl ⟨rfl, rfl⟩
  · exact .inr ⟨q, c, by simp [ints]⟩
def endM (L : CV) (b : Nat) (m : Nat) (en : List CV) (H : Hp) (f : Nat → Bool) : CA → Hp → Prop := fun s' H' => ∃ r q, s'.env 0 = L ∧ s'.env 1 = .int .i64 b ∧ s'.env 5 = .ref r 0 m m ∧ s'.env 6 = .ptr q 0 ∧ s'.ds = [] ∧ H r = none ∧ q ≠ r ∧ r ≠ q ∧ H' r = some (.cells (setC m f)) ∧ H' q = some (.cells en) ∧ Le (H.set r (.cells (setC m f))) H'
theorem set_le {A B : Hp} {r : Nat} {o o' : Ob} (h : Le (A.set r o) B) : Le (A.set r o') (B.set r o') := by
  have := Le.set (r := r) (o := o') h
  rwa [set_set] at this
theorem end_c (hX : CxOk (cx W G)) (u : UUnit) (hu : wfU u = true) (p : Nat → Bool) (cn : Nat) (c : Nat → Bool) (I : Nat → Nat → Bool) (b : Nat) (k : UBlk) (hb : u.blocks[b]? = some k) (H : Hp) :
    CC Tryz.prog W 69 [.iptr (liveC u u.regs.toNat p cn c I), .int .i64 b] H fun x H' => ∃ r, H r = none ∧ x = .ret (.ref r 0 (mOf u) (mOf u)) ∧ H' = H.set r (.cells (setC (mOf u) (endP u p I k))) := by
  obtain ⟨f1, f2, f3, f4, f5, f6, f7, f8, f9, f10, f11⟩ := wfU_facts hu
  obtain ⟨g1, g2, g3, g4⟩ := wfB_facts hu hb
  obtain ⟨w1, w2, w3, w4, w5⟩ := wfE_facts g4
  have hm : mOf u = (u.regs.toNat + 63) / 64 := rfl
  obtain ⟨n, hn⟩ := Int.eq_ofNat_of_zero_le (show 0 ≤ u.regs by omega)
  refine CC.shrink ?_
  refine CC.of_cw hX Tryz.func69 rfl rfl (Nat.le_of_ble_eq_true rfl) ?_
  refine CW.walk hX mixed d69 rfl ?_
  simp
  refine CW.walk hX mixed d69 rfl ?_
  simp [liveC, unitC, hn]
  refine (newSet_c hX n (by omega) H).k ?_
  rintro x H1 ⟨r, hr, rfl, rfl⟩
  simp
  refine CW.walk hX mixed d69 rfl ?_
  simp (config := {contextual := true}) [hb, blkC]
  intro q hqr hrq hq
  rw [show (n + 63) / 64 = mOf u by omega]
  have hgo : goes k.en = true ↔ k.en.kind = 1 ∨ k.en.kind = 2 := by simp [goes]
  have hle0 : Le (H.set r (.cells (setC (mOf u) fun _ => false))) ((H.set r (.cells (setC (mOf u) fun _ => false))).set q (.cells (endC k.en))) := Le.set_new (by simp [hqr, hrq, hq])
  refine CW.cut (endM (.iptr (liveC u n p cn c I)) b (mOf u) (endC k.en) H fun x => goes k.en && I k.en.to.toNat x) ?_ ?_
  · refine CW.walk1 hX mixed d69 rfl ?_
    simp [d69, hqr, hrq, mayC]
    refine ⟨fun h1 => ?_, fun h1 => ⟨fun h2 => ?_, fun h2 => ?_⟩⟩
    · refine ⟨(w4 (.inl h1)).1, by have := w4 (.inl h1); omega, (join_sl hX r _ _ (fun _ => false) (I k.en.to.toNat) f10 _ (by simp [hqr, hrq])).k ?_⟩
      rintro x H2 ⟨rfl, rfl⟩
      simp
      exact ⟨r, q, by simp [liveC, unitC, mayC, hn], by simp, by simp, by simp, rfl, hr, hqr, hrq, by simp [hgo.2 (.inl h1)], by simp [hqr, hrq, endC], by simpa [hgo.2 (.inl h1), endC] using set_le hle0⟩
    · refine ⟨(w4 (.inr h2)).1, by have := w4 (.inr h2); omega, (join_sl hX r _ _ (fun _ => false) (I k.en.to.toNat) f10 _ (by simp [hqr, hrq])).k ?_⟩
      rintro x H2 ⟨rfl, rfl⟩
      simp
      exact ⟨r, q, by simp [liveC, unitC, mayC, hn], by simp, by simp, by simp, rfl, hr, hqr, hrq, by simp [hgo.2 (.inr h2)], by simp [hqr, hrq, endC, h2], by simpa [hgo.2 (.inr h2), endC, h2] using set_le hle0⟩
    · have hno : goes k.en = false := by simp [goes, h1, h2]
      exact ⟨r, q, by simp [liveC, unitC, mayC, hn], by simp, by simp, by simp, rfl, hr, hqr, hrq, by simp [hno, hqr, hrq], by simp [hqr, hrq, endC], by simpa [hno, endC] using hle0⟩
  clear hle0 hqr hrq hq hr
  clear q r
  rintro ⟨e, ds⟩ H1 ⟨r, q, e0, e1, e5, e6, rfl, hr, hqr, hrq, hr1, hq1, hle⟩
  dsimp only at e0 e1 e5 e6
  refine CW.cut (endM (.iptr (liveC u n p cn c I)) b (mOf u) (endC k.en) H fun x => (goes k.en && I k.en.to.toNat x) || (branches k.en && I k.en.els.toNat x)) ?_ ?_
  · refine CW.walk1 hX mixed d69 rfl ?_
    simp [d69, e0, e1, e5, e6, liveC, unitC, mayC, endC, hn, hr1, hq1]
    refine ⟨fun h1 => ?_, fun h1 => ?_⟩
    · refine ⟨(w5 h1).1, by have := w5 h1; omega, (join_sl hX r _ _ _ (I k.en.els.toNat) f10 _ hr1).k ?_⟩
      rintro x H2 ⟨rfl, rfl⟩
      simp
      exact ⟨r, q, by simp [liveC, unitC, mayC, hn, e0], by simp [e1], by simp [e5], by simp [e6], rfl, hr, hqr, hrq, by simp [branches, h1], by simp [hqr, hrq, hq1, endC], by simpa [branches, h1] using set_le hle⟩
    · have hno : branches k.en = false := by simp [branches, h1]
      exact ⟨r, q, by simp [liveC, unitC, mayC, hn, e0], by simp [e1], by simp [e5], by simp [e6], rfl, hr, hqr, hrq, by simp [hno, hr1], by simp [hq1, endC], by simpa [hno] using hle⟩
  clear hle hqr hrq hr hr1 hq1 e0 e1 e5 e6
  clear q r e H1
  rintro ⟨e, ds⟩ H1 ⟨r, q, e0, e1, e5, e6, rfl, hr, hqr, hrq, hr1, hq1, hle⟩
  dsimp only at e0 e1 e5 e6
  refine CW.cut (endM (.iptr (liveC u n p cn c I)) b (mOf u) (endC k.en) H fun x => (goes k.en && I k.en.to.toNat x) || (branches k.en && I k.en.els.toNat x) || (mayEnd p k.en && catchP u I k x)) ?_ ?_
  · refine CW.walk1 hX mixed d69 rfl ?_
    simp [d69, e0, e1, e5, e6, liveC, unitC, mayC, endC, hn, hr1, hq1]
    refine (endTrap_c hX k.en n (.sl 1 (boolS cn c)) ⟨rfl, rfl⟩ p H1 fun h => by have := w3 h; omega).k ?_
    rintro x H2 ⟨rfl, rfl⟩
    simp [e0, e1, e5, e6]
    refine ⟨fun h1 => ?_, fun h1 => ?_⟩
    · refine (caught_c hX u hu n p cn c I b k hb r (mOf u) _ H2 hr1).k ?_
      rintro x H3 ⟨rfl, rfl⟩
      simp
      exact ⟨r, q, by simp [liveC, unitC, mayC, hn, e0], by simp [e1], by simp [e5], by simp [e6], rfl, hr, hqr, hrq, by simp [h1], by simp [hqr, hrq, hq1, endC], by simpa [h1] using set_le hle⟩
    · exact ⟨r, q, by simp [liveC, unitC, mayC, hn, e0], by simp [e1], by simp [e5], by simp [e6], rfl, hr, hqr, hrq, by simp [h1, hr1], by simp [hq1, endC], by simpa [h1] using hle⟩
  clear hle hqr hrq hr hr1 hq1 e0 e1 e5 e6
  clear q r e H1
  rintro ⟨e, ds⟩ H1 ⟨r, q, e0, e1, e5, e6, rfl, hr, hqr, hrq, hr1, hq1, hle⟩
  dsimp only at e0 e1 e5 e6
  refine CW.cut (endM (.iptr (liveC u n p cn c I)) b (mOf u) (endC k.en) H (endP u p I k)) ?_ ?_
  · refine CW.walk hX mixed d69 rfl ?_
    simp [d69, e0, e1, e5, e6, endC, hq1]
    refine (endReads_o hX k.en H1).k ?_
    rintro x H2 ⟨v, rfl, hown⟩
    have hrd : ∀ x ∈ endRd k.en, 0 ≤ x ∧ x < (n : Int) := fun x hx => by
      simp only [endRd] at hx
      split at hx
      · simp at hx
      · rename_i h; simp at hx; subst hx; have := w3 h; omega
    generalize hf : (fun x => goes k.en && I k.en.to.toNat x || branches k.en && I k.en.els.toNat x || mayEnd p k.en && catchP u I k x) = f at hr1 hle
    have hend : (fun x => f x || (endRd k.en).any fun y => x == y.toNat) = endP u p I k := by
      rw [← hf]
      funext x
      by_cases h : k.en.kind = 1 <;> simp [endP, endRd, h]
    have hlm : (endRd k.en).length ≤ 1 := by simp only [endRd]; split <;> simp
    generalize endRd k.en = l at hown hrd hend hlm
    rw [← hend]
    have hr2 := hown.le r _ hr1
    have hq2 := hown.le q _ hq1
    rcases hown.vlen with ⟨hv, hl⟩ | ⟨q2, c2, hv⟩
    all_goals
      simp [hv]
      refine CW.walk1 hX mixed d69 rfl ?_
      simp
      refine CW.loop (fun j s' H' => ∃ i, i ≤ l.length ∧ j = l.length - i ∧ s'.env 0 = .iptr (liveC u n p cn c I) ∧ s'.env 1 = .int .i64 b ∧ s'.env 5 = .ref r 0 (mOf u) (mOf u) ∧ s'.env 6 = .ptr q 0 ∧ s'.env 66 = v ∧ s'.env 67 = .int .i64 l.length ∧ s'.env 68 = .int .i64 i ∧ s'.ds = [] ∧ H' = H2.set r (.cells (setC (mOf u) fun x => f x || (l.take i).any fun y => x == y.toNat))) ?_ (m := l.length) ⟨0, by simp [hset_self hr2, e0, e1, e5, e6, hv]; try simp [hl]⟩
      rintro j ⟨e, ds⟩ H' ⟨i, hi, rfl, e0, e1, e5, e6, e66, e67, e68, rfl, rfl⟩
      dsimp only at e0 e1 e5 e6 e66 e67 e68
      refine vw_sound hX mixed (D := d69) _ _ _ _ (by kernel_rfl) ?_
      by_cases hil : i < l.length
      · obtain ⟨q3, c3, cs, hv3, hq3, hcs, hno⟩ := own_get hown (List.getElem?_eq_getElem hil)
        have h3r : q3 ≠ r := fun e => by rw [e, hr1] at hno; cases hno
        have hy := hrd l[i] (List.getElem_mem hil)
        have htake : l.take (i + 1) = l.take i ++ [l[i]] := by rw [List.take_succ_eq_append_getElem hil]
        generalize l[i] = y0 at hcs hy htake
        obtain ⟨y, rfl⟩ := Int.eq_ofNat_of_zero_le hy.1
        rw [hv3] at e66
        simp [e0, e1, e5, e6, e66, e67, e68, hil, h3r, hq3, hcs]
        refine (add_c hX r _ (mOf u) _ y (by omega) f10 _ set_at).k ?_
        rintro x H4 ⟨rfl, rfl⟩
        simp [e0, e1, e5, e6, e66, e67, e68]
        refine ⟨l.length - (i + 1), by omega, i + 1, by omega, rfl, hv3.symm, by rw [wrapI (by omega) (by omega)]; simp, ?_⟩
        congr 3
        funext x
        rw [htake]
        simp
        cases x == y <;> simp
      · have hil' : i = l.length := by omega
        subst hil'
        simp [e0, e1, e5, e6, e66, e67, e68]
        exact ⟨r, q, by simp [e0], by simp [e1], by simp [e5], by simp [e6], rfl, hr, hqr, hrq, by simp, by simp [hqr, hrq, hq2, endC], by simpa using set_le (hle.trans hown.le)⟩
  clear hle hqr hrq hr hr1 hq1 e0 e1 e5 e6
  clear q r e H1
  rintro ⟨e, ds⟩ H1 ⟨r, q, e0, e1, e5, e6, rfl, hr, hqr, hrq, hr1, hq1, hle⟩
  dsimp only at e0 e1 e5 e6
  refine CW.walk1 hX mixed d69 rfl ?_
  simp [e0, e1, e5, e6]
  exact ⟨_, hle, r, hr, rfl, rfl⟩
end Go.Cl
set_option linter.unusedSimpArgs false
set_option linter.unusedVariables false
namespace Go.Cl
open Go.Proofs
variable {W : World} {G : Nat → CV}
set_option maxRecDepth 8000
def befM (L : CV) (b r m cc : Nat) (op : List CV) (H : Hp) (f : Nat → Bool) : CA → Hp → Prop := fun s' H' => ∃ q, s'.env 0 = L ∧ s'.env 1 = .ref r 0 m cc ∧ s'.env 2 = .int .i64 b ∧ s'.env 7 = .ptr q 0 ∧ s'.ds = [] ∧ q ≠ r ∧ r ≠ q ∧ H' r = some (.cells (setC m f)) ∧ H' q = some (.cells op) ∧ Le (H.set r (.cells (setC m f))) H'
theorem before_c (hX : CxOk (cx W G)) (hG : G 0 = .iptr formsC) (u : UUnit) (hu : wfU u = true) (p : Nat → Bool) (cn : Nat) (c : Nat → Bool) (I : Nat → Nat → Bool) (b : Nat) (k : UBlk) (hb : u.blocks[b]? = some k) (o : UOp) (ho : wfOp u o = true) (r cc : Nat) (f : Nat → Bool) (H : Hp) (hr : H r = some (.cells (setC (mOf u) f))) :
    CC Tryz.prog W 71 [.iptr (liveC u u.regs.toNat p cn c I), .ref r 0 (mOf u) cc, .int .i64 b, .agg (opC o)] H fun x H' => x = .ret (.tuple []) ∧ H' = H.set r (.cells (setC (mOf u) (stepP u p I k o f))) := by
  obtain ⟨f1, f2, f3, f4, f5, f6, f7, f8, f9, f10, f11⟩ := wfU_facts hu
  obtain ⟨o1, o2, o3, o4, o5, o6, o7, o8, o9⟩ := wfO_facts ho f3
  have hm : mOf u = (u.regs.toNat + 63) / 64 := rfl
  have hkd : Kd o.kind := by simp only [Kd]; omega
  obtain ⟨n, hn⟩ := Int.eq_ofNat_of_zero_le (show 0 ≤ u.regs by omega)
  refine CC.shrink ?_
  refine CC.of_cw hX Tryz.func71 rfl rfl (Nat.le_of_ble_eq_true rfl) ?_
  refine CW.walk hX mixed d71 rfl ?_
  simp [liveC, unitC, mayC, hn, opC]
  intro q hq
  have hqr : q ≠ r := fun e => by rw [e, hr] at hq; cases hq
  have hrq : r ≠ q := Ne.symm hqr
  have hle0 : Le (H.set r (.cells (setC (mOf u) f))) (H.set q (.cells (opC o))) := by rw [hset_self hr]; exact Le.set_new hq
  obtain ⟨fw, hfw⟩ : ∃ fw, fw = fun x => f x && !(decide (0 ≤ writeOf o) && decide (o.guard = -1) && x == (writeOf o).toNat) := ⟨_, rfl⟩
  refine CW.cut (befM (.iptr (liveC u n p cn c I)) b r (mOf u) cc (opC o) H fw) ?_ ?_
  · refine CW.walk1 hX mixed d71 rfl ?_
    simp [opC]
    refine (write_c hX hG o hkd _).k ?_
    rintro x H2 ⟨rfl, rfl⟩
    simp (config := {contextual := true})
    refine ⟨fun h1 => ⟨fun h2 => ?_, fun h2 => ?_⟩, fun h1 => ?_⟩
    · obtain ⟨y, hy⟩ := Int.eq_ofNat_of_zero_le h1
      have hwr : writeOf o < u.regs := by
        simp only [writeOf] at hy h1 ⊢
        split
        · rename_i h; exact (o4 h).2
        · omega
      have hrm := remove_x hX r cc (mOf u) f [] y (by omega) f10 (H.set q (.cells [ci o.kind, ci o.dst, ci o.a, ci o.b, ci o.c, ci o.n, ci (-1)])) (by simp [hrq, hr])
      rw [← hy] at hrm
      refine hrm.k ?_
      rintro x H2 ⟨rfl, rfl⟩
      simp
      have e : fw = fun x => x != y && f x := by
        rw [hfw]; funext x; simp [h1, h2, hy]; cases f x <;> simp [bne]
      rw [e]
      exact ⟨q, by simp [liveC, unitC, mayC, hn], by simp, by simp, by simp, rfl, hqr, hrq, by simp, by simp [hqr, hrq, h2], by simpa [opC, h2] using set_le hle0⟩
    · have e : fw = f := by rw [hfw]; funext x; simp [h2]
      rw [e]
      exact ⟨q, by simp [liveC, unitC, mayC, hn], by simp, by simp, by simp, rfl, hqr, hrq, by simp [hqr, hrq, hr], by simp [opC], by simpa [opC] using hle0⟩
    · have e : fw = f := by rw [hfw]; funext x; simp [show ¬ 0 ≤ writeOf o by omega]
      rw [e]
      exact ⟨q, by simp [liveC, unitC, mayC, hn], by simp, by simp, by simp, rfl, hqr, hrq, by simp [hqr, hrq, hr], by simp [opC], by simpa [opC] using hle0⟩
  clear hle0 hqr hrq hq
  clear q
  rintro ⟨e, ds⟩ H1 ⟨q, e0, e1, e2, e7, rfl, hqr, hrq, hr1, hq1, hle⟩
  dsimp only at e0 e1 e2 e7
  refine CW.cut (befM (.iptr (liveC u n p cn c I)) b r (mOf u) cc (opC o) H fun x => fw x || (decide (o.kind = 21) && I o.n.toNat x)) ?_ ?_
  · refine CW.walk1 hX mixed d71 rfl ?_
    simp [d71, e0, e1, e2, e7, liveC, unitC, mayC, opC, hn, hr1, hq1]
    refine ⟨fun h1 => ?_, fun h1 => ?_⟩
    · refine ⟨(o6 h1).1, by have := o6 h1; omega, (join_sl hX r _ _ _ (I o.n.toNat) f10 _ hr1).k ?_⟩
      rintro x H2 ⟨rfl, rfl⟩
      simp
      exact ⟨q, by simp [liveC, unitC, mayC, hn, e0], by simp [e1], by simp [e2], by simp [e7], rfl, hqr, hrq, by simp [h1], by simp [hqr, hrq, hq1, opC], by simpa [h1] using set_le hle⟩
    · exact ⟨q, by simp [liveC, unitC, mayC, hn, e0], by simp [e1], by simp [e2], by simp [e7], rfl, hqr, hrq, by simp [h1, hr1], by simp [hq1, opC], by simpa [h1] using hle⟩
  clear hle hqr hrq hr1 hq1 e0 e1 e2 e7
  clear q e H1
  rintro ⟨e, ds⟩ H1 ⟨q, e0, e1, e2, e7, rfl, hqr, hrq, hr1, hq1, hle⟩
  dsimp only at e0 e1 e2 e7
  refine CW.cut (befM (.iptr (liveC u n p cn c I)) b r (mOf u) cc (opC o) H fun x => fw x || (decide (o.kind = 21) && I o.n.toNat x) || (mayTrap p o && catchP u I k x)) ?_ ?_
  · refine CW.walk1 hX mixed d71 rfl ?_
    simp [d71, e0, e1, e2, e7, liveC, unitC, mayC, opC, hn, hr1, hq1]
    refine (trap_c hX o n (.sl 1 (boolS cn c)) ⟨rfl, rfl⟩ p H1 (fun h => by have := o5 h; omega) (fun h => by have := o8 h; omega)).k ?_
    rintro x H2 ⟨rfl, rfl⟩
    simp [e0, e1, e2, e7]
    refine ⟨fun h1 => ?_, fun h1 => ?_⟩
    · refine (caught_c hX u hu n p cn c I b k hb r cc _ H2 hr1).k ?_
      rintro x H3 ⟨rfl, rfl⟩
      simp
      exact ⟨q, by simp [liveC, unitC, mayC, hn, e0], by simp [e1], by simp [e2], by simp [e7], rfl, hqr, hrq, by simp [h1], by simp [hqr, hrq, hq1, opC], by simpa [h1] using set_le hle⟩
    · exact ⟨q, by simp [liveC, unitC, mayC, hn, e0], by simp [e1], by simp [e2], by simp [e7], rfl, hqr, hrq, by simp [h1, hr1], by simp [hq1, opC], by simpa [h1] using hle⟩
  clear hle hqr hrq hr1 hq1 e0 e1 e2 e7
  clear q e H1
  rintro ⟨e, ds⟩ H1 ⟨q, e0, e1, e2, e7, rfl, hqr, hrq, hr1, hq1, hle⟩
  dsimp only at e0 e1 e2 e7
  refine CW.walk hX mixed d71 rfl ?_
  simp [d71, e0, e1, e2, e7, hq1, opC]
  refine (reads_c hX hG o hkd o1 H1).k ?_
  rintro x H2 ⟨v, rfl, hown⟩
  simp [e0, e1, e2, e7]
  have hrd : ∀ x ∈ allReads o, 0 ≤ x ∧ x < (n : Int) := fun x hx => by have := o3 x hx; omega
  generalize hf : (fun x => fw x || (decide (o.kind = 21) && I o.n.toNat x) || (mayTrap p o && catchP u I k x)) = f' at hr1 hle
  have hend : (fun x => f' x || (allReads o).any fun y => x == y.toNat) = stepP u p I k o f := by
    rw [← hf, hfw]
    rfl
  have hlm : (allReads o).length ≤ 4 := by
    have := reads_len o
    simp only [allReads]; split <;> simp <;> omega
  generalize allReads o = l at hown hrd hend hlm
  rw [← hend]
  have hr2 := hown.le r _ hr1
  have hq2 := hown.le q _ hq1
  rcases hown.vlen with ⟨hv, hl⟩ | ⟨q2, c2, hv⟩
  all_goals
    refine CW.walk hX mixed d71 rfl ?_
    simp [hv, e0, e1, e2, e7]
    refine CW.walk1 hX mixed d71 rfl ?_
    simp
    refine CW.loop (fun j s' H' => ∃ i, i ≤ l.length ∧ j = l.length - i ∧ s'.env 1 = .ref r 0 (mOf u) cc ∧ s'.env 53 = v ∧ s'.env 54 = .int .i64 l.length ∧ s'.env 55 = .int .i64 i ∧ s'.ds = [] ∧ H' = H2.set r (.cells (setC (mOf u) fun x => f' x || (l.take i).any fun y => x == y.toNat))) ?_ (m := l.length) ⟨0, by simp [hset_self hr2, e0, e1, e2, e7, hv]; try simp [hl]⟩
    rintro j ⟨e, ds⟩ H' ⟨i, hi, rfl, e1, e53, e54, e55, rfl, rfl⟩
    dsimp only at e1 e53 e54 e55
    refine vw_sound hX mixed (D := d71) _ _ _ _ (by kernel_rfl) ?_
    by_cases hil : i < l.length
    · obtain ⟨q3, c3, cs, hv3, hq3, hcs, hno⟩ := own_get hown (List.getElem?_eq_getElem hil)
      have h3r : q3 ≠ r := fun e => by rw [e, hr1] at hno; cases hno
      have hy := hrd l[i] (List.getElem_mem hil)
      have htake : l.take (i + 1) = l.take i ++ [l[i]] := by rw [List.take_succ_eq_append_getElem hil]
      generalize l[i] = y0 at hcs hy htake
      obtain ⟨y, rfl⟩ := Int.eq_ofNat_of_zero_le hy.1
      rw [hv3] at e53
      simp [e1, e53, e54, e55, hil, h3r, hq3, hcs]
      refine (add_c hX r _ (mOf u) _ y (by omega) f10 _ set_at).k ?_
      rintro x H4 ⟨rfl, rfl⟩
      simp [e1, e53, e54, e55]
      refine ⟨l.length - (i + 1), by omega, i + 1, by omega, rfl, hv3.symm, by rw [wrapI (by omega) (by omega)]; simp, ?_⟩
      congr 3
      funext x
      rw [htake]
      simp
      cases x == y <;> simp
    · have hil' : i = l.length := by omega
      subst hil'
      simp [e1, e53, e54, e55]
      exact set_le (hle.trans hown.le)
end Go.Cl
set_option linter.unusedSimpArgs false
set_option linter.unusedVariables false
namespace Go.Cl
open Go.Proofs
variable {W : World} {G : Nat → CV}
set_option maxRecDepth 8000
theorem backward_ops (hX : CxOk (cx W G)) (xs : List (List CV)) (H : Hp) : CC Tryz.prog W 70 [.sl 7 xs] H fun x H' => ∃ q, H q = none ∧ x = .ret (.func (.func 104) [] [.ptr q 0]) ∧ H' = H.set q (.cells [.sl 7 xs]) := by
  refine CC.of_ev hX mixed d70 Tryz.func70 rfl rfl (Nat.le_of_ble_eq_true rfl) d70_ok ?_
  simp [Tryz.f70, d70]
  exact fun r hr => ⟨r, hr, rfl, rfl⟩
theorem at_c (hX : CxOk (cx W G)) (hG : G 0 = .iptr formsC) (u : UUnit) (hu : wfU u = true) (p : Nat → Bool) (cn : Nat) (c : Nat → Bool) (I : Nat → Nat → Bool) (b : Nat) (k : UBlk) (hb : u.blocks[b]? = some k) (i : Nat) (hi : i ≤ k.ops.length) (H : Hp) :
    CC Tryz.prog W 44 [.iptr (liveC u u.regs.toNat p cn c I), .int .i64 b, .int .i64 i] H fun x H' => ∃ r, H r = none ∧ x = .ret (.ref r 0 (mOf u) (mOf u)) ∧ H' = H.set r (.cells (setC (mOf u) (beforeP u p I k (k.ops.drop i)))) := by
  obtain ⟨f1, f2, f3, f4, f5, f6, f7, f8, f9, f10, f11⟩ := wfU_facts hu
  obtain ⟨g1, g2, g3, g4⟩ := wfB_facts hu hb
  refine CC.shrink ?_
  refine CC.of_cw hX Tryz.func44 rfl rfl (Nat.le_of_ble_eq_true rfl) ?_
  refine CW.walk hX mixed d44 rfl ?_
  simp (config := {contextual := true})
  intro q3 hq3 q4 h43 h34 hq4
  refine CW.walk hX mixed d44 rfl ?_
  simp [h43, h34]
  refine (end_c hX u hu p cn c I b k hb _).k ?_
  rintro x H1 ⟨r, hr, rfl, rfl⟩
  simp [h43, h34] at hr ⊢
  obtain ⟨hr4, h4r, hr3, h3r, hr0⟩ := hr
  intro q7 h7r hr7 h74 h47 h73 h37 hq7
  obtain ⟨m, hm⟩ : ∃ m, m = mOf u := ⟨_, rfl⟩
  have hdrop : (k.ops.map opC).drop i = (k.ops.drop i).map opC := by rw [List.map_drop]
  generalize hH7 : (((H.set q3 _).set q4 _).set r _).set q7 _ = H7
  have h73' : H7 q3 = some (.cells [.iptr (liveC u u.regs.toNat p cn c I)]) := by rw [← hH7]; simp [*]
  have h74' : H7 q4 = some (.cells [.int .i64 b]) := by rw [← hH7]; simp [*]
  have h77' : H7 q7 = some (.cells [.ref r 0 (mOf u) (mOf u)]) := by rw [← hH7]; simp [*]
  have h7r' : H7 r = some (.cells (setC (mOf u) (endP u p I k))) := by rw [← hH7]; simp [*]
  have hHle : ∀ o, Le (H.set r o) (H7.set r o) := fun o => by
    rw [← hH7]
    intro z x hz
    by_cases e : z = r
    · subst e; simpa using hz
    · have e3 : z ≠ q3 := fun e3 => by subst e3; simp [h3r, hq3] at hz
      have e4 : z ≠ q4 := fun e4 => by subst e4; simp [h4r, hq4] at hz
      have e7 : z ≠ q7 := fun e7 => by subst e7; simp [h7r, hq7] at hz
      simpa [e, e3, e4, e7] using hz
  refine CW.cut (fun s' H' => s'.env 7 = .ptr q7 0 ∧ ∃ d H1, s'.ds = [.mark d] ∧ H1 d = none ∧ Le (H7.set r (.cells (setC (mOf u) (beforeP u p I k (k.ops.drop i))))) H1 ∧ H' = H1.set d .dfr) ?_ ?_
  · refine CW.walk hX mixed d44 rfl ?_
    simp [d44, h73', h74', liveC, unitC, mayC, hb, blkC]
    refine ⟨hi, (backward_ops hX _ H7).k ?_⟩
    rintro x H8 ⟨qb, hqb, rfl, rfl⟩
    simp
    refine CW.walk1 hX mixed d44 rfl ?_
    simp
    rw [hdrop]
    have hops : ∀ o ∈ k.ops.drop i, wfOp u o = true := fun o ho => g3 o (List.mem_of_mem_drop ho)
    have hlen : (k.ops.drop i).length ≤ 400 := by rw [List.length_drop]; omega
    generalize k.ops.drop i = xs at hops hlen
    have hrb : r ≠ qb := fun e => by rw [← e, h7r'] at hqb; cases hqb
    have h3b : q3 ≠ qb := fun e => by rw [← e, h73'] at hqb; cases hqb
    have h4b : q4 ≠ qb := fun e => by rw [← e, h74'] at hqb; cases hqb
    have h7b : q7 ≠ qb := fun e => by rw [← e, h77'] at hqb; cases hqb
    have hin : ∀ (f : Nat → Bool) (H1 : Hp), Le ((H7.set qb (.cells [.sl 7 (xs.map opC)])).set r (.cells (setC (mOf u) f))) H1 → H1 q3 = some (.cells [.iptr (liveC u u.regs.toNat p cn c I)]) ∧ H1 q4 = some (.cells [.int .i64 b]) ∧ H1 q7 = some (.cells [.ref r 0 (mOf u) (mOf u)]) ∧ H1 qb = some (.cells [.sl 7 (xs.map opC)]) ∧ H1 r = some (.cells (setC (mOf u) f)) := fun f H1 h =>
      ⟨h q3 _ (by simp [h3r, h3b, h73']), h q4 _ (by simp [h4r, h4b, h74']), h q7 _ (by simp [h7r, h7b, h77']), h qb _ (by simp [Ne.symm hrb]), h r _ (by simp)⟩
    refine CW.range hX (X := cx W G) (f := 104) (fs := []) (cap := [.ptr qb 0]) (ys := backYs (xs.map opC)) (by simp) (back_ops hX qb _ (by simp [opC]) (by simp; omega)) boxed_up (by simp) (by simp [backYs]) (fun j H1 => Le ((H7.set qb (.cells [.sl 7 (xs.map opC)])).set r (.cells (setC (mOf u) (beforeP u p I k (xs.drop (xs.length - j)))))) H1) (fun _ _ => False) (fun j H1 h => (hin _ _ h).2.2.2.1) ?_ ?_ ?_ (fun _ _ _ h => h.elim)
    · have : beforeP u p I k (xs.drop (xs.length - 0)) = endP u p I k := by simp [beforeP]
      rw [this]
      refine Eq.le_hp (hset_self ?_)
      simp [hrb, h7r']
    · intro l j args H1 hj hJ
      have hjl : j < xs.length := by have := (List.getElem?_eq_some_iff.1 hj).1; simpa [backYs] using this
      rw [backYs_get (by simpa using hjl)] at hj
      injection hj with hj
      subst hj
      obtain ⟨a3, a4, a7, ab, ar⟩ := hin _ _ hJ
      have hx : xs[xs.length - 1 - j]? = some xs[xs.length - 1 - j] := List.getElem?_eq_getElem (by omega)
      have hdr : xs.drop (xs.length - (j + 1)) = xs[xs.length - 1 - j] :: xs.drop (xs.length - j) := by
        rw [show xs.length - (j + 1) = xs.length - 1 - j by omega, List.drop_eq_getElem_cons (by omega)]
        congr 2
        omega
      have hom : xs[xs.length - 1 - j] ∈ xs := List.getElem_mem _
      generalize xs[xs.length - 1 - j] = o at hx hdr hom
      have hgd : (xs.map opC).getD ((xs.map opC).length - 1 - j) [] = opC o := by rw [List.length_map, List.getD_eq_getElem?_getD, List.getElem?_map, hx]; rfl
      rw [hgd, hdr]
      refine CW.walk1 hX mixed d44 rfl ?_
      simp [opC]
      intro q9 hq9
      have n3 : q3 ≠ q9 := fun e => by rw [← e, a3] at hq9; cases hq9
      have n4 : q4 ≠ q9 := fun e => by rw [← e, a4] at hq9; cases hq9
      have n7 : q7 ≠ q9 := fun e => by rw [← e, a7] at hq9; cases hq9
      have nr : r ≠ q9 := fun e => by rw [← e, ar] at hq9; cases hq9
      refine CW.walk1 hX mixed d44 rfl ?_
      simp [a3, a4, a7, n3, n4, n7]
      refine (before_c hX hG u hu p cn c I b k hb o (hops o hom) r (mOf u) (beforeP u p I k (xs.drop (xs.length - j))) _ (by simp [nr, ar])).k ?_
      rintro x H2 ⟨rfl, rfl⟩
      simp
      exact set_le (hJ.trans (Le.set_new hq9))
    · intro d H1 hJ hd
      simp [backYs] at hJ
      simp
      refine ⟨H1, hd, ?_, rfl⟩
      have hl : Le (H7.set r (.cells (setC (mOf u) (beforeP u p I k xs)))) ((H7.set qb (.cells [.sl 7 (xs.map opC)])).set r (.cells (setC (mOf u) (beforeP u p I k xs)))) := Le.set (Le.set_new hqb)
      exact hl.trans hJ
  rintro ⟨e, ds⟩ H' ⟨e7, d, H1, rfl, hd, hle, rfl⟩
  dsimp only at e7
  have hd7 : q7 ≠ d := fun e => by
    have := hle q7 _ (by simp [h7r]; exact h77')
    rw [e, hd] at this; cases this
  have h17 : H1 q7 = some (.cells [.ref r 0 (mOf u) (mOf u)]) := hle q7 _ (by simp [h7r]; exact h77')
  refine CW.walk1 hX mixed d44 rfl ?_
  simp [e7, hd7, h17]
  exact ⟨_, ((hHle _).trans hle).unmark hd, r, hr0, rfl, rfl⟩
end Go.Cl
set_option linter.unusedSimpArgs false
set_option linter.unusedVariables false
namespace Go.Cl
open Go.Proofs
variable {W : World} {G : Nat → CV}
set_option maxRecDepth 8000
def upto (f : Nat → Bool) (n : Nat) : List Int := ((List.range n).filter f).map Int.ofNat
theorem upto_succ (f : Nat → Bool) (n : Nat) : upto f (n + 1) = upto f n ++ (if f n then [(n : Int)] else []) := by
  simp only [upto, List.range_succ, List.filter_append, List.map_append]
  congr 1
  by_cases h : f n <;> simp [h]
theorem upto_same (f : Nat → Bool) (n : Nat) : ∀ k, (∀ j, j < k → f (n + j) = false) → upto f (n + k) = upto f n
  | 0, _ => rfl
  | k + 1, h => by
    rw [← Nat.add_assoc, upto_succ, h k (by omega)]
    simpa using upto_same f n k fun j hj => h j (by omega)
theorem upto_len (f : Nat → Bool) (n : Nat) : (upto f n).length ≤ n := by
  simp only [upto, List.length_map]
  have := List.length_filter_le f (List.range n)
  simpa using this
theorem word_shr0 {f : Nat → Bool} {k j : Nat} (h : word f k >>> j = 0) (hj : j ≤ 64) : ∀ i, i < 64 - j → f (64 * k + j + i) = false := by
  intro i hi
  have h1 := congrArg (Nat.testBit · i) h
  simp only [Nat.testBit_shiftRight, Nat.zero_testBit, testBit_word] at h1
  have : j + i < 64 := by omega
  simpa [this, Nat.add_assoc] using h1
theorem u64_shrle {a k : Nat} (hk : k ≤ 64) : zShr .u64 (a : Int) (k : Int) = ((a >>> k : Nat) : Int) := by
  show (a : Int).fdiv (2 ^ (min (k : Int).toNat 64)) = _
  rw [Int.toNat_natCast]
  have h2 : (2 : Int) ^ k = ((2 ^ k : Nat) : Int) := by simp
  rw [Nat.min_eq_left (by omega), Nat.shiftRight_eq_div_pow, h2, Int.fdiv_eq_ediv_of_nonneg _ (Int.natCast_nonneg _)]
  rfl
theorem list_c (hX : CxOk (cx W G)) (m : Nat) (f : Nat → Bool) (hm : m ≤ 64) (H : Hp) : CC Tryz.prog W 29 [.sl 1 (setS m f)] H fun x H' => ∃ v, x = .ret v ∧ Own H H' v 1 (ints (upto f (64 * m))) := by
  refine CC.of_ev hX mixed d29 Tryz.func29 rfl rfl (Nat.le_of_ble_eq_true rfl) d29_ok ?_
  simp [Tryz.f29, d29]
  refine CW.loop (fun j s' H' => ∃ k v, k ≤ m ∧ j = m - k ∧ s'.env 7 = .sl 1 (setS m f) ∧ s'.env 8 = .int .i64 m ∧ s'.env 9 = .int .i64 k ∧ s'.env 3 = v ∧ s'.ds = [] ∧ Own H H' v 1 (ints (upto f (64 * k)))) ?_ (m := m) ⟨0, .nilsl, by simp [upto, ints]; exact Own.nil (Le.refl _)⟩
  rintro j ⟨e, ds⟩ H1 ⟨k, v, hk, rfl, e7, e8, e9, e3, rfl, hown⟩
  dsimp only at e7 e8 e9 e3
  refine vw_sound hX mixed (D := d29) _ _ _ _ (by kernel_rfl) ?_
  simp [e7, e8, e9, e3]
  refine ⟨fun hkm => ⟨hkm, ?_⟩, fun hkm => ?_⟩
  · refine CW.loop (fun j s' H' => ∃ i v, i ≤ 64 ∧ j = 64 - i ∧ s'.env 4 = .int .i64 k ∧ s'.env 5 = .int .u64 (word f k) ∧ s'.env 6 = .int .i64 i ∧ s'.env 7 = .sl 1 (setS m f) ∧ s'.env 8 = .int .i64 m ∧ s'.env 9 = .int .i64 k ∧ s'.env 3 = v ∧ s'.ds = [] ∧ Own H H' v 1 (ints (upto f (64 * k + i)))) ?_ (m := 64) ⟨0, v, by simp [e7, e8, e9, e3]; exact hown⟩
    clear hown e7 e8 e9 e3
    clear v e H1
    rintro j ⟨e, ds⟩ H1 ⟨i, v, hi, rfl, e4, e5, e6, e7, e8, e9, e3, rfl, hown⟩
    dsimp only at e4 e5 e6 e7 e8 e9 e3
    refine vw_sound hX mixed (D := d29) _ _ _ _ (by kernel_rfl) ?_
    simp [e4, e5, e6, e7, e8, e9, e3, -vcAppend, cfill]
    simp only [u64_shrle hi]
    have hand : (zAnd .u64 ((word f k >>> i : Nat) : Int) 1 = 1) = ((word f k >>> i).testBit 0 = true) := by
      rw [u64_and1 (Nat.lt_of_le_of_lt (Nat.shiftRight_le _ _) (word_lt _ _))]
      cases (word f k >>> i).testBit 0 <;> simp
    rw [hand]
    have hbit : i < 64 → (word f k >>> i).testBit 0 = f (64 * k + i) := fun h => by rw [Nat.testBit_shiftRight, testBit_word]; simp [h]
    refine ⟨fun hz => ?_, fun hz => ?_⟩
    · have hi64 : i < 64 := by
        rcases Nat.lt_or_ge i 64 with h | h
        · exact h
        · exfalso
          apply hz
          have : i = 64 := by omega
          subst this
          have := Nat.shiftRight_eq_div_pow (word f k) 64
          rw [this, Nat.div_eq_of_lt (word_lt _ _)]
          rfl
      rw [hbit hi64, wrapI (n := 64 * (k : Int)) (by omega) (by omega), wrapI (by omega) (by omega)]
      have hl := upto_len f (64 * k + i)
      refine ⟨fun hf r hr => ?_, fun hf => ?_⟩
      · refine (hown.more hr).append (ys := [[ci ((64 * k + i : Nat) : Int)]]) (by simp) (by simp [ints]; omega) (src_one (by simp) rfl) fun v' H2 how2 _ => ?_
        simp [e4, e5, e6, e7, e8, e9, e3]
        refine ⟨64 - (i + 1), by omega, i + 1, by omega, rfl, by rw [wrapI (by omega) (by omega)]; simp, ?_⟩
        rw [← Nat.add_assoc, upto_succ, hf]
        simpa [ints] using how2
      · refine ⟨64 - (i + 1), by omega, i + 1, by omega, rfl, by rw [wrapI (by omega) (by omega)]; simp, ?_⟩
        rw [← Nat.add_assoc, upto_succ]
        simp at hf
        simpa [hf] using hown
    · refine ⟨m - (k + 1), by omega, k + 1, by omega, rfl, by rw [wrapI (by omega) (by omega)]; simp, ?_⟩
      have h0 : word f k >>> i = 0 := by omega
      rw [show 64 * (k + 1) = (64 * k + i) + (64 - i) by omega, upto_same f _ _ fun j hj => word_shr0 h0 hi j hj]
      exact hown
  · have : k = m := by omega
    subst this
    exact hown
end Go.Cl
