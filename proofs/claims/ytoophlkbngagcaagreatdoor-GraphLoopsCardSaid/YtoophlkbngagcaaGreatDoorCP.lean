/- DERIVED HERE. Copy of a unit that lies in blocks. -/
import Derived.Test.YtoophlkbngagcaaGreatDoorTAq
import Derived.Test.YtoophlkbngagcaaGreatDoorRF
set_option linter.unusedSimpArgs false
set_option linter.unusedVariables false
namespace Go.Cl
open Go.Proofs
variable {W : World} {G : Nat → CV}
set_option maxRecDepth 8000
theorem Own.wkE {H : Hp} {v : CV} {sz : Nat} {xs : List (List CV)} (h : Own E0 H v sz xs) (hx : ∀ e ∈ xs, e.map wkC = e) : Own E0 (wkH H) v sz xs := by
  refine ⟨(fun _ _ h => by cases h), h.2.1, ?_⟩
  rcases h.2.2 with h | ⟨q, c, ex, h1, h2, h3, h4, h5⟩
  · exact .inl h
  · refine .inr ⟨q, c, ex.map wkC, h1, rfl, ?_, by simpa using h4, h5⟩
    rw [wkH_at h3, List.map_append, List.map_flatten]
    have : xs.map (List.map wkC) = xs := by
      conv => rhs; rw [← List.map_id xs]
      exact List.map_congr_left hx
    rw [this]
theorem wk_ints (l : List Int) : ∀ e ∈ ints l, e.map wkC = e := by
  intro e he
  simp only [ints, List.mem_map] at he
  obtain ⟨n, _, rfl⟩ := he
  rfl
theorem wk_ops (l : List UOp) : ∀ e ∈ l.map opC, e.map wkC = e := by
  intro e he
  simp only [List.mem_map] at he
  obtain ⟨n, _, rfl⟩ := he
  rfl
theorem Own.wkv {H : Hp} {v : CV} {sz : Nat} {xs : List (List CV)} (h : Own E0 H v sz xs) : wkC v = v := by
  rcases h.2.2 with ⟨rfl, _⟩ | ⟨q, c, ex, rfl, _⟩ <;> rfl
theorem Own.freeV {H : Hp} {v : CV} {sz : Nat} {xs : List (List CV)} (h : Own E0 H v sz xs) : Free v := by
  rcases h.2.2 with ⟨rfl, _⟩ | ⟨q, c, ex, rfl, _⟩ <;> constructor
theorem BlkR.wk {H : Hp} {v : CV} {bs : List UBlk} (h : BlkR H v bs) : BlkR (wkH H) v bs := by
  rcases h with h | ⟨r, c, cs, h1, h2, h3⟩
  · exact .inl h
  · refine .inr ⟨r, c, _, h1, wkH_at h2, fun j k hk => ?_⟩
    obtain ⟨x0, h4, h5⟩ := h3 j k hk
    refine ⟨x0, ?_, h5.wkE (wk_ops _)⟩
    rw [← List.map_drop, ← List.map_take, h4, List.map_cons, h5.wkv]
    rfl
theorem BlkR.freeV {H : Hp} {v : CV} {bs : List UBlk} (h : BlkR H v bs) : Free v := by
  rcases h with ⟨rfl, _⟩ | ⟨r, c, cs, rfl, h2, h3⟩ <;> constructor
theorem BlkR.fz {H : Hp} {v : CV} {bs : List UBlk} (h : BlkR H v bs) (hc : ∀ r n c, v = .ref r 0 n c → n ≤ c) : Fz H v (.sl 6 (bs.map blkC)) := by
  rcases h with ⟨rfl, rfl⟩ | ⟨r, c, cs, rfl, h2, h3⟩
  · exact .nil 6
  · have hlen : ∀ j k, bs[j]? = some k → j * 6 + 6 ≤ cs.length := fun j k hk => by
      obtain ⟨x0, h4, _⟩ := h3 j k hk
      have := congrArg List.length h4
      simp [blkT] at this
      omega
    refine .ref r 0 bs.length c 6 cs _ h2 (by simp) (hc _ _ _ rfl) (fun i e he => ?_) (fun i j => cs.getD (0 + (i * 6 + j)) .any) (fun i j hi hj => ?_) (fun i j e x he hx => ?_)
    · obtain ⟨n, _, rfl⟩ := List.mem_map.1 (List.mem_of_getElem? he); rfl
    · have := hlen i _ (List.getElem?_eq_getElem hi)
      rw [List.getD_eq_getElem?_getD, List.getElem?_eq_getElem (by omega)]
      rfl
    · rw [List.getElem?_map] at he
      cases hk : bs[i]? with
      | none => rw [hk] at he; cases he
      | some k =>
        rw [hk] at he
        injection he with he
        subst he
        obtain ⟨x0, h4, h5⟩ := h3 i k hk
        have h6 : j < 6 := by have := (List.getElem?_eq_some_iff.1 hx).1; simpa [blkC] using this
        have hg : cs[0 + (i * 6 + j)]? = (x0 :: blkT k)[j]? := by
          rw [← h4, List.getElem?_take, if_pos h6, List.getElem?_drop, Nat.zero_add]
        rw [List.getD_eq_getElem?_getD, hg]
        rw [blkC_eq] at hx
        cases j with
        | zero => simp at hx; subst hx; simpa using h5.fz
        | succ j =>
          simp only [List.getElem?_cons_succ] at hx ⊢
          rw [hx]
          exact .same _
theorem fzAgg6 {H : Hp} {a b c d e f a' b' c' d' e' f' : CV} (ha : Fz H a a') (hb : Fz H b b') (hc : Fz H c c') (hd : Fz H d d') (he : Fz H e e') (hf : Fz H f f') : Fz H (.agg [a, b, c, d, e, f]) (.agg [a', b', c', d', e', f']) := by
  refine .agg _ _ rfl (fun j => [a, b, c, d, e, f].getD j .any) (fun j hj => ?_) (fun j x hx => ?_)
  · rcases j with _|_|_|_|_|_|j <;> first | rfl | (simp at hj; omega)
  · rcases j with _|_|_|_|_|_|j <;> simp at hx ⊢ <;> subst hx <;> assumption
theorem UV.wk {H : Hp} {cs : List CV} {u : UUnit} (h : UV H cs u) : UV (wkH H) cs u ∧ Free (.agg cs) := by
  obtain ⟨hl, hf, ⟨v0, v5, rfl, hb⟩, hw⟩ := h
  simp only [List.getD_cons_zero] at hw
  have hw' := hw.wkE (wk_ints _)
  have hc : ∀ r n c, v5 = .ref r 0 n c → n ≤ c := fun r n c e => by
    subst e
    cases hf with
    | agg _ _ _ y hy hf =>
      have h5 := hf 5 (.sl 6 (u.blocks.map blkC)) (by simp [unitC])
      have e5 := hy 5 (by simp [unitC])
      simp at e5
      rw [← e5] at h5
      cases h5 with
      | ref _ _ _ _ _ _ _ _ _ hc => exact hc
  refine ⟨⟨rfl, fzAgg6 hw'.fz (.same _) (.same _) (.same _) (.same _) (hb.wk.fz hc), ⟨v0, v5, rfl, hb.wk⟩, hw'⟩, ?_⟩
  refine .agg _ fun i x hx => ?_
  rcases i with _|_|_|_|_|_|i <;> simp at hx
  · subst hx; exact hw.freeV
  · subst hx; constructor
  · subst hx; constructor
  · subst hx; constructor
  · subst hx; constructor
  · subst hx; exact hb.freeV
theorem fzOne {H : Hp} {x y : CV} (h : Fz H x y) : ∀ (i : Nat) a b, [x][i]? = some a → [y][i]? = some b → Fz H a b := by
  intro i a b ha hb
  rcases i with _|i
  · simp at ha hb; subst ha; subst hb; exact h
  · simp at ha
theorem copy_f (hX : CxOk (cx W G)) {u : UUnit} (hu : CutOk u) {H : Hp} {cs : List CV} (hf : Fz H (.agg cs) (.agg (unitC u))) : CC Tryz.prog W 10 [.agg cs] H fun x H' => ∃ cs', x = .ret (.agg cs') ∧ Le H H' ∧ UV H' cs' u := by
  refine (CC.freeze3 (args' := [.agg (unitC u)]) (R := fun x H' => ∃ cs', x = .ret (.agg cs') ∧ UV H' cs' u) (by rfl) (fzOne hf) (by rintro x H' ⟨cs', rfl, h⟩; exact h.wk.2) fun w hw => ?_).mono ?_
  · exact (copy_c (W := w) (CxOk.later hX hw) u hu _).mono fun x H' ⟨cs', h1, h2, h3⟩ => ⟨cs', h1, h3⟩
  · rintro x H2 ⟨H', ⟨cs', rfl, h6⟩, h7, h8, h9⟩
    exact ⟨cs', rfl, h7, h6.wk.1.mono h8⟩
theorem wkH_mono {A B : Hp} (h : Le A B) : Le (wkH A) (wkH B) := by
  intro r o hr
  simp only [wkH] at hr ⊢
  cases ha : A r with
  | none => rw [ha] at hr; cases hr
  | some x => rw [h r x ha]; rw [ha] at hr; exact hr
theorem wkH_none {A : Hp} {r : Nat} (h : A r = none) : wkH A r = none := by simp [wkH, h]
/-- As 'UVN', beside what the caller holds. -/
theorem UVN.lift {H H' H2 : Hp} {cs : List CV} {u : UUnit} (h : UVN (fun _ => none) H' cs u) (h7 : Le H H2) (h8 : Le (wkH H') H2) (h9 : ∀ r, wkH H' r ≠ none → H r = none) : UVN H H2 cs u := by
  obtain ⟨B, v0, v5, e, _, hB, ho, hb⟩ := h
  have hwB := wkH_mono hB
  have hBn : ∀ r o, wkH B r = some o → H r = none := fun r o hr => h9 r (by rw [hwB r o hr]; simp)
  have hle : Le (wkH B) (fun r => match H r with | some o => some o | none => wkH B r) := fun r o hr => by
    simp only [hBn r o hr]; exact hr
  refine ⟨fun r => match H r with | some o => some o | none => wkH B r, v0, v5, e, fun r o hr => by simp only [hr], fun r o hr => ?_, (ho.wkE (wk_ints _)).mono hle, ?_⟩
  · cases hH : H r with
    | some o' => simp only [hH] at hr; exact h7 r o (by rw [hH]; exact hr)
    | none => simp only [hH] at hr; exact h8 r o (hwB r o hr)
  · rcases hb with hb | ⟨r, c, ds, h1, h2, h3, h4, h5⟩
    · exact .inl hb
    · have hw := wkH_at h4
      refine .inr ⟨r, c, _, h1, h2, ?_, h8 _ _ hw, fun j k hk => ?_⟩
      · simp only [h9 r (by rw [hw]; simp)]
        exact wkH_none h3
      · obtain ⟨x0, a, b⟩ := h5 j k hk
        refine ⟨x0, ?_, (b.wkE (wk_ops _)).mono hle⟩
        rw [← List.map_drop, ← List.map_take, a, List.map_cons, b.wkv]
        rfl
end Go.Cl
