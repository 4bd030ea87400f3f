/- DERIVED HERE. The reference's Engine: last. -/
import Derived.Test.YtfkdjajpopocpaaDoorED
set_option linter.unusedSimpArgs false
set_option linter.unusedVariables false
namespace Go.Cl
open Go.Proofs Dd
variable {W : World} {G : Nat → CV}
set_option maxRecDepth 8000
structure lsM (q r3 r4 : Nat) (H2 : Hp) (v : Val) (s' : CA) (H' : Hp) : Prop where
  e0 : s'.env 0 = .ptr q 0
  e3 : s'.env 3 = .ptr r3 0
  e4 : s'.env 4 = .ptr r4 0
  ds : s'.ds = []
  H : H' = H2.set r4 (.cells (valC v))
theorem last31_c (hX : CxOk (cx W G)) {B H : Hp} {lab κ : Nat → Nat} {a : EV} {u : UUnit} {e : Eng} (h : EH B H lab κ a u e) (hu : UB B a u) (hw : wfU u = true) (he : e.block < u.blocks.length) (d : UEnd) (hd : wfEnd u d = true) :
    CC Tryd.prog W 31 [.ptr a.q 0, .agg (endC d)] H fun x H' => x = .ret (.tuple []) ∧ ∃ lab' w, EH B H' lab' κ { a with vW := w } u (lastE u d e) := by
  obtain ⟨f1, f2, f3, f4, f5, f6, f7, f8, f9, f10, f11⟩ := wfU_facts hw
  obtain ⟨g1, g2, g3, g4, g5⟩ := wfE_facts hd
  refine CC.of_cw hX Tryd.func31 rfl rfl (Nat.le_of_ble_eq_true rfl) ?_
  refine CW.walk hX mixed d31 rfl ?_
  simp [endC]
  intro r3 n3
  refine CW.walk hX mixed d31 rfl ?_
  simp (config := {contextual := true})
  intro r4 a43 a34 n4
  have h3 := h.more (r := r3) (o := .cells (endC d)) n3
  have n4' : (H.set r3 (.cells (endC d))) r4 = none := by simp [Hp.set, a43, n4]
  have m3 : (H.set r3 (.cells (endC d))) r3 = some (.cells (endC d)) := set_at
  simp only [endC] at h3 m3 n4'
  generalize hH3 : H.set r3 _ = H3 at h3 m3 n4' ⊢
  have hBB3 : Le B (B.set r3 (.cells [ci d.kind, ci d.a, ci d.to, ci d.els])) := Le.set_new (h.le.none n3)
  generalize hB3 : B.set r3 _ = B3 at h3 hBB3
  have hu3 := hu.mono hBB3
  clear hB3 hH3
  have hq := h3.hq
  have hqr4 : a.q ≠ r4 := fun k => by rw [k, n4'] at hq; cases hq
  have hrr := h3.hr
  have hrr4 : a.rr ≠ r4 := fun k => by rw [k, n4'] at hrr; cases hrr
  simp only [engC] at hq
  refine CW.cut (lsM a.q r3 r4 H3 (if d.kind ≠ 1 then e.regs d.a.toNat else v0)) ?_ ?_
  · refine CW.walk1 hX mixed d31 rfl ?_
    simp [a34, m3]
    refine (endA_c hX _ _).k ?_
    rintro x H4 ⟨rfl, rfl⟩
    by_cases hk : d.kind = 1
    · simp [hk]
      exact ⟨by simp, by simp, by simp, rfl, by simp [v0, valC]⟩
    · simp [hk]
      have hda := g3 hk
      have hdn : d.a.toNat < u.regs.toNat := by omega
      have hvl := valsC_len u.regs.toNat e.regs
      have hvg := valsC_get e.regs hdn
      simp only [valC] at hvg
      simp [d31, hq, hqr4, hrr4, hrr, a34, m3, hda.1, hvg]
      refine ⟨by omega, by omega, by omega, by simp, by simp, by simp, rfl, by simp [hk, valC]⟩
  rintro ⟨en, ds⟩ H4 ⟨e0, e3, e4, rfl, rfl⟩
  dsimp only at e0 e3 e4
  generalize ha : (if d.kind ≠ 1 then e.regs d.a.toNat else v0) = v
  have h4 := h3.more (r := r4) (o := .cells (valC v)) n4'
  have m4 : (H3.set r4 (.cells (valC v))) r4 = some (.cells (valC v)) := set_at
  have m3' : (H3.set r4 (.cells (valC v))) r3 = some (.cells [ci d.kind, ci d.a, ci d.to, ci d.els]) := Le.set_new n4' _ _ m3
  have hBB4 : Le B (B3.set r4 (.cells (valC v))) := hBB3.put (h.le.none (by
    cases hx : H r4 with
    | none => rfl
    | some o => rw [hx] at n4; cases n4))
  have hu4 := hu.mono hBB4
  generalize H3.set r4 (.cells (valC v)) = H4 at h4 m4 m3' ⊢
  generalize B3.set r4 (.cells (valC v)) = B4 at h4 hBB4 hu4
  generalize fset (fset lab r3 0) r4 0 = lab4 at h4
  clear hq hrr h3 m3 n4'
  have hla : lastE u d e = (if v.bad ≠ 0 then trapE u v.bad e else if d.kind = 3 then endE 1 v.num e else if d.kind = 4 then trapE u v.num e else if d.kind = 1 then enterE d.to.toNat e else if d.kind = 2 then (if v.num ≠ 0 then enterE d.to.toNat e else enterE d.els.toNat e) else e) := by
    rw [← ha]; rfl
  simp only [valC] at m4
  have hq4 := h4.hq
  simp only [engC] at hq4
  by_cases hb : v.bad = 0
  rotate_left
  · refine CW.walk hX mixed d31 rfl ?_
    simp [e0, e4, m4, hb]
    refine (trap43_c hX h4 hu4 hw he v.bad).k ?_
    rintro x H5 ⟨rfl, lab', w, hE⟩
    simp
    rw [hla, if_pos hb]
    exact ⟨lab', w, hE.base hBB4⟩
  refine CW.walk hX mixed d31 rfl ?_
  simp [e4, m4, hb]
  refine CW.walk hX mixed d31 rfl ?_
  simp [e3, m3']
  obtain ⟨cs, c1, c2, c3⟩ := h4.hc
  obtain ⟨n1, hn1⟩ := c3 _ (List.getElem_mem (show e.block * 3 + 1 < cs.length by omega))
  obtain ⟨n2, hn2⟩ := c3 _ (List.getElem_mem (show e.block * 3 + 2 < cs.length by omega))
  have hn1 : cs[e.block * 3 + 1]? = some (ci n1) := by rw [List.getElem?_eq_getElem (by omega), hn1]
  have hn2 : cs[e.block * 3 + 2]? = some (ci n2) := by rw [List.getElem?_eq_getElem (by omega), hn2]
  have setc : ∀ (i : Nat) (m : Int), i < u.blocks.length * 3 → EH B4 (H4.set a.rc (.cells (cs.take i ++ ci m :: cs.drop (i + 1)))) lab4 κ a u e := fun i m hi => h4.setc (by simp; omega) fun x hx => by
    rcases List.mem_append.1 hx with hx | hx
    · exact c3 x (List.mem_of_mem_take hx)
    · rcases List.mem_cons.1 hx with hx | hx
      · exact ⟨_, hx⟩
      · exact c3 x (List.mem_of_mem_drop hx)
  have hrc3 : a.rc ≠ r3 := fun q => by rw [q, m3'] at c1; injection c1 with c1; injection c1 with c1; rw [← c1] at c2; simp at c2; omega
  have go : ∀ (i : Nat) (m dst : Int), i < u.blocks.length * 3 → 0 ≤ dst → dst < u.blocks.length → CC Tryd.prog W 29 [.ptr a.q 0, ci dst] (H4.set a.rc (.cells (cs.take i ++ ci m :: cs.drop (i + 1)))) fun x H' => x = .ret (.tuple []) ∧ ∃ lab' w, EH B H' lab' κ { a with vW := w } u (enterE dst.toNat e) := fun i m dst hi h0 h1 => by
    obtain ⟨t, rfl⟩ := Int.eq_ofNat_of_zero_le h0
    exact (enter29_c hX (setc i m hi) t (by omega) f8).mono fun x H' ⟨k1, lab', w, k2⟩ => ⟨k1, lab', w, k2.base hBB4⟩
  have m3s : ∀ x, (H4.set a.rc x) r3 = some (.cells [ci d.kind, ci d.a, ci d.to, ci d.els]) := fun x => by rw [hset_ne (Ne.symm hrc3)]; exact m3'
  have hk : d.kind = 3 ∨ d.kind = 4 ∨ d.kind = 1 ∨ d.kind = 2 := by omega
  rcases hk with k | k | k | k
  · refine CW.walk1 hX mixed d31 rfl ?_
    simp [k, e0, e4, m4]
    refine (end49_c hX a u e 1 v.num h4.hq).k ?_
    rintro x H5 ⟨rfl, rfl⟩
    simp
    rw [hla, if_neg (by simp [hb]), if_pos k]
    exact ⟨lab4, a.vW, (h4.setq (e' := endE 1 v.num e) rfl rfl rfl rfl).base hBB4⟩
  · refine CW.walk1 hX mixed d31 rfl ?_
    simp [k, e0, e4, m4]
    refine (trap43_c hX h4 hu4 hw he v.num).k ?_
    rintro x H5 ⟨rfl, lab', w, hE⟩
    simp
    rw [hla, if_neg (by simp [hb]), if_neg (by omega), if_pos k]
    exact ⟨lab', w, hE.base hBB4⟩
  · refine CW.walk1 hX mixed d31 rfl ?_
    simp [d31, k, e0, e3, e4, m3', m4, hq4, c1, he, hn1]
    refine ⟨by omega, _, m3s _, _, rfl, ?_⟩
    refine (go _ _ _ (by omega) (g4 (.inl k)).1 (g4 (.inl k)).2).k ?_
    rintro x H5 ⟨rfl, lab', w, hE⟩
    simp
    rw [hla, if_neg (by simp [hb]), if_neg (by omega), if_neg (by omega), if_pos k]
    exact ⟨lab', w, hE⟩
  · refine CW.walk1 hX mixed d31 rfl ?_
    by_cases hz : v.num = 0
    · simp [d31, k, e0, e3, e4, m3', m4, hq4, c1, he, hn2, hz]
      refine ⟨by omega, _, m3s _, _, rfl, ?_⟩
      refine (go _ _ _ (by omega) (g5 k).1 (g5 k).2).k ?_
      rintro x H5 ⟨rfl, lab', w, hE⟩
      simp
      rw [hla, if_neg (by simp [hb]), if_neg (by omega), if_neg (by omega), if_neg (by omega), if_pos k, if_neg (by simp [hz])]
      exact ⟨lab', w, hE⟩
    · simp [d31, k, e0, e3, e4, m3', m4, hq4, c1, he, hn1, hz]
      refine ⟨by omega, _, m3s _, _, rfl, ?_⟩
      refine (go _ _ _ (by omega) (g4 (.inr k)).1 (g4 (.inr k)).2).k ?_
      rintro x H5 ⟨rfl, lab', w, hE⟩
      simp
      rw [hla, if_neg (by simp [hb]), if_neg (by omega), if_neg (by omega), if_neg (by omega), if_pos k, if_pos hz]
      exact ⟨lab', w, hE⟩
end Go.Cl
