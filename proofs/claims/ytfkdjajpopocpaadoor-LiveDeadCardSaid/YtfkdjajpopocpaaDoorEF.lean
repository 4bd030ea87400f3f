/- DERIVED HERE. The reference's Engine: op. -/
import Derived.Test.YtfkdjajpopocpaaDoorEE
set_option linter.unusedSimpArgs false
set_option linter.unusedVariables false
namespace Go.Cl
open Go.Proofs Dd
variable {W : World} {G : Nat → CV}
set_option maxRecDepth 8000
set_option maxHeartbeats 4000000
theorem valsC_at {n i : Nat} (f : Nat → Val) (h : i < n) : (valsC n f)[i * 2]? = some (ci (f i).num) ∧ (valsC n f)[i * 2 + 1]? = some (ci (f i).bad) := by
  have hg := valsC_get f h
  have k : ∀ t, t < 2 → (valsC n f)[i * 2 + t]? = (valC (f i))[t]? := fun t ht => by
    rw [← hg, List.getElem?_take, if_pos ht, List.getElem?_drop]
  exact ⟨k 0 (by omega), k 1 (by omega)⟩
def xC (e : Eng) (o : UOp) (i : Nat) : List CV := valsC 3 fun j => if j < i then opnd e o j else v0
structure opL (H6 : Hp) (e : Eng) (o : UOp) (q r3 r5 : Nat) (vl : CV) (j : Nat) (s' : CA) (H' : Hp) : Prop where
  ex : ∃ i : Nat, i ≤ (reads o).length ∧ j = (reads o).length - i ∧ s'.env 0 = .ptr q 0 ∧ s'.env 3 = .ptr r3 0 ∧ s'.env 5 = .ptr r5 0 ∧ s'.env 6 = vl ∧ s'.env 7 = .int .i64 i ∧ s'.ds = [] ∧ H' = H6.set r5 (.cells (xC e o i))
theorem reads3 (o : UOp) : (reads o).length ≤ 3 := by
  simp only [reads, List.length_append]
  split <;> split <;> split <;> simp
theorem isDo_bit {k : Int} (h : isKind k = true) (hd : isDo k = true) : uBit k 0 = true := by
  simp only [isKind, Bool.and_eq_true, decide_eq_true_eq] at h
  have kinds : k = 1 ∨ k = 2 ∨ k = 3 ∨ k = 4 ∨ k = 5 ∨ k = 6 ∨ k = 7 ∨ k = 8 ∨ k = 9 ∨ k = 10 ∨ k = 11 ∨ k = 12 ∨ k = 13 ∨ k = 14 ∨ k = 15 ∨ k = 16 ∨ k = 17 ∨ k = 18 ∨ k = 19 ∨ k = 20 ∨ k = 21 ∨ k = 22 ∨ k = 23 ∨ k = 24 ∨ k = 25 := by omega
  rcases kinds with k | k | k | k | k | k | k | k | k | k | k | k | k | k | k | k | k | k | k | k | k | k | k | k | k <;> subst k <;> first | rfl | cases hd
structure opB (q r3 r5 : Nat) (H8 : Hp) (v : Int) (s' : CA) (H' : Hp) : Prop where
  e0 : s'.env 0 = .ptr q 0
  e3 : s'.env 3 = .ptr r3 0
  e5 : s'.env 5 = .ptr r5 0
  e10 : s'.env 10 = ci v
  ds : s'.ds = []
  H : H' = H8
theorem EH.arr {B H : Hp} {lab κ : Nat → Nat} {a : EV} {u : UUnit} {e : Eng} (h : EH B H lab κ a u e) {i : Nat} (hi : i < u.sizes.length) : ∃ rC cC cs, a.vC = .ref rC 0 u.sizes.length cC ∧ H rC = some (.cells cs) ∧ cs[i]? = some (.ref (κ i) 0 (e.cells i).length (e.cells i).length) ∧ H (κ i) = some (.cells ((e.cells i).map fun n => ci n)) := by
  obtain ⟨h1, h2, ⟨_, hx⟩ | ⟨r, c, ex, hv, _, hr, hex, hc⟩⟩ := h.hC
  · have : u.sizes.length = 0 := by have := congrArg List.length hx; rwa [List.length_map, List.length_range] at this
    omega
  · refine ⟨r, c, _, by simpa using hv, hr, ?_, h.hκ i hi⟩
    rw [List.getElem?_append_left (by rw [flat_len h2]; simpa using hi)]
    have := flat_get h2 (i := i) (j := 0) (e := [.ref (κ i) 0 (e.cells i).length (e.cells i).length]) (by rw [List.getElem?_map, List.getElem?_range hi]; rfl) (by omega)
    simpa using this
theorem opB.of {q r3 r5 : Nat} {H8 : Hp} {v : Int} {s' : CA} {H' : Hp} (e0 : s'.env 0 = .ptr q 0) (e3 : s'.env 3 = .ptr r3 0) (e5 : s'.env 5 = .ptr r5 0) (e10 : s'.env 10 = ci v) (ds : s'.ds = []) (H : H' = H8) : opB q r3 r5 H8 v s' H' := ⟨e0, e3, e5, e10, ds, H⟩
structure opM (B : Hp) (κ : Nat → Nat) (a : EV) (u : UUnit) (e : Eng) (o : UOp) (r3 : Nat) (s' : CA) (H' : Hp) : Prop where
  ex : ∃ B' lab', Le B B' ∧ EH B' H' lab' κ a u e ∧ B' r3 = some (.cells (opC o)) ∧ s'.env 0 = .ptr a.q 0 ∧ s'.env 3 = .ptr r3 0 ∧ s'.ds = []
theorem op30_c (hX : CxOk (cx W G)) {B H : Hp} {lab κ : Nat → Nat} {a : EV} {u : UUnit} {e : Eng} (h : EH B H lab κ a u e) (hu : UB B a u) (hw : wfU u = true) (he : e.block < u.blocks.length) (hpc : e.pc ≤ 1000000) (hpr : e.out.prints.length ≤ 1000000) (o : UOp) (ho : wfOp u o = true) :
    CC Tryd.prog W 30 [.ptr a.q 0, .agg (opC o)] H fun x H' => x = .ret (.tuple []) ∧ ∃ lab' vP vW, EH B H' lab' κ { a with vP := vP, vW := vW } u (opE mathM u o { e with pc := e.pc + 1 }) := by
  obtain ⟨f1, f2, f3, f4, f5, f6, f7, f8, f9, f10, f11⟩ := wfU_facts hw
  obtain ⟨w1, w2, w3, w4, w5, w6, w7, w8, w9⟩ := wfO_facts ho f3
  refine CC.of_cw hX Tryd.func30 rfl rfl (Nat.le_of_ble_eq_true rfl) ?_
  refine CW.walk hX mixed d30 rfl ?_
  simp [opC]
  intro r3 n3
  have h3 := h.more (r := r3) (o := .cells (opC o)) n3
  have hBB3 : Le B (B.set r3 (.cells (opC o))) := Le.set_new (h.le.none n3)
  have m3 : (H.set r3 (.cells (opC o))) r3 = some (.cells (opC o)) := set_at
  have b3 : (B.set r3 (.cells (opC o))) r3 = some (.cells (opC o)) := set_at
  simp only [opC] at h3 m3 hBB3 b3
  generalize H.set r3 _ = H3 at h3 m3 ⊢
  generalize B.set r3 _ = B3 at h3 hBB3 b3
  generalize fset lab r3 0 = lab3 at h3
  have hu3 := hu.mono hBB3
  have hq := h3.hq
  simp only [engC] at hq
  refine CW.walk hX mixed d30 rfl ?_
  simp [hq, wrapI (show (-9223372036854775808 : Int) ≤ (e.pc : Int) + 1 by omega) (show (e.pc : Int) + 1 ≤ 9223372036854775807 by omega)]
  have hq3 : a.q ≠ r3 := fun k => by have := h3.nb r3 (by rw [b3]; simp); rw [← k, h3.lq] at this; cases this
  generalize hH5 : Hp.set H3 a.q _ = H5
  have h5 : EH B3 H5 lab3 κ a u { e with pc := e.pc + 1 } := by rw [← hH5]; exact h3.setq (e' := { e with pc := e.pc + 1 }) rfl rfl rfl rfl
  clear hH5
  generalize hE : ({ e with pc := e.pc + 1 } : Eng) = e1 at h5 ⊢
  have he1 : e1.block < u.blocks.length := by rw [← hE]; exact he
  have hpr1 : e1.out.prints.length ≤ 1000000 := by rw [← hE]; exact hpr
  have m3 := h5.le _ _ b3
  clear hq h3
  have hq := h5.hq
  have hrr := h5.hr
  simp only [engC] at hq
  by_cases hgb : 0 ≤ o.guard ∧ (e1.regs o.guard.toNat).bad ≠ 0
  · obtain ⟨hg, hb⟩ := hgb
    have hgr := w5 (by omega)
    have hgn : o.guard.toNat < u.regs.toNat := by omega
    have hvl := valsC_len u.regs.toNat e1.regs
    have hvg := valsC_get e1.regs hgn
    simp only [valC] at hvg
    obtain ⟨ha0, ha1⟩ := valsC_at e1.regs hgn
    refine CW.walk hX mixed d30 rfl ?_
    simp [d30, m3, hg, hq, hrr, hvg, ha1, hb]
    refine ⟨by omega, by omega, fun r4 n4 => ⟨by omega, ?_⟩⟩
    have h6 := h5.more (r := r4) (o := .cells [ci (e1.regs o.guard.toNat).num, ci (e1.regs o.guard.toNat).bad]) n4
    have hBB6 : Le B (B3.set r4 (.cells [ci (e1.regs o.guard.toNat).num, ci (e1.regs o.guard.toNat).bad])) := hBB3.trans (Le.set_new (h5.le.none n4))
    refine (trap43_c hX h6 (hu.mono hBB6) hw he1 _).k ?_
    rintro x H7 ⟨rfl, lab', w, hT⟩
    simp
    have : opE mathM u o e1 = trapE u (e1.regs o.guard.toNat).bad e1 := by simp only [opE]; rw [if_pos ⟨hg, hb⟩]
    rw [this]
    exact ⟨lab', a.vP, w, hT.base hBB6⟩
  by_cases hgz : 0 ≤ o.guard ∧ (e1.regs o.guard.toNat).num = 0
  · obtain ⟨hg, hz⟩ := hgz
    have hb : (e1.regs o.guard.toNat).bad = 0 := Classical.byContradiction fun q => hgb ⟨hg, q⟩
    have hgr := w5 (by omega)
    have hgn : o.guard.toNat < u.regs.toNat := by omega
    have hvl := valsC_len u.regs.toNat e1.regs
    have hvg := valsC_get e1.regs hgn
    simp only [valC] at hvg
    obtain ⟨ha0, ha1⟩ := valsC_at e1.regs hgn
    refine CW.walk hX mixed d30 rfl ?_
    simp [d30, m3, hg, hq, hrr, hvg, ha0, ha1, hb, hz]
    refine ⟨by omega, by omega, fun r4 n4 => ⟨by omega, ?_⟩⟩
    have : opE mathM u o e1 = e1 := by simp only [opE]; rw [if_neg hgb, if_pos ⟨hg, hz⟩]
    rw [this]
    exact ⟨_, a.vP, a.vW, (h5.more n4).base (hBB3.trans (Le.set_new (h5.le.none n4)))⟩
  refine CW.cut (opM B κ a u e1 o r3) ?_ ?_
  · by_cases hg : 0 ≤ o.guard
    · have hb : (e1.regs o.guard.toNat).bad = 0 := Classical.byContradiction fun q => hgb ⟨hg, q⟩
      have hz : ¬ (e1.regs o.guard.toNat).num = 0 := fun q => hgz ⟨hg, q⟩
      have hgr := w5 (by omega)
      have hgn : o.guard.toNat < u.regs.toNat := by omega
      have hvl := valsC_len u.regs.toNat e1.regs
      have hvg := valsC_get e1.regs hgn
      simp only [valC] at hvg
      obtain ⟨ha0, ha1⟩ := valsC_at e1.regs hgn
      refine CW.walk1 hX mixed d30 rfl ?_
      simp [d30, m3, hg, hq, hrr, hvg, ha0, ha1, hb, hz]
      refine ⟨by omega, by omega, fun r4 n4 => ⟨by omega, ?_⟩⟩
      exact ⟨_, _, hBB3.trans (Le.set_new (h5.le.none n4)), h5.more n4, Le.set_new (h5.le.none n4) _ _ b3, by simp, by simp, rfl⟩
    · refine CW.walk1 hX mixed d30 rfl ?_
      simp [m3, hg]
      exact ⟨B3, lab3, hBB3, h5, b3, by simp, by simp, rfl⟩
  have hob : opE mathM u o e1 = bodyE mathM u o e1 := by simp only [opE]; rw [if_neg hgb, if_neg hgz]
  rw [hob]
  clear hob hgb hgz hq hrr m3 b3 h5 hBB3 hu3
  clear hq3 lab3 B3 H5 n3
  rintro ⟨en, ds⟩ H5 ⟨B3, lab3, hBB3, h5, b3, e0, e3, rfl⟩
  dsimp only at e0 e3
  have m3 := h5.le _ _ b3
  simp only [opC] at m3 b3
  refine CW.walk hX mixed d30 rfl ?_
  simp
  intro r5 n5
  have n35 : r3 ≠ r5 := fun k => by rw [← k, m3] at n5; cases n5
  refine CW.walk hX mixed d30 rfl ?_
  simp [e3, n35, m3]
  have hop := operands_c hX o w1
  simp only [opC] at hop
  refine (hop _).k ?_
  rintro x H6 ⟨vl, rfl, hle6, hvl⟩
  simp
  have m5 := hle6 r5 _ set_at
  have h6 := (h5.mono (Le.set_new n5)).mono hle6
  have hr3 := reads3 o
  have hrr := h6.hr
  have hq := h6.hq
  simp only [engC] at hq
  have hne : ∀ {y z}, H5 y = some z → y ≠ r5 := fun hy k => by rw [k, n5] at hy; cases hy
  have hq5 := hne h5.hq
  have hrr5 := hne h5.hr
  refine CW.cut (opL H6 e1 o a.q r3 r5 vl 0) ?_ ?_
  · refine CW.walk hX mixed d30 rfl ?_
    simp
    refine CW.walk1 hX mixed d30 rfl ?_
    simp
    refine CW.loop (opL H6 e1 o a.q r3 r5 vl) ?_ (m := (reads o).length) ⟨0, by omega, by omega, by simp [e0], by simp [e3], by simp, by simp, by simp, rfl, ?_⟩
    rotate_left
    · funext y
      simp only [Hp.set]
      split
      · rename_i k; subst k; rw [m5]; rfl
      · rfl
    rintro j ⟨en, ds⟩ H7 ⟨i, hi, rfl, e0, e3, e5, e6, e7, rfl, rfl⟩
    dsimp only at e0 e3 e5 e6 e7
    rcases hvl with ⟨rfl, hnil⟩ | ⟨rl, cl, csl, rfl, nl, ml, hcl⟩
    · refine CW.walk hX mixed d30 rfl ?_
      have hl0 : (reads o).length = 0 := by rw [hnil]; rfl
      have hi0 : i = 0 := by omega
      subst hi0
      simp [e6, e7]
      exact ⟨0, by omega, by omega, by simp [e0], by simp [e3], by simp [e5], by simp [e6], by simp [e7], rfl, rfl⟩
    · have hl5 : rl ≠ r5 := fun k => by rw [k] at nl; simp [Hp.set] at nl
      refine CW.walk hX mixed d30 rfl ?_
      simp [e6, e7]
      refine ⟨fun hil => ?_, fun _ => ⟨i, by omega, by omega, by simp [e0], by simp [e3], by simp [e5], by simp [e6], by simp [e7], rfl, rfl⟩⟩
      obtain ⟨r, hre⟩ : ∃ r, (reads o)[i] = r := ⟨_, rfl⟩
      have hri : (reads o)[i]? = some r := by rw [List.getElem?_eq_getElem hil, hre]
      have hcr := hcl i r hri
      have hr0 := w3 r (reads_all (List.mem_of_getElem? hri))
      have hrn : r.toNat < u.regs.toNat := by omega
      have hvl := valsC_len u.regs.toNat e1.regs
      have hvg := valsC_get e1.regs hrn
      simp only [valC] at hvg
      have hxl : (xC e1 o i).length = 6 := by simp [xC, valsC_len]
      have hset : (xC e1 o i).take (i * 2) ++ (ci (e1.regs r.toNat).num :: ci (e1.regs r.toNat).bad :: (xC e1 o i).drop (i * 2 + 2)) = xC e1 o (i + 1) := by
        have := valsC_set (n := 3) (i := i) (fun j => if j < i then opnd e1 o j else v0) (e1.regs r.toNat) (by omega)
        simp only [valC, List.cons_append, List.nil_append] at this
        simp only [xC]
        rw [this]
        congr 1
        funext j
        simp only [fset]
        split
        · rename_i k; subst k; rw [if_pos (by omega)]; simp only [opnd, hri]
        · rename_i k
          by_cases h1 : j < i
          · rw [if_pos h1, if_pos (by omega)]
          · rw [if_neg h1, if_neg (by omega)]
      refine CW.walk hX mixed d30 rfl ?_
      simp [d30, e0, e5, e6, e7, hq, hq5, hrr, hrr5, ml, hl5, hil, hcr, hr0.1, hvg]
      refine ⟨by omega, by omega, by omega, by omega, by omega, ?_⟩
      refine CW.walk1 hX mixed d30 rfl ?_
      simp [e7]
      refine ⟨(reads o).length - (i + 1), by omega, i + 1, by omega, rfl, by simp [e0], by simp [e3], by simp [e5], by simp [e6], by simp; rw [wrapI (by omega) (by omega)], rfl, ?_⟩
      rw [← hset]
  clear e0 e3
  rintro ⟨en, ds⟩ H7 ⟨i, hi, hj, e0, e3, e5, e6, e7, rfl, rfl⟩
  dsimp only at e0 e3 e5
  have hil : i = (reads o).length := by omega
  have hxC : xC e1 o i = valsC 3 (opnd e1 o) := by
    simp only [xC]
    congr 1
    funext j
    by_cases hj : j < i
    · rw [if_pos hj]
    · rw [if_neg hj]
      simp only [opnd]
      rw [List.getElem?_eq_none (by omega)]
  rw [hxC]
  have h8 := ((h5.more (o := .cells [ci 0, ci 0, ci 0, ci 0, ci 0, ci 0]) n5).mono hle6).setb (x := r5) (by rw [set_at]; simp) (.cells (valsC 3 (opnd e1 o)))
  have m5 : (H6.set r5 (.cells (valsC 3 (opnd e1 o)))) r5 = some (.cells [ci (opnd e1 o 0).num, ci (opnd e1 o 0).bad, ci (opnd e1 o 1).num, ci (opnd e1 o 1).bad, ci (opnd e1 o 2).num, ci (opnd e1 o 2).bad]) := set_at
  have m3 := (Le.set_new n5).trans hle6 _ _ m3
  have m3 : (H6.set r5 (.cells (valsC 3 (opnd e1 o)))) r3 = some (.cells [ci o.kind, ci o.dst, ci o.a, ci o.b, ci o.c, ci o.n, ci o.guard]) := by rw [hset_ne n35]; exact m3
  have hBB8 : Le B ((B3.set r5 (.cells [ci 0, ci 0, ci 0, ci 0, ci 0, ci 0])).set r5 (.cells (valsC 3 (opnd e1 o)))) := by
    have hb5 := hBB3.none (h5.le.none n5)
    exact (hBB3.put hb5).put hb5
  generalize (B3.set r5 (.cells [ci 0, ci 0, ci 0, ci 0, ci 0, ci 0])).set r5 (.cells (valsC 3 (opnd e1 o))) = B8 at h8 hBB8
  generalize H6.set r5 (.cells (valsC 3 (opnd e1 o))) = H8 at h8 m5 m3 ⊢
  generalize fset lab3 r5 0 = lab8 at h8
  clear hq hrr hvl h5 h6 hle6 hq5 hrr5 hxC
  have hq := h8.hq
  have hrr := h8.hr
  simp only [engC] at hq
  by_cases hd : isDo o.kind = true
  · have hbo : bodyE mathM u o e1 = (if (doV mathM o (opnd e1 o 0) (opnd e1 o 1) (opnd e1 o 2)).2 ≠ 0 then trapE u (doV mathM o (opnd e1 o 0) (opnd e1 o 1) (opnd e1 o 2)).2 e1 else { e1 with regs := fset e1.regs o.dst.toNat (doV mathM o (opnd e1 o 0) (opnd e1 o 1) (opnd e1 o 2)).1 }) := by simp only [bodyE]; rw [if_pos hd]
    refine CW.walk hX mixed d30 rfl ?_
    simp [e3, m3]
    refine (hasDo_c hX _ _).k ?_
    rintro x H9 ⟨rfl, rfl⟩
    simp [d30, hd, e0, e3, e5, m3, m5]
    have hdo := do_c hX o (opnd e1 o 0) (opnd e1 o 1) (opnd e1 o 2) H9
    simp only [opC, valC] at hdo
    refine hdo.k ?_
    rintro x H10 ⟨rfl, rfl⟩
    simp
    intro r8 n8
    rw [hbo]
    generalize doV mathM o (opnd e1 o 0) (opnd e1 o 1) (opnd e1 o 2) = rv
    have hne8 : ∀ {y z}, H10 y = some z → y ≠ r8 := fun hy k => by rw [k, n8] at hy; cases hy
    have hq8 := hne8 h8.hq
    have hr8 := hne8 h8.hr
    have h38 := hne8 m3
    have h9 := h8.more (r := r8) (o := .cells (valC rv.1)) n8
    have hBB9 : Le B (B8.set r8 (.cells (valC rv.1))) := hBB8.trans (Le.set_new (h8.le.none n8))
    simp only [valC] at h9 hBB9
    by_cases ht : rv.2 = 0
    · have hw4 := w4 (isDo_bit w1 hd)
      have hdn : o.dst.toNat < u.regs.toNat := by omega
      have hvl := valsC_len u.regs.toNat e1.regs
      simp [d30, ht, e0, e3, m3, hq, hrr, hq8, hr8, h38, hw4.1]
      refine ⟨by omega, by omega, ?_⟩
      have hset := valsC_set e1.regs rv.1 hdn
      simp only [valC, List.cons_append, List.nil_append] at hset
      rw [hset]
      exact ⟨_, a.vP, a.vW, (h9.setr _).base hBB9⟩
    · simp [ht, e0]
      refine (trap43_c hX h9 (hu.mono hBB9) hw he1 rv.2).k ?_
      rintro x H11 ⟨rfl, lab', w, hT⟩
      simp [ht]
      exact ⟨lab', a.vP, w, hT.base hBB9⟩
  have hd' : isDo o.kind = false := by simpa using hd
  have hbo : bodyE mathM u o e1 = memE u o e1 := by simp only [bodyE]; rw [if_neg hd]
  rw [hbo]
  refine CW.walk hX mixed d30 rfl ?_
  simp [e3, m3]
  refine (hasDo_c hX _ _).k ?_
  rintro x H9 ⟨rfl, rfl⟩
  simp [hd']
  by_cases h18 : o.kind = 18
  · have hw4 := w4 (by rw [h18]; rfl)
    have hw7 := w7 (.inl h18)
    have hdn : o.dst.toNat < u.regs.toNat := by omega
    have hnn : o.n.toNat < u.spill.toNat := by omega
    have hkk := h8.hk
    have hvl := valsC_len u.regs.toNat e1.regs
    have hkl := valsC_len u.spill.toNat e1.kept
    have hkg := valsC_get e1.kept hnn
    simp only [valC] at hkg
    refine CW.walk hX mixed d30 rfl ?_
    simp [d30, h18, e0, e3, m3, hq, hrr, hkk, hw4.1, hw7.1, hkg]
    refine ⟨by omega, by omega, by omega, by omega, by omega, ?_⟩
    have hset := valsC_set e1.regs (e1.kept o.n.toNat) hdn
    simp only [valC, List.cons_append, List.nil_append] at hset
    rw [hset]
    have hm : memE u o e1 = { e1 with regs := fset e1.regs o.dst.toNat (e1.kept o.n.toNat) } := by simp only [memE]; rw [if_pos h18]
    rw [hm]
    exact ⟨_, a.vP, a.vW, (h8.setr _).base hBB8⟩
  by_cases h19 : o.kind = 19
  · have hw7 := w7 (.inr h19)
    have hnn : o.n.toNat < u.spill.toNat := by omega
    have hkk := h8.hk
    have hkl := valsC_len u.spill.toNat e1.kept
    refine CW.walk hX mixed d30 rfl ?_
    simp [d30, h19, e0, e3, e5, m3, m5, hq, hkk, hw7.1]
    refine ⟨by omega, by omega, ?_⟩
    have hset := valsC_set e1.kept (opnd e1 o 0) hnn
    simp only [valC, List.cons_append, List.nil_append] at hset
    rw [hset]
    have hm : memE u o e1 = { e1 with kept := fset e1.kept o.n.toNat (opnd e1 o 0) } := by simp only [memE]; rw [if_neg h18, if_pos h19]
    rw [hm]
    exact ⟨_, a.vP, a.vW, (h8.setk _).base hBB8⟩
  refine CW.walk hX mixed d30 rfl ?_
  simp [e3, m3, h18, h19, decide_beq]
  refine CW.walk hX mixed d30 rfl ?_
  simp [e5, m5]
  refine CW.cut (opB a.q r3 r5 H9 (bad2 (opnd e1 o 0) (opnd e1 o 1))) ?_ ?_
  · refine CW.walk1 hX mixed d30 rfl ?_
    by_cases hb : (opnd e1 o 0).bad = 0
    · simp [hb, e5, m5]
      exact ⟨by simp [e0], by simp [e3], by simp [e5], by simp [bad2, hb], rfl, rfl⟩
    · simp [hb]
      exact ⟨by simp [e0], by simp [e3], by simp [e5], by simp [bad2, hb], rfl, rfl⟩
  clear e0 e3 e5
  rintro ⟨en, ds⟩ H9 ⟨e0, e3, e5, e10, rfl, rfl⟩
  dsimp only at e0 e3 e5 e10
  have hq := h8.hq
  simp only [engC] at hq
  have hbe : badE o e1 (opnd e1 o 0) (opnd e1 o 1) = if isArr o.kind && decide (bad2 (opnd e1 o 0) (opnd e1 o 1) = 0) && (decide ((opnd e1 o 0).num < 0) || decide (((e1.cells o.n.toNat).length : Int) ≤ (opnd e1 o 0).num)) then -1 else bad2 (opnd e1 o 0) (opnd e1 o 1) := rfl
  have hta : isArr o.kind = true → 0 ≤ o.n ∧ o.n < u.sizes.length := fun ha => by
    have hk : o.kind = 16 ∨ o.kind = 17 ∨ o.kind = 25 := by simp only [isArr, Bool.or_eq_true, decide_eq_true_eq] at ha; omega
    have ht : topOf u o.kind = u.sizes.length := by rcases hk with k | k | k <;> rw [k] <;> rfl
    have := w9 (by rw [ht]; omega)
    rw [ht] at this
    exact this
  refine CW.cut (opB a.q r3 r5 H9 (badE o e1 (opnd e1 o 0) (opnd e1 o 1))) ?_ ?_
  · rw [hbe]
    generalize hbb : bad2 (opnd e1 o 0) (opnd e1 o 1) = bb at e10 ⊢
    by_cases ha : isArr o.kind = true
    · have h9 := hta ha
      by_cases hb : bb = 0
      · obtain ⟨rC, cC, cs, hvC, mC, hcC, mκ⟩ := h8.arr (i := o.n.toNat) (by omega)
        have hnn : o.n.toNat < u.sizes.length := by omega
        rw [hvC] at hq
        by_cases hn : (opnd e1 o 0).num < 0
        · refine CW.walk1 hX mixed d30 rfl ?_
          simp [d30, e3, m3]
          refine (isArr_c hX _ _).k ?_
          rintro x H10 ⟨rfl, rfl⟩
          simp [d30, ha, hb, e10, e5, m5, hn]
          exact .of (by simp [e0]) (by simp [e3]) (by simp [e5]) (by simp) rfl rfl
        · by_cases hl : ((e1.cells o.n.toNat).length : Int) ≤ (opnd e1 o 0).num
          · refine CW.walk1 hX mixed d30 rfl ?_
            simp [d30, e3, m3]
            refine (isArr_c hX _ _).k ?_
            rintro x H10 ⟨rfl, rfl⟩
            simp [d30, ha, hb, e10, e5, e0, e3, m3, m5, hn, hq, mC, hcC, h9.1, h9.2, hnn, hl]
            exact .of (by simp [e0]) (by simp [e3]) (by simp [e5]) (by simp) rfl rfl
          · refine CW.walk1 hX mixed d30 rfl ?_
            simp [d30, e3, m3]
            refine (isArr_c hX _ _).k ?_
            rintro x H10 ⟨rfl, rfl⟩
            simp [d30, ha, hb, e10, e5, e0, e3, m3, m5, hn, hq, mC, hcC, h9.1, h9.2, hnn, hl]
            exact .of (by simp [e0]) (by simp [e3]) (by simp [e5]) (by simp [e10, hb]) rfl rfl
      · refine CW.walk1 hX mixed d30 rfl ?_
        simp [d30, e3, m3]
        refine (isArr_c hX _ _).k ?_
        rintro x H10 ⟨rfl, rfl⟩
        simp [d30, ha, hb, e10]
        exact .of (by simp [e0]) (by simp [e3]) (by simp [e5]) (by simp [e10]) rfl rfl
    · refine CW.walk1 hX mixed d30 rfl ?_
      simp [d30, e3, m3]
      refine (isArr_c hX _ _).k ?_
      rintro x H10 ⟨rfl, rfl⟩
      simp [d30, ha, e10]
      exact .of (by simp [e0]) (by simp [e3]) (by simp [e5]) (by simp [e10]) rfl rfl
  clear e0 e3 e5 e10
  rintro ⟨en, ds⟩ H9 ⟨e0, e3, e5, e10, rfl, rfl⟩
  dsimp only at e0 e3 e5 e10
  have hin : isArr o.kind = true → badE o e1 (opnd e1 o 0) (opnd e1 o 1) = 0 → 0 ≤ (opnd e1 o 0).num ∧ (opnd e1 o 0).num < (e1.cells o.n.toNat).length := fun ha h0 => by
    rw [hbe, ha] at h0
    by_cases h1 : bad2 (opnd e1 o 0) (opnd e1 o 1) = 0
    · by_cases h2 : (opnd e1 o 0).num < 0
      · simp [h1, h2] at h0
      · by_cases h3 : ((e1.cells o.n.toNat).length : Int) ≤ (opnd e1 o 0).num
        · simp [h1, h3] at h0
        · omega
    · simp [h1] at h0
  have hm : memE u o e1 = (if o.kind = 25 ∧ badE o e1 (opnd e1 o 0) (opnd e1 o 1) ≠ 0 then { e1 with regs := fset e1.regs o.dst.toNat ⟨0, badE o e1 (opnd e1 o 0) (opnd e1 o 1)⟩ }
    else if badE o e1 (opnd e1 o 0) (opnd e1 o 1) ≠ 0 then trapE u (badE o e1 (opnd e1 o 0) (opnd e1 o 1)) e1
    else if o.kind = 16 ∨ o.kind = 25 then { e1 with regs := fset e1.regs o.dst.toNat ⟨(e1.cells o.n.toNat).getD (opnd e1 o 0).num.toNat 0, 0⟩ }
    else if o.kind = 17 then { e1 with cells := fset e1.cells o.n.toNat ((e1.cells o.n.toNat).set (opnd e1 o 0).num.toNat (opnd e1 o 1).num) }
    else if o.kind = 20 then { e1 with out := { e1.out with prints := e1.out.prints ++ [(opnd e1 o 0).num] } }
    else if o.kind = 21 ∧ (opnd e1 o 0).num ≠ 0 then enterE o.n.toNat e1
    else e1) := by simp only [memE]; rw [if_neg h18, if_neg h19]
  clear hbe
  generalize badE o e1 (opnd e1 o 0) (opnd e1 o 1) = bad at e10 hin hm
  rw [hm]
  clear hm
  have hk6 : o.kind = 16 ∨ o.kind = 17 ∨ o.kind = 20 ∨ o.kind = 21 ∨ o.kind = 22 ∨ o.kind = 25 := by
    have := w2
    simp only [isDo, Bool.or_eq_false_iff, Bool.and_eq_false_iff, decide_eq_false_iff_not] at hd'
    omega
  have hvl := valsC_len u.regs.toNat e1.regs
  have hregs : ∀ w, uBit o.kind 0 = true → (0 ≤ o.dst ∧ o.dst.toNat < u.regs.toNat ∧ o.dst.toNat * 2 + 2 ≤ (valsC u.regs.toNat e1.regs).length ∧ o.dst < u.regs ∧ (valsC u.regs.toNat e1.regs).take (o.dst.toNat * 2) ++ (ci w.num :: ci w.bad :: (valsC u.regs.toNat e1.regs).drop (o.dst.toNat * 2 + 2)) = valsC u.regs.toNat (fset e1.regs o.dst.toNat w)) := fun w hb => by
    have hw4 := w4 hb
    have hdn : o.dst.toNat < u.regs.toNat := by omega
    have hset := valsC_set e1.regs w hdn
    simp only [valC, List.cons_append, List.nil_append] at hset
    exact ⟨hw4.1, hdn, by rw [hvl]; omega, hw4.2, hset⟩
  by_cases h25 : o.kind = 25 ∧ bad ≠ 0
  · rw [if_pos h25]
    obtain ⟨k1, k2, k3, k4, k5⟩ := hregs ⟨0, bad⟩ (by rw [h25.1]; rfl)
    refine CW.walk hX mixed d30 rfl ?_
    simp [d30, e0, e3, e10, m3, h25.1, h25.2, hq, hrr, k1, k2, cfill]
    refine ⟨by omega, k3, ?_⟩
    simp only [h25.1] at k5
    rw [k5]
    exact ⟨_, a.vP, a.vW, (h8.setr _).base hBB8⟩
  rw [if_neg h25]
  have h25' : o.kind = 25 → bad = 0 := fun k => Classical.byContradiction fun q => h25 ⟨k, q⟩
  refine CW.cut (opB a.q r3 r5 H9 bad) ?_ ?_
  · refine CW.walk1 hX mixed d30 rfl ?_
    by_cases hk25 : o.kind = 25
    · simp [e3, m3, hk25, e10, h25' hk25]
      exact .of (by simp [e0]) (by simp [e3]) (by simp [e5]) (by simp [e10, h25' hk25]) rfl rfl
    · simp [e3, m3, hk25]
      exact .of (by simp [e0]) (by simp [e3]) (by simp [e5]) (by simp [e10]) rfl rfl
  clear e0 e3 e5 e10
  rintro ⟨en, ds⟩ H9 ⟨e0, e3, e5, e10, rfl, rfl⟩
  dsimp only at e0 e3 e5 e10
  by_cases hb : bad = 0
  rotate_left
  · refine CW.walk hX mixed d30 rfl ?_
    simp [e10, hb, e0]
    refine (trap43_c hX h8 (hu.mono hBB8) hw he1 bad).k ?_
    rintro x H11 ⟨rfl, lab', w, hT⟩
    simp [hb]
    exact ⟨lab', a.vP, w, hT.base hBB8⟩
  subst hb
  rw [if_neg (by simp)]
  refine CW.walk hX mixed d30 rfl ?_
  simp [e10]
  refine CW.walk hX mixed d30 rfl ?_
  simp [e3, m3]
  have hload : isArr o.kind = true → 0 ≤ o.n ∧ o.n < u.sizes.length ∧ o.n.toNat < u.sizes.length ∧ 0 ≤ (opnd e1 o 0).num ∧ (opnd e1 o 0).num < (e1.cells o.n.toNat).length ∧ (opnd e1 o 0).num.toNat < (e1.cells o.n.toNat).length := fun ha => by
    have := hta ha
    have := hin ha rfl
    omega
  by_cases hk1 : o.kind = 16 ∨ o.kind = 25
  · rw [if_pos hk1]
    have ha : isArr o.kind = true := by rcases hk1 with k | k <;> rw [k] <;> rfl
    obtain ⟨k1, k2, k3, k4, k5⟩ := hregs ⟨(e1.cells o.n.toNat).getD (opnd e1 o 0).num.toNat 0, 0⟩ (by rcases hk1 with k | k <;> rw [k] <;> rfl)
    obtain ⟨l1, l2, l3, l4, l5, l6⟩ := hload ha
    obtain ⟨rC, cC, cs, hvC, mC, hcC, mκ⟩ := h8.arr l3
    rw [hvC] at hq
    refine CW.walk1 hX mixed d30 rfl ?_
    rcases hk1 with hk | hk
    · simp [d30, e0, e3, e5, m3, m5, hk, hq, hrr, k1, k2, l1, l2, l3, l4, l5, l6, mC, hcC, mκ, cfill]
      refine ⟨by omega, k3, ?_⟩
      simp only [hk, List.getD_eq_getElem?_getD, List.getElem?_eq_getElem l6, Option.getD_some] at k5
      rw [k5]
      exact ⟨_, a.vP, a.vW, (h8.setr _).base hBB8⟩
    · simp [d30, e0, e3, e5, m3, m5, hk, hq, hrr, k1, k2, l1, l2, l3, l4, l5, l6, mC, hcC, mκ, cfill]
      refine ⟨by omega, k3, ?_⟩
      simp only [hk, List.getD_eq_getElem?_getD, List.getElem?_eq_getElem l6, Option.getD_some] at k5
      rw [k5]
      exact ⟨_, a.vP, a.vW, (h8.setr _).base hBB8⟩
  rw [if_neg hk1]
  by_cases hk17 : o.kind = 17
  · rw [if_pos hk17]
    have ha : isArr o.kind = true := by rw [hk17]; rfl
    obtain ⟨l1, l2, l3, l4, l5, l6⟩ := hload ha
    obtain ⟨rC, cC, cs, hvC, mC, hcC, mκ⟩ := h8.arr l3
    rw [hvC] at hq
    refine CW.walk1 hX mixed d30 rfl ?_
    simp [d30, e0, e3, e5, m3, m5, hk17, hq, hrr, l1, l2, l3, l4, l5, l6, mC, hcC, mκ, cfill]
    refine ⟨by omega, ?_⟩
    have hset : List.take (opnd e1 o 0).num.toNat (List.map (fun n => ci n) (e1.cells o.n.toNat)) ++ ci (opnd e1 o 1).num :: List.drop ((opnd e1 o 0).num.toNat + 1) (List.map (fun n => ci n) (e1.cells o.n.toNat)) = ((e1.cells o.n.toNat).set (opnd e1 o 0).num.toNat (opnd e1 o 1).num).map fun n => ci n := by
      rw [List.map_set, List.set_eq_take_append_cons_drop, if_pos (by simpa using l6)]
    rw [hset]
    exact ⟨_, a.vP, a.vW, (h8.sets l3 _ (by simp)).base hBB8⟩
  rw [if_neg hk17]
  by_cases hk20 : o.kind = 20
  · rw [if_pos hk20]
    refine CW.walk1 hX mixed d30 rfl ?_
    have hP := h8.hp
    have fin : ∀ r, H9 r = none → ∀ v' H4, Own B8 H4 v' 1 (ints (e1.out.prints ++ [(opnd e1 o 0).num])) → (∀ q o', (H9.set r (.cells [ci (opnd e1 o 0).num])) q = some o' → (∀ n c, a.vP ≠ .ref q 0 n c) → H4 q = some o' ∧ ∀ n c, v' ≠ .ref q 0 n c) →
        H4 a.q = some (.cells (engC a u e1)) ∧ ∃ lab' w, EH B (H4.set a.q (.cells (engC { a with vP := w } u { e1 with out := { e1.out with prints := e1.out.prints ++ [(opnd e1 o 0).num] } }))) lab' κ { a with vP := w } u { e1 with out := { e1.out with prints := e1.out.prints ++ [(opnd e1 o 0).num] } } ∧ w = v' := fun r hr v' H4 how4 kp => by
      have hs : ∀ q o', H9 q = some o' → (H9.set r (.cells [ci (opnd e1 o 0).num])) q = some o' := fun q o' hq => Le.set_new hr q o' hq
      refine ⟨(kp a.q _ (hs _ _ h8.hq) fun n c k => ?_).1, _, v', (h8.setp (e' := { e1 with out := { e1.out with prints := e1.out.prints ++ [(opnd e1 o 0).num] } }) how4 rfl rfl rfl (fun q o' hq hn => kp q o' (hs q o' hq) hn)).base hBB8, rfl⟩
      have := h8.lP _ _ _ _ k
      rw [h8.lq] at this
      cases this
    rcases hP.2.2 with ⟨hv, hx⟩ | ⟨r, c, ex, hv, _, _, _⟩
    · simp [d30, e0, e3, e5, m3, m5, hk20, hq, hv, cfill, -vcAppend]
      intro r hr
      have w1' : Own B8 H9 .nilsl 1 (ints e1.out.prints) := by rw [← hv]; exact hP
      have hL : e1.out.prints = [] := by simpa [ints] using hx
      refine (w1'.more hr).append2 (ys := [[ci (opnd e1 o 0).num]]) (by simp) (by simp [hL, ints]) (src_one set_at rfl) fun v' H4 how4 kp => ?_
      obtain ⟨mq, lab', w, hE, rfl⟩ := fin r hr v' H4 (by simpa [ints] using how4) fun q o hq hn => kp q o hq fun n c => by rw [← hv]; exact hn n c
      have hvs : w.stor = true ∧ w.cells = [w] := by
        obtain ⟨_, _, ⟨rfl, _⟩ | ⟨q, c, ex, rfl, _⟩⟩ := how4 <;> exact ⟨rfl, rfl⟩
      simp only [CV.stor, CV.cells] at hvs
      simp only [engC] at mq
      simp [mq, hvs, e0]
      exact ⟨lab', w, a.vW, hE⟩
    · simp [d30, e0, e3, e5, m3, m5, hk20, hq, hv, cfill, -vcAppend]
      intro r1 hr
      have w1' : Own B8 H9 (.ref r 0 (ints e1.out.prints).length c) 1 (ints e1.out.prints) := by rw [← hv]; exact hP
      refine (w1'.more hr).append2 (ys := [[ci (opnd e1 o 0).num]]) (by simp) (by simp [ints]; omega) (src_one set_at rfl) fun v' H4 how4 kp => ?_
      obtain ⟨mq, lab', w, hE, rfl⟩ := fin r1 hr v' H4 (by simpa [ints] using how4) fun q o hq hn => kp q o hq fun n c => by rw [← hv]; exact hn n c
      have hvs : w.stor = true ∧ w.cells = [w] := by
        obtain ⟨_, _, ⟨rfl, _⟩ | ⟨q, c, ex, rfl, _⟩⟩ := how4 <;> exact ⟨rfl, rfl⟩
      simp only [CV.stor, CV.cells] at hvs
      simp only [engC] at mq
      simp [mq, hvs, e0]
      exact ⟨lab', w, a.vW, hE⟩
  rw [if_neg hk20]
  by_cases hk21 : o.kind = 21
  · refine CW.walk1 hX mixed d30 rfl ?_
    by_cases hz : (opnd e1 o 0).num = 0
    · rw [if_neg (by simp [hz])]
      simp [d30, e0, e3, e5, m3, m5, hk21, hz]
      exact ⟨_, a.vP, a.vW, h8.base hBB8⟩
    · rw [if_pos ⟨hk21, hz⟩]
      have h6 := w6 hk21
      obtain ⟨tb, htb⟩ := Int.eq_ofNat_of_zero_le h6.1
      simp [d30, e0, e3, e5, m3, m5, hk21, hz, htb]
      refine (enter29_c hX h8 tb (by omega) f8).k ?_
      rintro x H11 ⟨rfl, lab', w, hE⟩
      simp
      have htn : o.n.toNat = tb := by rw [htb]; rfl
      rw [← htn] at hE
      exact ⟨lab', a.vP, w, hE.base hBB8⟩
  rw [if_neg (by simp [hk21])]
  have hk22 : o.kind = 22 := by omega
  refine CW.walk1 hX mixed d30 rfl ?_
  simp [d30, e3, m3, hk22]
  exact ⟨_, a.vP, a.vW, h8.base hBB8⟩
end Go.Cl
