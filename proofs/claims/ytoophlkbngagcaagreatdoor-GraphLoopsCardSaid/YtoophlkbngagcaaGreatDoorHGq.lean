/- DERIVED HERE. Depth, the reference's Loops, Depth and Reducible. -/
import Derived.Test.YtoophlkbngagcaaGreatDoorHRd
import Derived.Test.YtoophlkbngagcaaGreatDoorHBx
import Derived.Test.YtoophlkbngagcaaGreatDoorHC
/- graph.Depth. -/
set_option linter.unusedSimpArgs false
set_option linter.unusedVariables false
namespace Go.Cl.Gd
open Go.Proofs
variable {W : World} {G : Nat → CV}
set_option maxRecDepth 8000
set_option maxHeartbeats 1000000
/-- In how many of the loops a block is. -/
def depP (ls : List (Nat × List Nat × List Nat)) (b : Nat) : Nat := (ls.filter fun l => decide (b ∈ l.2.2)).length
theorem depP_snoc {ls : List (Nat × List Nat × List Nat)} {l : Nat × List Nat × List Nat} {b : Nat} : depP (ls ++ [l]) b = depP ls b + (if b ∈ l.2.2 then 1 else 0) := by
  rw [depP, List.filter_append, List.length_append]
  by_cases h : b ∈ l.2.2 <;> simp [h, depP]
theorem depP_len {ls : List (Nat × List Nat × List Nat)} {b : Nat} : depP ls b ≤ ls.length := List.length_filter_le _ _
/-- A list of numbers, told place by place. -/
def tblL (n : Nat) (f : Nat → Nat) : List Int := (List.range n).map fun b => (f b : Int)
theorem genC_congrQ {n : Nat} {f g : Nat → Int} (h : ∀ x, x < n → f x = g x) : genC n f = genC n g := by
  apply List.ext_getElem?
  intro j
  by_cases hjn : j < n
  · rw [genC_get hjn, genC_get hjn, h j hjn]
  · rw [List.getElem?_eq_none (by rw [genC_len]; omega), List.getElem?_eq_none (by rw [genC_len]; omega)]
theorem genC_slF {H : Hp} {r n : Nat} {f : Nat → Nat} (h : H r = some (.cells (genC n fun b => (f b : Int)))) : SlF H (.ref r 0 n n) (tblL n f) := by
  have hl : (tblL n f).length = n := by simp [tblL]
  refine .inr ⟨r, 0, _, by rw [hl]; rfl, h, fun k x hk => ?_⟩
  simp only [tblL, List.getElem?_map, Option.map_eq_some_iff] at hk
  obtain ⟨y, hy, rfl⟩ := hk
  have hkn : k < n := by have := (List.getElem?_eq_some_iff.1 hy).1; simpa using this
  rw [List.getElem?_range hkn] at hy
  injection hy with hy
  subst hy
  exact genC_get hkn
/-- What graph.Depth answers. -/
structure DpA (u : UUnit) (x : CE) (H' : Hp) : Prop where
  er : errU u ≠ 0 → x = .ret (.tuple [.nilsl, ci (errU u)])
  ok : errU u = 0 → ∃ p c v, PLeast (opsOf u) p c ∧ x = .ret (.tuple [v, ci 0]) ∧ SlF H' v (tblL u.blocks.length (depP (loopsP (nextN u p) u.blocks.length u.blocks.length)))
structure dpI (K : Hp) (rr n : Nat) (ls : List (Nat × List Nat × List Nat)) (vL : CV) (d m : Nat) (s' : CA) (H' : Hp) : Prop where
  ex : ∃ (i i26 : Nat) (K' : Hp), m = ls.length - i ∧ i ≤ ls.length ∧ i26 + d = i ∧ s'.env 6 = .ref rr 0 n n ∧ s'.env 24 = vL ∧ s'.env 25 = .int .i64 ls.length ∧ s'.env 26 = .int .i64 i26 ∧ s'.ds = [] ∧ Le K K' ∧ K' rr = none ∧ H' = K'.set rr (.cells (genC n fun b => (depP (ls.take i) b : Int)))
/-- The counts, while a loop's blocks are counted. -/
def depQ (ls : List (Nat × List Nat × List Nat)) (i : Nat) (Bl : List Nat) (j b : Nat) : Nat := depP (ls.take i) b + (if b ∈ Bl.take j then 1 else 0)
structure dpJ (K' : Hp) (rr n : Nat) (ls : List (Nat × List Nat × List Nat)) (vL vb : CV) (i : Nat) (Bl : List Nat) (d m : Nat) (s' : CA) (H' : Hp) : Prop where
  ex : ∃ (j j33 : Nat), m = Bl.length - j ∧ j ≤ Bl.length ∧ j33 + d = j ∧ s'.env 6 = .ref rr 0 n n ∧ s'.env 24 = vL ∧ s'.env 25 = .int .i64 ls.length ∧ s'.env 26 = .int .i64 i ∧ s'.env 31 = vb ∧ s'.env 32 = .int .i64 Bl.length ∧ s'.env 33 = .int .i64 j33 ∧ s'.ds = [] ∧ H' = K'.set rr (.cells (genC n fun b => (depQ ls i Bl j b : Int)))
structure dpM (K : Hp) (rr n : Nat) (ls : List (Nat × List Nat × List Nat)) (s' : CA) (H' : Hp) : Prop where
  ex : ∃ (K1 : Hp) (vL : CV), s'.env 6 = .ref rr 0 n n ∧ s'.env 24 = vL ∧ s'.env 25 = .int .i64 ls.length ∧ s'.env 26 = ci 0 ∧ s'.ds = [] ∧ K1 rr = none ∧ LpsR K1 vL ls ∧ H' = K1.set rr (.cells (genC n fun b => (depP [] b : Int)))
theorem depth_c (hX : CxOk (cx W G)) (hG : G 0 = .iptr formsC) (u : UUnit) (hu : UOk u) (hn : u.blocks.length ≤ 80) (H : Hp) : CC Tryz.prog W 21 [.agg (unitC u)] H fun x H' => DpA u x H' := by
  refine CC.of_cw hX Tryz.func21 rfl rfl (Nat.le_of_ble_eq_true rfl) ?_
  refine CW.walk hX mixed d21 rfl ?_
  simp
  intro q1 hq1
  by_cases he : errU u = 0
  rotate_left
  · have hc := gof_e hX hG u hu he (H.set q1 (.cells (unitC u)))
    refine CW.walk hX mixed d21 rfl ?_
    simp [unitC]
    simp only [unitC] at hc
    refine hc.k ?_
    rintro x H2 ⟨rfl, rfl⟩
    simp
    refine CW.walk hX mixed d21 rfl ?_
    simp [he]
    exact ⟨fun _ => rfl, fun q => absurd q he⟩
  have hw : wfU u = true := errU_wf.1 he
  have h0 : 0 < u.blocks.length := by obtain ⟨f1, f2, f3, f4, f5, f6, f7, f8, f9, f10, f11⟩ := wfU_facts hw; omega
  have hc := gof_c hX hG u hw (H.set q1 (.cells (unitC u)))
  have m1 : (H.set q1 (.cells (unitC u))) q1 = some (.cells (unitC u)) := set_at
  refine CW.walk hX mixed d21 rfl ?_
  simp [unitC]
  simp only [unitC] at hc m1
  refine hc.k ?_
  rintro x K ⟨gp, p, c, rn, rb, ro, ri, rk, co, ns, bs, ex, I, rfl, hp, h⟩
  have m1K := h.le _ _ m1
  simp
  refine CW.walk hX mixed d21 rfl ?_
  simp
  refine CW.walk hX mixed d21 rfl ?_
  simp [m1K]
  refine ⟨by omega, by omega, fun rr hrr => ?_⟩
  have hz : List.map (fun i => [CV.int .i64 0][i % 1]?.getD CV.any) (List.range u.blocks.length) = genC u.blocks.length fun b => (depP [] b : Int) := by
    apply List.ext_getElem?
    intro j
    by_cases hjn : j < u.blocks.length
    · rw [genC_get hjn]; simp [hjn, Nat.mod_one, depP]
    · rw [List.getElem?_eq_none (by simp; omega), List.getElem?_eq_none (by rw [genC_len]; omega)]
  rw [hz]
  have hK1 : (hole (K.set rr (.cells (genC u.blocks.length fun b => (depP [] b : Int)))) rr) = K := by
    funext i
    simp only [hole, Hp.set]
    by_cases hi : i = rr
    · subst hi; simp [hrr]
    · simp [hi]
  have hfr := (loopsM_c hX h nextN_lt h0 hn).frame (r := rr) (ob := .cells (genC u.blocks.length fun b => (depP [] b : Int))) hrr
  have hloops : ∀ l ∈ loopsP (nextN u p) u.blocks.length u.blocks.length, l.2.2.Nodup ∧ (∀ x ∈ l.2.2, x < u.blocks.length) ∧ l.2.2.length ≤ u.blocks.length := fun l hl => by
    obtain ⟨_, h2, _⟩ := loopsP_mem hl
    rw [h2]
    exact ⟨loopB_nodup, fun x hx => (loopB_mem.1 hx).1, loopB_len⟩
  have hlen := loopsP_len (N := nextN u p) (n := u.blocks.length) (m := u.blocks.length)
  have hfin : ∀ (H' : Hp) (v : CV), SlF H' v (tblL u.blocks.length (depP (loopsP (nextN u p) u.blocks.length u.blocks.length))) → DpA u (.ret (.tuple [v, ci 0])) H' := fun H' v h => ⟨fun q => absurd he q, fun _ => ⟨p, c, v, hp, rfl, h⟩⟩
  refine CW.cut (fun s' H' => s'.env 6 = .ref rr 0 u.blocks.length u.blocks.length ∧ s'.ds = [] ∧ H' rr = some (.cells (genC u.blocks.length fun b => (depP (loopsP (nextN u p) u.blocks.length u.blocks.length) b : Int)))) ?_ ?_
  rotate_left
  · rintro ⟨e, ds⟩ H2 ⟨e6, rfl, hr⟩
    dsimp only at e6
    refine CW.walk hX mixed d21 rfl ?_
    simp [e6]
    refine CW.walk1 hX mixed d21 rfl ?_
    simp
    exact hfin _ _ (genC_slF hr)
  generalize loopsP (nextN u p) u.blocks.length u.blocks.length = ls at hfr hloops hlen
  refine CW.cut (dpM K rr u.blocks.length ls) ?_ ?_
  · refine CW.walk1 hX mixed d21 rfl ?_
    simp
    refine hfr.k ?_
    rintro x G ⟨K1, hK1r, rfl, vL, rfl, hleK, hL⟩
    rcases id hL with ⟨rfl, hl0⟩ | ⟨r, c2, cs, rfl, _⟩
    · simp
      exact ⟨K1, .nilsl, by simp, by simp, by simp [hl0], by simp, rfl, hK1r, hL, rfl⟩
    · simp
      exact ⟨K1, _, by simp, rfl, by simp, by simp, rfl, hK1r, hL, rfl⟩
  rintro ⟨e, ds⟩ H2 ⟨K1, vL, e6, e24, e25, e26, rfl, hK1, hL, rfl⟩
  dsimp only at e6 e24 e25 e26
  refine CW.block ?_
  refine CW.loop (dpI K1 rr u.blocks.length ls vL 0) ?_ (m := ls.length) ⟨0, 0, K1, rfl, by omega, rfl, by simp [e6], by simp [e24], by simp [e25], by simp [e26], rfl, Le.refl _, hK1, by simp⟩
  clear e6 e24 e25 e26
  rintro m ⟨e, ds⟩ H3 ⟨i, i26, K', rfl, hi, hi26, e6, e24, e25, e26, rfl, hleK', hK', rfl⟩
  obtain rfl : i26 = i := by omega
  dsimp only at e6 e24 e25 e26
  by_cases hil : i26 < ls.length
  rotate_left
  · refine CW.walk hX mixed d21 rfl ?_
    simp [e25, e26, hil]
    refine CW.walk hX mixed d21 rfl ?_
    simp
    exact ⟨by simp [e6], by rw [List.take_of_length_le (by omega)]⟩
  obtain ⟨l, hl⟩ : ∃ l, ls[i26]? = some l := ⟨_, List.getElem?_eq_getElem hil⟩
  obtain ⟨hnd, hbn, hbl⟩ := hloops l (List.mem_of_getElem? hl)
  have hL' := hL.mono hleK'
  obtain ⟨r, c2, cs, vt, vb, rfl, hr, g0, g1, g2, st, sb⟩ := LpsR.get hL' hl
  obtain ⟨ov1, ov2⟩ := SlF.oc st
  obtain ⟨ov3, ov4⟩ := SlF.oc sb
  have nrr : r ≠ rr := fun e => by subst e; rw [hK'] at hr; cases hr
  have hrS : (K'.set rr (.cells (genC u.blocks.length fun b => (depP (ls.take i26) b : Int)))) r = some (.cells cs) := by rw [hset_ne nrr]; exact hr
  have htk3 : (cs.drop (i26 * 3)).take 3 = [ci (l.1 : Int), vt, vb] := by
    apply List.ext_getElem?
    intro j
    rcases j with _ | _ | _ | j
    · rw [List.getElem?_take_of_lt (by omega), List.getElem?_drop]; simpa using g0
    · rw [List.getElem?_take_of_lt (by omega), List.getElem?_drop]; simpa using g1
    · rw [List.getElem?_take_of_lt (by omega), List.getElem?_drop]; simpa using g2
    · rw [List.getElem?_eq_none (by simp; omega), List.getElem?_eq_none (by simp)]
  have hcl : i26 * 3 + 3 ≤ cs.length := by have := (List.getElem?_eq_some_iff.1 g2).1; omega
  refine CW.walk hX mixed d21 rfl ?_
  simp [e25, e26, hil]
  refine CW.walk hX mixed d21 rfl ?_
  simp
  refine CW.cut (dpI K1 rr u.blocks.length ls (.ref r 0 ls.length c2) 1 (ls.length - (i26 + 1))) ?_ ?_
  · refine CW.block ?_
    refine CW.walk hX mixed d21 rfl ?_
    simp [e24, e26, hrS, hil]
    refine ⟨hcl, fun q8 k1 k2 hq8 => ⟨by omega, ?_⟩⟩
    rw [htk3, set_comm (Ne.symm k1)]
    have hle8 : Le K' (K'.set q8 (.cells [ci (l.1 : Int), vt, vb])) := Le.set_new hq8
    have m8 : (K'.set q8 (.cells [ci (l.1 : Int), vt, vb])) q8 = some (.cells [ci (l.1 : Int), vt, vb]) := set_at
    have k8r : (K'.set q8 (.cells [ci (l.1 : Int), vt, vb])) rr = none := by rw [hset_ne k2]; exact hK'
    generalize K'.set q8 _ = K8 at hle8 m8 k8r ⊢
    have sb8 := sb.mono hle8
    have hl8 := hleK'.trans hle8
    refine CW.cut (dpJ K8 rr u.blocks.length ls (.ref r 0 ls.length c2) vb i26 l.2.2 0 l.2.2.length) ?_ ?_
    · have m8S : (K8.set rr (.cells (genC u.blocks.length fun b => (depP (ls.take i26) b : Int)))) q8 = some (.cells [ci (l.1 : Int), vt, vb]) := by rw [hset_ne k1]; exact m8
      rcases id sb8 with ⟨rfl, hl0⟩ | ⟨r3, c3, cs3, rfl, hr3, hc3⟩
      · have hl1 : l.2.2 = [] := by simpa [natL] using hl0
        refine CW.walk1 hX mixed d21 rfl ?_
        simp [m8S]
        exact ⟨0, 0, by omega, by omega, rfl, by simp [e6], by simp [e24], by simp [e25], by simp [e26], by simp, by simp [hl1], by simp, rfl, by congr 2⟩
      · refine CW.walk1 hX mixed d21 rfl ?_
        simp [m8S, natL_len]
        exact ⟨0, 0, by omega, by omega, rfl, by simp [e6], by simp [e24], by simp [e25], by simp [e26], by simp, by simp, by simp, rfl, by congr 2⟩
    clear e6 e24 e25 e26
    rintro ⟨e, ds⟩ H4 ⟨j0, j33, hj0, hj1, hj33, e6, e24, e25, e26, e31, e32, e33, rfl, rfl⟩
    dsimp only at e6 e24 e25 e26 e31 e32 e33
    refine CW.block ?_
    refine CW.loop (dpJ K8 rr u.blocks.length ls (.ref r 0 ls.length c2) vb i26 l.2.2 0) ?_ (m := l.2.2.length) ⟨j0, j33, hj0, by omega, hj33, by simp [e6], by simp [e24], by simp [e25], by simp [e26], by simp [e31], by simp [e32], by simp [e33], rfl, rfl⟩
    clear e6 e24 e25 e26 e31 e32 e33 hj0 hj1 hj33
    clear e j0 j33
    rintro m ⟨e, ds⟩ H4 ⟨j, j33, rfl, hj, hj33, e6, e24, e25, e26, e31, e32, e33, rfl, rfl⟩
    obtain rfl : j33 = j := by omega
    dsimp only at e6 e24 e25 e26 e31 e32 e33
    by_cases hjl : j33 < l.2.2.length
    rotate_left
    · have htk : l.2.2.take j33 = l.2.2 := List.take_of_length_le (by omega)
      refine CW.walk hX mixed d21 rfl ?_
      simp [e32, e33, hjl]
      refine CW.walk hX mixed d21 rfl ?_
      simp
      refine ⟨i26 + 1, i26, K8, rfl, by omega, rfl, by simp [e6], by simp [e24], by simp [e25], by simp [e26], rfl, hl8, k8r, ?_⟩
      rw [take_get hl]
      congr 2
      refine genC_congrQ fun b _ => ?_
      rw [depP_snoc, depQ, htk]
    obtain ⟨y, hy⟩ : ∃ y, l.2.2[j33]? = some y := ⟨_, List.getElem?_eq_getElem hjl⟩
    have hyn := hbn y (List.mem_of_getElem? hy)
    obtain ⟨r3, c3, cs3, rfl, hr3, hc3⟩ : ∃ r3 c3 cs3, vb = .ref r3 0 l.2.2.length c3 ∧ K8 r3 = some (.cells cs3) ∧ cs3[j33]? = some (ci (y : Int)) := by
      rcases sb8 with ⟨_, hb0⟩ | ⟨r3, c3, cs3, h1, h2, h3⟩
      · have hb1 : l.2.2 = [] := by simpa [natL] using hb0
        rw [hb1] at hjl; simp at hjl
      · exact ⟨r3, _, cs3, by rw [h1, natL_len], h2, h3 j33 (y : Int) (by simp [natL, hy])⟩
    have n3 : r3 ≠ rr := fun e => by subst e; rw [k8r] at hr3; cases hr3
    have hynt : y ∉ l.2.2.take j33 := fun hm => by
      have h1 := take_get hy
      have h2 : (l.2.2.take (j33 + 1)).Nodup := List.Nodup.sublist (List.take_sublist _ _) hnd
      rw [h1, List.nodup_append] at h2
      exact h2.2.2 y hm y (by simp) rfl
    have hdl := depP_len (ls := ls.take i26) (b := y)
    have hdl2 := List.length_take_le i26 ls
    refine CW.walk hX mixed d21 rfl ?_
    simp [e32, e33, hjl]
    refine CW.walk hX mixed d21 rfl ?_
    simp
    refine CW.cut (dpJ K8 rr u.blocks.length ls (.ref r 0 ls.length c2) (.ref r3 0 l.2.2.length c3) i26 l.2.2 1 (l.2.2.length - (j33 + 1))) ?_ ?_
    · have g3S : ∀ f, (K8.set rr (.cells (genC u.blocks.length f))) r3 = some (.cells cs3) := fun f => by rw [hset_ne n3]; exact hr3
      refine CW.block ?_
      refine CW.walk hX mixed d21 rfl ?_
      simp [e31, e33, hjl, g3S, hc3]
      have gg := genC_get (f := fun b => (depQ ls i26 l.2.2 j33 b : Int)) hyn
      have hdq : depQ ls i26 l.2.2 j33 y ≤ 80 := by rw [depQ, if_neg hynt]; omega
      have hw1 : IntKind.i64.wrap ((depQ ls i26 l.2.2 j33 y : Int) + 1) = (depQ ls i26 l.2.2 j33 y : Int) + 1 := wrapI (by omega) (by omega)
      have hput := genC_put (n := u.blocks.length) (f := fun b => (depQ ls i26 l.2.2 j33 b : Int)) (i := y) (v := (depQ ls i26 l.2.2 j33 y : Int) + 1) hyn
      have hcg : genC u.blocks.length (fun x => if x = y then (depQ ls i26 l.2.2 j33 y : Int) + 1 else (depQ ls i26 l.2.2 j33 x : Int)) = genC u.blocks.length fun b => (depQ ls i26 l.2.2 (j33 + 1) b : Int) := genC_congrQ fun b _ => by
        by_cases hby : b = y
        · subst hby
          rw [if_pos rfl, depQ, depQ, if_neg hynt, take_get hy, if_pos (by simp)]
          omega
        · rw [if_neg hby, depQ, depQ, take_get hy]
          by_cases hb2 : b ∈ l.2.2.take j33
          · rw [if_pos hb2, if_pos (by simp [hb2])]
          · rw [if_neg hb2, if_neg (by simp [hb2, hby])]
      refine CW.walk1 hX mixed d21 rfl ?_
      simp [e6, hyn, gg, hw1]
      refine ⟨by rw [genC_len]; omega, ?_⟩
      rw [hput, hcg]
      exact ⟨j33 + 1, j33, rfl, by omega, rfl, by simp [e6], by simp [e24], by simp [e25], by simp [e26], by simp [e31], by simp [e32], by simp [e33], rfl, rfl⟩
    clear e6 e24 e25 e26 e31 e32 e33
    rintro ⟨e, ds⟩ H4 ⟨j, j33', hjj, hj, hj33, e6, e24, e25, e26, e31, e32, e33, rfl, rfl⟩
    dsimp only at e6 e24 e25 e26 e31 e32 e33
    obtain rfl : j = j33 + 1 := by omega
    obtain rfl : j33' = j33 := by omega
    refine CW.walk1 hX mixed d21 rfl ?_
    simp [e33]
    exact ⟨l.2.2.length - (j33' + 1), by omega, j33' + 1, j33' + 1, rfl, hj, rfl, by simp [e6], by simp [e24], by simp [e25], by simp [e26], by simp [e31], by simp [e32], by simp; exact wrapI (by omega) (by omega), rfl, rfl⟩
  clear e6 e24 e25 e26
  rintro ⟨e, ds⟩ H3 ⟨i, i26', K2, hii, hi, hi26, e6, e24, e25, e26, rfl, hle2, hK2, rfl⟩
  dsimp only at e6 e24 e25 e26
  obtain rfl : i = i26 + 1 := by omega
  obtain rfl : i26' = i26 := by omega
  refine CW.walk1 hX mixed d21 rfl ?_
  simp [e26]
  exact ⟨ls.length - (i26' + 1), by omega, i26' + 1, i26' + 1, K2, rfl, hi, rfl, by simp [e6], by simp [e24], by simp [e25], by simp; exact wrapI (by omega) (by omega), rfl, hle2, hK2, rfl⟩
theorem DpA.free {u : UUnit} {x : CE} {H' : Hp} (h : DpA u x H') : FreeEnd x := by
  by_cases he : errU u = 0
  · obtain ⟨p, c, v, _, rfl, h5⟩ := h.ok he
    exact tup2_free h5.free
  · rw [h.er he]; exact tup2_free .nilsl
theorem DpA.wkm {u : UUnit} {x : CE} {H' H2 : Hp} (h : DpA u x H') (hl : Le (wkH H') H2) : DpA u x H2 :=
  ⟨h.er, fun he => by
    obtain ⟨p, c, v, a1, a4, a5⟩ := h.ok he
    exact ⟨p, c, v, a1, a4, a5.wk.mono hl⟩⟩
theorem depth_f (hX : CxOk (cx W G)) (hG : G 0 = .iptr formsC) {u : UUnit} (hu : UOk u) (hn : u.blocks.length ≤ 80) {H : Hp} {cs : List CV} (hf : Fz H (.agg cs) (.agg (unitC u))) : CC Tryz.prog W 21 [.agg cs] H fun x H' => DpA u x H' ∧ Le H H' := by
  refine (CC.freeze3 (args' := [.agg (unitC u)]) (R := DpA u) (by rfl) (fz1 hf) (fun x H' h => h.free) fun w hw => ?_).mono ?_
  · exact depth_c (W := w) (CxOk.later hX hw) hG u hu hn _
  · rintro x H2 ⟨H', h1, h2, h3, _⟩
    exact ⟨h1.wkm h3, h2⟩
end Go.Cl.Gd
/- The reference's Loops. -/
set_option linter.unusedSimpArgs false
set_option linter.unusedVariables false
namespace Go.Cl.Gd
open Go.Proofs
variable {W : World} {G : Nat → CV}
set_option maxRecDepth 8000
set_option maxHeartbeats 1000000
/-- Its tails, below m, as the reference finds them. -/
noncomputable def tailsR (N : Nat → List Nat) (h m : Nat) : List Nat := (List.range m).filter fun t => domB N h t && decide (h ∈ N t)
theorem tailsR_eq {N : Nat → List Nat} {n h : Nat} : tailsR N h n = tailsP N n h := by
  simp only [tailsR, tailsP, befL, List.filter_filter, domB]
theorem tailsR_succ {N : Nat → List Nat} {h m : Nat} : tailsR N h (m + 1) = tailsR N h m ++ (if (domB N h m && decide (h ∈ N m)) = true then [m] else []) := by
  rw [tailsR, List.range_succ, List.filter_append]
  congr 1
  cases hc : (domB N h m && decide (h ∈ N m)) <;> simp [hc]
theorem tailsR_len {N : Nat → List Nat} {h m : Nat} : (tailsR N h m).length ≤ m := by
  have := List.length_filter_le (fun t => domB N h t && decide (h ∈ N t)) (List.range m)
  rwa [List.length_range] at this
theorem loopB_succ {N : Nat → List Nat} {m h : Nat} {T : List Nat} [Decidable (InL N h T m)] : loopB N (m + 1) h T = loopB N m h T ++ (if InL N h T m then [m] else []) := by
  classical
  rw [loopB, List.range_succ, List.filter_append]
  congr 1
  by_cases hc : InL N h T m <;> simp [hc]
theorem own_fresh {B H : Hp} {w : CV} {sz r n c : Nat} {xs : List (List CV)} (h : Own B H w sz xs) (e : w = .ref r 0 n c) : B r = none := by
  rcases h.2.2 with ⟨h3, _⟩ | ⟨r', c', ex, e2, h4, _⟩
  · rw [e] at h3; cases h3
  · rw [e] at e2; injection e2 with e2; subst e2; exact h4
structure rlI (B : Hp) (vD : CV) (q1 n : Nat) (N : Nat → List Nat) (d m : Nat) (s' : CA) (H' : Hp) : Prop where
  ex : ∃ (i i5 : Nat) (v : CV), m = n - i ∧ i ≤ n ∧ i5 + d = i ∧ s'.env 1 = .ptr q1 0 ∧ s'.env 3 = vD ∧ s'.env 4 = v ∧ s'.env 5 = .int .i64 i5 ∧ s'.ds = [] ∧ LpO B H' v (loopsP N n i)
structure rlT (K : Hp) (vD v : CV) (q1 q6 h : Nat) (N : Nat → List Nat) (n d m : Nat) (s' : CA) (H' : Hp) : Prop where
  ex : ∃ (t t7 : Nat) (vt : CV), m = n - t ∧ t ≤ n ∧ t7 + d = t ∧ s'.env 1 = .ptr q1 0 ∧ s'.env 3 = vD ∧ s'.env 4 = v ∧ s'.env 5 = .int .i64 h ∧ s'.env 6 = .ptr q6 0 ∧ s'.env 7 = .int .i64 t7 ∧ s'.ds = [] ∧ Own (K.set q6 (.cells [ci h, vt, .nilsl])) H' vt 1 (ints (natL (tailsR N h t)))
structure rlU (K : Hp) (vD v : CV) (q1 q6 h : Nat) (T : List Nat) (s' : CA) (H' : Hp) : Prop where
  ex : ∃ vt : CV, s'.env 1 = .ptr q1 0 ∧ s'.env 3 = vD ∧ s'.env 4 = v ∧ s'.env 5 = .int .i64 h ∧ s'.env 6 = .ptr q6 0 ∧ s'.ds = [] ∧ Own (K.set q6 (.cells [ci h, vt, .nilsl])) H' vt 1 (ints (natL T))
structure rlB (K2 : Hp) (vD v vt : CV) (q1 q6 h : Nat) (T : List Nat) (N : Nat → List Nat) (n d m : Nat) (s' : CA) (H' : Hp) : Prop where
  ex : ∃ (b b9 : Nat) (vb : CV), m = n - b ∧ b ≤ n ∧ b9 + d = b ∧ s'.env 1 = .ptr q1 0 ∧ s'.env 3 = vD ∧ s'.env 4 = v ∧ s'.env 5 = .int .i64 h ∧ s'.env 6 = .ptr q6 0 ∧ s'.env 9 = .int .i64 b9 ∧ s'.ds = [] ∧ Own (K2.set q6 (.cells [ci h, vt, vb])) H' vb 1 (ints (natL (loopB N b h T)))
structure rlV (K2 : Hp) (vD v vt : CV) (q1 q6 h : Nat) (T : List Nat) (N : Nat → List Nat) (n : Nat) (s' : CA) (H' : Hp) : Prop where
  ex : ∃ vb : CV, s'.env 1 = .ptr q1 0 ∧ s'.env 3 = vD ∧ s'.env 4 = v ∧ s'.env 5 = .int .i64 h ∧ s'.env 6 = .ptr q6 0 ∧ s'.ds = [] ∧ Own (K2.set q6 (.cells [ci h, vt, vb])) H' vb 1 (ints (natL (loopB N n h T)))
structure rlC (Bs : Hp) (vD v : CV) (q1 q6 h b : Nat) (L : List Nat) (vb : CV) (t : Bool) (s' : CA) (H' : Hp) : Prop where
  ex : s'.env 1 = .ptr q1 0 ∧ s'.env 3 = vD ∧ s'.env 4 = v ∧ s'.env 5 = .int .i64 h ∧ s'.env 6 = .ptr q6 0 ∧ s'.env 9 = .int .i64 b ∧ s'.env 10 = .bool t ∧ s'.ds = [] ∧ Own Bs H' vb 1 (ints (natL L))
structure rlY (KW : Hp) (vD v : CV) (q1 q6 h b n rw : Nat) (T : List Nat) (sw : Nat → Bool) (d m : Nat) (s' : CA) (H' : Hp) : Prop where
  ex : ∃ (j j12 : Nat), m = T.length - j ∧ j ≤ T.length ∧ j12 + d = j ∧ s'.env 1 = .ptr q1 0 ∧ s'.env 3 = vD ∧ s'.env 4 = v ∧ s'.env 5 = .int .i64 h ∧ s'.env 6 = .ptr q6 0 ∧ s'.env 9 = .int .i64 b ∧ s'.env 10 = .bool ((T.take j).any sw) ∧ s'.env 11 = .ref rw 0 n n ∧ s'.env 12 = .int .i64 j12 ∧ s'.ds = [] ∧ H' = KW
theorem refLoops_c (hX : CxOk (cx W G)) {H : Hp} {vn : CV} {rs n : Nat} {N : Nat → List Nat} {s : Nat → Bool} (h : RGr H vn rs n N s) (h0 : 0 < n) (hn : n ≤ 80) (hN : ∀ b, b < n → ∀ k ∈ N b, k < n) (hNl : ∀ b, b < n → (N b).length ≤ 80) :
    CC Tryz.prog W 24 [.agg [vn, .ref rs 0 n n]] H fun x H' => ∃ v, x = .ret v ∧ Le H H' ∧ LpsR H' v (loopsP N n n) := by
  refine CC.of_cw hX Tryz.func24 rfl rfl (Nat.le_of_ble_eq_true rfl) ?_
  obtain ⟨rn, cn, cs0, hvn, hcn, hrn, hrow⟩ := h.rows
  subst hvn
  refine CW.walk hX mixed d24 rfl ?_
  simp
  intro q1 hq1
  have hle1 : Le H (H.set q1 (.cells [.ref rn 0 n cn, .ref rs 0 n n])) := Le.set_new hq1
  have m1 : (H.set q1 (.cells [.ref rn 0 n cn, .ref rs 0 n n])) q1 = some (.cells [.ref rn 0 n cn, .ref rs 0 n n]) := set_at
  generalize H.set q1 _ = B at hle1 m1 ⊢
  have hB := h.mono hle1
  refine CW.walk hX mixed d24 rfl ?_
  simp [m1]
  refine (doms_c hX hB h0 hn hN (fun b hb => by have := hNl b hb; omega)).k ?_
  rintro x C ⟨vD, rfl, hleC, hD⟩
  have m1C := hleC _ _ m1
  have hC := hB.mono hleC
  obtain ⟨rD, cD, csD, rfl, hrD, hraD⟩ := hD
  simp
  refine CW.walk hX mixed d24 rfl ?_
  simp
  refine CW.cut (Sx 4 fun v H' => LpO C H' v (loopsP N n n)) ?_ ?_
  rotate_left
  · rintro ⟨e, ds⟩ H2 ⟨v, e4, rfl, hO⟩
    dsimp only at e4
    refine CW.walk hX mixed d24 rfl ?_
    simp
    refine CW.walk1 hX mixed d24 rfl ?_
    simp [e4]
    exact ⟨(hle1.trans hleC).trans hO.le, hO.lps⟩
  refine CW.walk hX mixed d24 rfl ?_
  simp
  refine CW.block ?_
  refine CW.loop (rlI C (.ref rD 0 n cD) q1 n N 0) ?_ (m := n) ⟨0, 0, .nilsl, rfl, by omega, rfl, by simp, by simp, by simp, by simp, rfl, ⟨[], Own.nil (Le.refl _), .nil⟩⟩
  rintro m ⟨e, ds⟩ K ⟨i, i5, v, rfl, hi, hi5, e1, e3, e4, e5, rfl, hO⟩
  obtain rfl : i5 = i := by omega
  dsimp only at e1 e3 e4 e5
  have m1K := hO.le _ _ m1C
  by_cases hin : i5 < n
  rotate_left
  · obtain rfl : i5 = n := by omega
    refine CW.walk hX mixed d24 rfl ?_
    simp [e1, e5, m1K]
    exact ⟨v, by simp [e4], rfl, hO⟩
  refine CW.walk hX mixed d24 rfl ?_
  simp [e1, e5, m1K, hin]
  refine CW.cut (rlI C (.ref rD 0 n cD) q1 n N 1 (n - (i5 + 1))) ?_ ?_
  rotate_left
  · clear e1 e3 e4 e5
    rintro ⟨e, ds⟩ K2 ⟨i, i5', v', hii, hi, hi5, e1, e3, e4, e5, rfl, hO2⟩
    dsimp only at e1 e3 e4 e5
    obtain rfl : i = i5 + 1 := by omega
    obtain rfl : i5' = i5 := by omega
    refine CW.walk1 hX mixed d24 rfl ?_
    simp [e5]
    exact ⟨n - (i5' + 1), by omega, i5' + 1, i5' + 1, v', rfl, hi, rfl, by simp [e1], by simp [e3], by simp [e4], by simp; exact wrapI (by omega) (by omega), rfl, hO2⟩
  refine CW.block ?_
  refine CW.walk hX mixed d24 rfl ?_
  simp [e5, cfill]
  intro q6 hq6
  have hG := hC.mono hO.le
  have hrDK := hO.le _ _ hrD
  have hraK : ∀ a, a < n → ∃ ra, csD[a]? = some (.ref ra 0 n n) ∧ K ra = some (.cells (boolC n (domB N a))) := fun a ha => by obtain ⟨ra, k1, k2⟩ := hraD a ha; exact ⟨ra, k1, hO.le _ _ k2⟩
  have hrowK : ∀ b, b < n → ∃ w, cs0[b]? = some w ∧ SlF K w (natL (N b)) := fun b hb => by obtain ⟨w, k1, k2⟩ := hrow b hb; exact ⟨w, k1, ((k2.mono hle1).mono hleC).mono hO.le⟩
  have hrnK := hO.le _ _ (hleC _ _ (hle1 _ _ hrn))
  have hup : ∀ o, Le K (K.set q6 o) := fun o => Le.set_new hq6
  refine CW.cut (rlU K (.ref rD 0 n cD) v q1 q6 i5 (tailsP N n i5)) ?_ ?_
  · refine CW.walk hX mixed d24 rfl ?_
    simp
    refine CW.block ?_
    refine CW.loop (rlT K (.ref rD 0 n cD) v q1 q6 i5 N n 0) ?_ (m := n) ⟨0, 0, .nilsl, rfl, by omega, rfl, by simp [e1], by simp [e3], by simp [e4], by simp [e5], by simp, by simp, rfl, Own.nil (Le.refl _)⟩
    clear e1 e3 e4 e5
    rintro m ⟨e, ds⟩ KT ⟨t, t7, vt, rfl, ht, ht7, e1, e3, e4, e5, e6, e7, rfl, hown⟩
    obtain rfl : t7 = t := by omega
    dsimp only at e1 e3 e4 e5 e6 e7
    have hKT : Le K KT := (hup _).trans hown.1
    have m1T := hKT _ _ m1K
    by_cases htn : t7 < n
    rotate_left
    · obtain rfl : t7 = n := by omega
      rw [tailsR_eq] at hown
      refine CW.walk hX mixed d24 rfl ?_
      simp [e1, e7, m1T]
      exact ⟨vt, by simp [e1], by simp [e3], by simp [e4], by simp [e5], by simp [e6], rfl, hown⟩
    refine CW.walk hX mixed d24 rfl ?_
    simp [e1, e7, m1T, htn]
    refine CW.cut (rlT K (.ref rD 0 n cD) v q1 q6 i5 N n 1 (n - (t7 + 1))) ?_ ?_
    rotate_left
    · clear e1 e3 e4 e5 e6 e7
      rintro ⟨e, ds⟩ KU ⟨t, t7', vt', htt, ht2, ht7, e1, e3, e4, e5, e6, e7, rfl, hown2⟩
      dsimp only at e1 e3 e4 e5 e6 e7
      obtain rfl : t = t7 + 1 := by omega
      obtain rfl : t7' = t7 := by omega
      refine CW.walk1 hX mixed d24 rfl ?_
      simp [e7]
      exact ⟨n - (t7' + 1), by omega, t7' + 1, t7' + 1, vt', rfl, ht2, rfl, by simp [e1], by simp [e3], by simp [e4], by simp [e5], by simp [e6], by simp; exact wrapI (by omega) (by omega), rfl, hown2⟩
    obtain ⟨ra, f1, f2⟩ := hraK i5 hin
    obtain ⟨w, g1, g2⟩ := hrowK t7 htn
    have f2T := hKT _ _ f2
    have hrDT := hKT _ _ hrDK
    have hrnT := hKT _ _ hrnK
    have g2T := g2.mono hKT
    have f3 := boolC_get (p := domB N i5) htn
    have m6T : KT q6 = some (.cells [ci i5, vt, .nilsl]) := hown.1 _ _ set_at
    have htl := tailsR_len (N := N) (h := i5) (m := t7)
    have hno : ∀ en : Env, (domB N i5 t7 && decide (i5 ∈ N t7)) = false → en 1 = .ptr q1 0 → en 3 = .ref rD 0 n cD → en 4 = v → en 5 = .int .i64 i5 → en 6 = .ptr q6 0 → en 7 = .int .i64 t7 → rlT K (.ref rD 0 n cD) v q1 q6 i5 N n 1 (n - (t7 + 1)) ⟨en, []⟩ KT := fun en hf k1 k3 k4 k5 k6 k7 => ⟨t7 + 1, t7, vt, rfl, by omega, rfl, k1, k3, k4, k5, k6, k7, rfl, by rw [tailsR_succ, hf, if_neg (by simp), List.append_nil]; exact hown⟩
    refine CW.block ?_
    cases hd : domB N i5 t7 with
    | false =>
      refine CW.walk hX mixed d24 rfl ?_
      simp [e3, e5, e7, hrDT, f1, f2T, hd, hin, htn, boolC_len]
      refine CW.condE hX (b := false) (by simp) (fun h => by cases h) (fun _ => ?_)
      refine CW.walk1 hX mixed d24 rfl ?_
      simp
      exact hno _ (by simp [hd]) (by simp [e1]) (by simp [e3]) (by simp [e4]) (by simp [e5]) (by simp [e6]) (by simp [e7])
    | true =>
      refine CW.walk hX mixed d24 rfl ?_
      simp [e1, e3, e5, e7, m1T, hrnT, g1, hrDT, f1, f2T, hd, hin, htn, boolC_len]
      refine (hasQ_f hX (i5 : Int) g2T (by rw [natL_len]; have := hNl t7 htn; omega)).k ?_
      rintro x KV ⟨rfl, rfl⟩
      have hdec : decide ((i5 : Int) ∈ natL (N t7)) = decide (i5 ∈ N t7) := by rw [decide_eq_decide]; exact natL_mem
      rw [hdec]
      by_cases hm : i5 ∈ N t7
      rotate_left
      · simp [hm]
        refine CW.condE hX (b := false) (by simp) (fun h => by cases h) (fun _ => ?_)
        refine CW.walk1 hX mixed d24 rfl ?_
        simp
        exact hno _ (by simp [hm]) (by simp [e1]) (by simp [e3]) (by simp [e4]) (by simp [e5]) (by simp [e6]) (by simp [e7])
      simp [hm]
      refine CW.condE hX (b := true) (by simp) (fun _ => ?_) (fun h => by cases h)
      refine CW.walk hX mixed d24 rfl ?_
      simp [e6, m6T]
      refine CW.walk1 hX mixed d24 rfl ?_
      simp [e6, e7, cfill, -vcAppend]
      intro qx hqx
      refine (hown.more hqx).append2 (ys := [[.int .i64 (t7 : Int)]]) (by simp) (by simp [ints, natL]; omega) (src_one set_at rfl) fun v' H5 how5 _ => ?_
      have m6U : H5 q6 = some (.cells [ci i5, vt, .nilsl]) := how5.1 _ _ set_at
      have e9 : ints (natL (tailsR N i5 t7)) ++ [[CV.int .i64 (t7 : Int)]] = ints (natL (tailsR N i5 (t7 + 1))) := by rw [tailsR_succ, hd, if_pos (by simp [hm])]; simp [ints, natL]
      have hlen9 : (ints (natL (tailsR N i5 t7)) ++ [[CV.int .i64 (t7 : Int)]]).length = (ints (natL (tailsR N i5 t7))).length + 1 := by simp
      obtain ⟨r', c', rfl⟩ := how5.isRef (by simp)
      rw [hlen9] at how5 ⊢
      rw [e9] at how5
      have how7 := Own.setB (o := .cells [ci i5, .ref r' 0 ((ints (natL (tailsR N i5 t7))).length + 1) c', .nilsl]) how5
      simp [e6, m6U]
      exact ⟨t7 + 1, t7, _, rfl, by omega, rfl, by simp [e1], by simp [e3], by simp [e4], by simp [e5], by simp [e6], by simp [e7], rfl, how7⟩
  clear e1 e3 e4 e5
  rintro ⟨e, ds⟩ KT ⟨vt, e1, e3, e4, e5, e6, rfl, hown⟩
  dsimp only at e1 e3 e4 e5 e6
  have hKT : Le K KT := (hup _).trans hown.1
  have m1T := hKT _ _ m1K
  have m6T : KT q6 = some (.cells [ci i5, vt, .nilsl]) := hown.1 _ _ set_at
  by_cases ht0 : tailsP N n i5 = []
  · have hls : loopsP N n (i5 + 1) = loopsP N n i5 := by rw [loopsP, if_pos ht0]; simp
    have hend : ∀ en : Env, en 1 = .ptr q1 0 → en 3 = .ref rD 0 n cD → en 4 = v → en 5 = .int .i64 i5 → rlI C (.ref rD 0 n cD) q1 n N 1 (n - (i5 + 1)) ⟨en, []⟩ KT := fun en k1 k3 k4 k5 => ⟨i5 + 1, i5, v, rfl, by omega, rfl, k1, k3, k4, k5, rfl, by rw [hls]; exact hO.mono hKT⟩
    rw [ht0] at hown
    rcases hown.2.2 with ⟨rfl, _⟩ | ⟨r, c, ex, rfl, _⟩
    · refine CW.walk hX mixed d24 rfl ?_
      simp [e6, m6T, ints, natL]
      exact hend _ (by simp [e1]) (by simp [e3]) (by simp [e4]) (by simp [e5])
    · refine CW.walk hX mixed d24 rfl ?_
      simp [e6, m6T, ints, natL]
      exact hend _ (by simp [e1]) (by simp [e3]) (by simp [e4]) (by simp [e5])
  obtain ⟨T, hTe⟩ : ∃ T, tailsP N n i5 = T := ⟨_, rfl⟩
  have hTlt : ∀ t ∈ T, t < n := by rw [← hTe]; exact tailsP_lt
  have hTl : T.length ≤ n := by rw [← hTe]; exact tailsP_len
  have hlsn : loopsP N n (i5 + 1) = loopsP N n i5 ++ [(i5, T, loopB N n i5 T)] := by rw [loopsP, if_neg ht0, hTe]
  rw [hTe] at hown ht0
  have sp1 := hO.sep (hup _) hown
  obtain ⟨rt, ct, rfl⟩ : ∃ r c, vt = .ref r 0 T.length c := by
    rcases hown.2.2 with ⟨_, h1⟩ | ⟨r, c, ex, h1, _⟩
    · have := congrArg List.length h1; rw [ints_len, natL_len] at this
      exact absurd (List.length_eq_zero_iff.1 (by simpa using this)) ht0
    · rw [ints_len, natL_len] at h1; exact ⟨r, c, h1⟩
  have htp : 0 < T.length := List.length_pos_iff.2 ht0
  have n6t : rt ≠ q6 := fun e => by
    have := own_fresh hown rfl
    rw [e, set_at] at this; cases this
  have hstT : ∀ o, SlF (KT.set q6 o) (.ref rt 0 T.length ct) (natL T) := fun o => SlF.to (Own.slF hown) fun r n c o' e ho => by
    injection e with e
    subst e
    rw [hset_ne n6t]; exact ho
  have hKQ : ∀ o, Le K (KT.set q6 o) := fun o => hKT.put hq6
  clear hown
  refine CW.walk hX mixed d24 rfl ?_
  simp [e6, m6T, htp, ht0]
  refine CW.cut (rlV KT (.ref rD 0 n cD) v (.ref rt 0 T.length ct) q1 q6 i5 T N n) ?_ ?_
  rotate_left
  · clear e1 e3 e4 e5 e6
    rintro ⟨e, ds⟩ KZ ⟨vb, e1, e3, e4, e5, e6, rfl, hown⟩
    dsimp only at e1 e3 e4 e5 e6
    have m6Z : KZ q6 = some (.cells [ci i5, .ref rt 0 T.length ct, vb]) := hown.1 _ _ set_at
    have hstZ := (hstT (.cells [ci i5, .ref rt 0 T.length ct, vb])).mono hown.1
    have sp2 := hO.sep (hKQ _) hown
    obtain ⟨hs1, hs2⟩ := Own.oneCell hown
    simp only [CV.stor, CV.cells] at hs1 hs2
    obtain ⟨xs, hxs, hf⟩ := hO.mono ((hKQ _).trans hown.1)
    have hxl : xs.length ≤ 80 := by
      have h1 := f2_len hf
      have h2 := loopsP_len (N := N) (n := n) (m := i5)
      omega
    refine CW.walk1 hX mixed d24 rfl ?_
    simp [e4, e6, m6Z, cfill, -vcAppend, hs1, hs2]
    intro qx hqx
    have hlq : Le KZ (KZ.set qx (.cells [ci i5, .ref rt 0 T.length ct, vb])) := Le.set_new hqx
    refine (hxs.more hqx).append2 (ys := [[ci i5, .ref rt 0 T.length ct, vb]]) (by simp) (by simp; omega) (src_one set_at rfl) fun v' H5 how5 kp => ?_
    simp
    refine ⟨i5 + 1, i5, v', rfl, by omega, rfl, by simp [e1], by simp [e3], by simp, by simp [e5], rfl, ?_⟩
    rw [hlsn]
    refine ⟨_, how5, f2_append (hf.imp fun a b k => ?_) ⟨_, vb, rfl, SlA.kept ⟨hstZ.mono hlq, sp1⟩ kp, SlA.kept ⟨(Own.slF hown).mono hlq, sp2⟩ kp⟩⟩
    obtain ⟨vt', vb', k1, k2, k3⟩ := k
    exact ⟨vt', vb', k1, (k2.mono hlq).kept kp, (k3.mono hlq).kept kp⟩
  refine CW.walk hX mixed d24 rfl ?_
  simp
  refine CW.block ?_
  have hown0 : Own (KT.set q6 (.cells [ci i5, .ref rt 0 T.length ct, .nilsl])) KT .nilsl 1 (ints (natL (loopB N 0 i5 T))) := by
    rw [hset_self m6T]
    exact Own.nil (Le.refl _)
  refine CW.loop (rlB KT (.ref rD 0 n cD) v (.ref rt 0 T.length ct) q1 q6 i5 T N n 0) ?_ (m := n) ⟨0, 0, .nilsl, rfl, by omega, rfl, by simp [e1], by simp [e3], by simp [e4], by simp [e5], by simp [e6], by simp, rfl, hown0⟩
  clear e1 e3 e4 e5 e6 hown0
  rintro m ⟨e, ds⟩ KB ⟨b, b9, vb, rfl, hb, hb9, e1, e3, e4, e5, e6, e9, rfl, hown⟩
  obtain rfl : b9 = b := by omega
  dsimp only at e1 e3 e4 e5 e6 e9
  have hKB := (hKQ _).trans hown.1
  have m1B := hKB _ _ m1K
  by_cases hbn : b9 < n
  rotate_left
  · obtain rfl : b9 = n := by omega
    refine CW.walk hX mixed d24 rfl ?_
    simp [e1, e9, m1B]
    exact ⟨vb, by simp [e1], by simp [e3], by simp [e4], by simp [e5], by simp [e6], rfl, hown⟩
  refine CW.walk hX mixed d24 rfl ?_
  simp [e1, e9, m1B, hbn]
  refine CW.cut (rlB KT (.ref rD 0 n cD) v (.ref rt 0 T.length ct) q1 q6 i5 T N n 1 (n - (b9 + 1))) ?_ ?_
  rotate_left
  · clear e1 e3 e4 e5 e6 e9
    rintro ⟨e, ds⟩ KC ⟨b, b9', vb', hbb, hb2, hb9, e1, e3, e4, e5, e6, e9, rfl, hown2⟩
    dsimp only at e1 e3 e4 e5 e6 e9
    obtain rfl : b = b9 + 1 := by omega
    obtain rfl : b9' = b9 := by omega
    refine CW.walk1 hX mixed d24 rfl ?_
    simp [e9]
    exact ⟨n - (b9' + 1), by omega, b9' + 1, b9' + 1, vb', rfl, hb2, rfl, by simp [e1], by simp [e3], by simp [e4], by simp [e5], by simp [e6], by simp; exact wrapI (by omega) (by omega), rfl, hown2⟩
  refine CW.block ?_
  refine CW.walk hX mixed d24 rfl ?_
  simp [e5, e9]
  obtain ⟨tb, htb⟩ : ∃ tb : Bool, tb = true ↔ InL N i5 T b9 := by
    by_cases hc : InL N i5 T b9
    · exact ⟨true, by simp [hc]⟩
    · exact ⟨false, by simp [hc]⟩
  refine CW.cut (rlC (KT.set q6 (.cells [ci i5, .ref rt 0 T.length ct, vb])) (.ref rD 0 n cD) v q1 q6 i5 b9 (loopB N b9 i5 T) vb tb) ?_ ?_
  · have hgB := hG.mono hKB
    have hfin : ∀ en : Env, en 1 = .ptr q1 0 → en 3 = .ref rD 0 n cD → en 4 = v → en 5 = .int .i64 i5 → en 6 = .ptr q6 0 → en 9 = .int .i64 b9 → en 10 = .bool tb → rlC (KT.set q6 (.cells [ci i5, .ref rt 0 T.length ct, vb])) (.ref rD 0 n cD) v q1 q6 i5 b9 (loopB N b9 i5 T) vb tb ⟨en, []⟩ KB := fun en k1 k3 k4 k5 k6 k9 k10 => ⟨k1, k3, k4, k5, k6, k9, k10, rfl, hown⟩
    by_cases hbh : b9 = i5
    · have htt : tb = true := htb.2 (.inl hbh)
      refine CW.walk hX mixed d24 rfl ?_
      simp [e5, e9, hbh]
      refine CW.condE hX (b := false) (by simp) (fun h => by cases h) (fun _ => ?_)
      refine CW.walk1 hX mixed d24 rfl ?_
      simp
      exact hfin _ (by simp [e1]) (by simp [e3]) (by simp [e4]) (by simp [e5]) (by simp [e6]) (by simp [e9, hbh]) (by simp [htt])
    have hbi : ¬ (b9 : Int) = (i5 : Int) := by omega
    have hbb : ((b9 : Int) == (i5 : Int)) = false := by simp [hbi]
    have gs := boolC_get (p := s) hbn
    have hrsB := hgB.rs
    cases hsb : s b9 with
    | false =>
      have htt : tb = false := by
        cases htc : tb with
        | false => rfl
        | true =>
          rcases htb.1 htc with h1 | ⟨_, h2, _⟩
          · exact absurd h1 hbh
          · have := (h.s b9).2 h2; rw [hsb] at this; cases this
      refine CW.walk hX mixed d24 rfl ?_
      simp [e1, e5, e9, hbi, m1B, hrsB, hsb, hbn, boolC_len]
      refine CW.condE hX (b := false) (by simp) (fun h => by cases h) (fun _ => ?_)
      refine CW.walk1 hX mixed d24 rfl ?_
      simp
      exact hfin _ (by simp [e1]) (by simp [e3]) (by simp [e4]) (by simp [e5]) (by simp [e6]) (by simp [e9]) (by simp [htt, hbi])
    | true =>
      have hrb := (h.s b9).1 hsb
      refine CW.walk hX mixed d24 rfl ?_
      simp [e1, e5, e9, hbi, m1B, hrsB, hsb, hbn, boolC_len]
      refine CW.condE hX (b := true) (by simp) (fun _ => ?_) (fun h => by cases h)
      have hfw := from_w (w := (i5 : Int)) hX hbn (by omega) (by omega) (by omega) hN (fun b hb => by have := hNl b hb; omega) (vr := .ref rs 0 n n) ⟨rfl, rfl⟩ hcn (hKB _ _ hrnK) (fun b hb => by obtain ⟨w, k1, k2⟩ := hrowK b hb; exact ⟨w, k1, k2.mono hKB⟩)
      refine CW.walk hX mixed d24 rfl ?_
      simp [e1, e5, e9, m1B]
      refine hfw.k ?_
      rintro x KW ⟨rw', sw, rfl, hleW, hrw0, hrw, hsw⟩
      have hownW := hown.mono hleW
      have m6W : KW q6 = some (.cells [ci i5, .ref rt 0 T.length ct, vb]) := hownW.1 _ _ set_at
      have hstW := (hstT (.cells [ci i5, .ref rt 0 T.length ct, vb])).mono hownW.1
      have hanyt : T.any sw = tb := by
        rw [Bool.eq_iff_iff, htb, List.any_eq_true]
        constructor
        · rintro ⟨t, h1, h2⟩
          exact .inr ⟨hbh, hrb, t, h1, ((hsw t).1 h2).2⟩
        · rintro (h1 | ⟨_, _, t, h1, h2⟩)
          · exact absurd h1 hbh
          · exact ⟨t, h1, (hsw t).2 ⟨hbi, h2⟩⟩
      obtain ⟨cst, hrt, hct⟩ : ∃ cs, KW rt = some (.cells cs) ∧ ∀ (k t : Nat), T[k]? = some t → cs[k]? = some (ci (t : Int)) := by
        rcases hstW with ⟨h1, _⟩ | ⟨r, c, cs, h1, h2, h3⟩
        · cases h1
        · injection h1 with h1
          subst h1
          exact ⟨cs, h2, fun (k t : Nat) hk => h3 k (t : Int) (by simp [natL, hk])⟩
      simp
      refine CW.walk hX mixed d24 rfl ?_
      simp
      refine CW.block ?_
      refine CW.loop (rlY KW (.ref rD 0 n cD) v q1 q6 i5 b9 n rw' T sw 0) ?_ (m := T.length) ⟨0, 0, rfl, by omega, rfl, by simp [e1], by simp [e3], by simp [e4], by simp [e5], by simp [e6], by simp [e9], by simp [hbi], by simp, by simp, rfl, rfl⟩
      clear e1 e3 e4 e5 e6 e9
      rintro m ⟨e, ds⟩ KX ⟨j, j12, rfl, hj, hj12, e1, e3, e4, e5, e6, e9, e10, e11, e12, rfl, rfl⟩
      obtain rfl : j12 = j := by omega
      dsimp only at e1 e3 e4 e5 e6 e9 e10 e11 e12
      by_cases hjl : j12 < T.length
      rotate_left
      · rw [List.take_of_length_le (by omega), hanyt] at e10
        refine CW.walk hX mixed d24 rfl ?_
        simp [e6, e12, m6W, hjl]
        exact ⟨by simp [e1], by simp [e3], by simp [e4], by simp [e5], by simp [e6], by simp [e9], by simp [e10], rfl, hownW⟩
      obtain ⟨t, ht⟩ : ∃ t, T[j12]? = some t := ⟨_, List.getElem?_eq_getElem hjl⟩
      have htn := hTlt t (List.mem_of_getElem? ht)
      have hct' := hct j12 t ht
      have gw := boolC_get (p := sw) htn
      have hany2 : (T.take (j12 + 1)).any sw = ((T.take j12).any sw || sw t) := by rw [take_get ht, List.any_append]; simp
      refine CW.walk hX mixed d24 rfl ?_
      simp [e6, e12, m6W, hjl]
      refine CW.cut (rlY KX (.ref rD 0 n cD) v q1 q6 i5 b9 n rw' T sw 1 (T.length - (j12 + 1))) ?_ ?_
      · generalize hal : (T.take j12).any sw = al at e10 hany2
        have hf2 : ∀ (en : Env) (q : Bool), q = (al || sw t) → en 1 = .ptr q1 0 → en 3 = .ref rD 0 n cD → en 4 = v → en 5 = .int .i64 i5 → en 6 = .ptr q6 0 → en 9 = .int .i64 b9 → en 10 = .bool q → en 11 = .ref rw' 0 n n → en 12 = .int .i64 j12 → rlY KX (.ref rD 0 n cD) v q1 q6 i5 b9 n rw' T sw 1 (T.length - (j12 + 1)) ⟨en, []⟩ KX := fun en q hq k1 k3 k4 k5 k6 k9 k10 k11 k12 => ⟨j12 + 1, j12, rfl, by omega, rfl, k1, k3, k4, k5, k6, k9, by rw [hany2, ← hq]; exact k10, k11, k12, rfl, rfl⟩
        refine CW.block ?_
        cases al with
        | true =>
          refine CW.walk1 hX mixed d24 rfl ?_
          simp [d24, e10]
          exact hf2 _ true (by simp) (by simp [e1]) (by simp [e3]) (by simp [e4]) (by simp [e5]) (by simp [e6]) (by simp [e9]) (by simp) (by simp [e11]) (by simp [e12])
        | false =>
          refine CW.walk1 hX mixed d24 rfl ?_
          simp [d24, e6, e10, e11, e12, m6W, hrt, hct', hjl, hrw, htn, boolC_len]
          exact hf2 _ (sw t) (by simp) (by simp [e1]) (by simp [e3]) (by simp [e4]) (by simp [e5]) (by simp [e6]) (by simp [e9]) (by simp) (by simp [e11]) (by simp [e12])
      clear e1 e3 e4 e5 e6 e9 e10 e11 e12
      rintro ⟨e, ds⟩ KY ⟨j, j12', hjj, hj, hj12, e1, e3, e4, e5, e6, e9, e10, e11, e12, rfl, rfl⟩
      dsimp only at e1 e3 e4 e5 e6 e9 e10 e11 e12
      obtain rfl : j = j12 + 1 := by omega
      obtain rfl : j12' = j12 := by omega
      refine CW.walk1 hX mixed d24 rfl ?_
      simp [e12]
      exact ⟨T.length - (j12' + 1), by omega, j12' + 1, j12' + 1, rfl, hj, rfl, by simp [e1], by simp [e3], by simp [e4], by simp [e5], by simp [e6], by simp [e9], by simp [e10], by simp [e11], by simp; exact wrapI (by omega) (by omega), rfl, rfl⟩
  clear e1 e3 e4 e5 e6 e9
  rintro ⟨e, ds⟩ KC ⟨e1, e3, e4, e5, e6, e9, e10, rfl, hown2⟩
  dsimp only at e1 e3 e4 e5 e6 e9 e10
  have m6C : KC q6 = some (.cells [ci i5, .ref rt 0 T.length ct, vb]) := hown2.1 _ _ set_at
  have hbl : (loopB N b9 i5 T).length ≤ b9 := nodup_le b9 _ loopB_nodup fun x hx => (loopB_mem.1 hx).1
  cases tb with
  | false =>
    have hni : ¬ InL N i5 T b9 := fun k => by have := htb.2 k; cases this
    refine CW.walk hX mixed d24 rfl ?_
    simp [e10]
    refine CW.condE hX (b := false) (by simp) (fun h => by cases h) (fun _ => ?_)
    refine CW.walk1 hX mixed d24 rfl ?_
    simp
    refine ⟨b9 + 1, b9, vb, rfl, by omega, rfl, by simp [e1], by simp [e3], by simp [e4], by simp [e5], by simp [e6], by simp [e9], rfl, ?_⟩
    haveI : Decidable (InL N i5 T b9) := .isFalse hni
    rw [loopB_succ, if_neg hni, List.append_nil]
    exact hown2
  | true =>
    have hni : InL N i5 T b9 := htb.1 rfl
    refine CW.walk hX mixed d24 rfl ?_
    simp [e10]
    refine CW.condE hX (b := true) (by simp) (fun _ => ?_) (fun h => by cases h)
    refine CW.walk hX mixed d24 rfl ?_
    simp [e6, m6C]
    refine CW.walk1 hX mixed d24 rfl ?_
    simp [e6, e9, cfill, -vcAppend]
    intro qx hqx
    refine (hown2.more hqx).append2 (ys := [[.int .i64 (b9 : Int)]]) (by simp) (by simp [ints, natL]; omega) (src_one set_at rfl) fun v' H5 how5 _ => ?_
    have m6U : H5 q6 = some (.cells [ci i5, .ref rt 0 T.length ct, vb]) := how5.1 _ _ set_at
    haveI : Decidable (InL N i5 T b9) := .isTrue hni
    have e9' : ints (natL (loopB N b9 i5 T)) ++ [[CV.int .i64 (b9 : Int)]] = ints (natL (loopB N (b9 + 1) i5 T)) := by rw [loopB_succ, if_pos hni]; simp [ints, natL]
    have hlen9 : (ints (natL (loopB N b9 i5 T)) ++ [[CV.int .i64 (b9 : Int)]]).length = (ints (natL (loopB N b9 i5 T))).length + 1 := by simp
    obtain ⟨r', c', rfl⟩ := how5.isRef (by simp)
    rw [hlen9] at how5 ⊢
    rw [e9'] at how5
    have how7 := Own.setB (o := .cells [ci i5, .ref rt 0 T.length ct, .ref r' 0 ((ints (natL (loopB N b9 i5 T))).length + 1) c']) how5
    simp [e6, m6U]
    exact ⟨b9 + 1, b9, _, rfl, by omega, rfl, by simp [e1], by simp [e3], by simp [e4], by simp [e5], by simp [e6], by simp [e9], rfl, how7⟩
end Go.Cl.Gd
/- The reference's Depth; whether two lists of loops are the same. -/
set_option linter.unusedSimpArgs false
set_option linter.unusedVariables false
namespace Go.Cl.Gd
open Go.Proofs
variable {W : World} {G : Nat → CV}
set_option maxRecDepth 8000
set_option maxHeartbeats 1000000
theorem tblL_succ {n : Nat} {f : Nat → Nat} : tblL (n + 1) f = tblL n f ++ [(f n : Int)] := by simp [tblL, List.range_succ]
theorem tblL_len {n : Nat} {f : Nat → Nat} : (tblL n f).length = n := by simp [tblL]
structure qdI (B : Hp) (vL : CV) (q1 n : Nat) (f : Nat → Nat) (d m : Nat) (s' : CA) (H' : Hp) : Prop where
  ex : ∃ (i i5 : Nat) (v : CV), m = n - i ∧ i ≤ n ∧ i5 + d = i ∧ s'.env 1 = .ptr q1 0 ∧ s'.env 3 = vL ∧ s'.env 4 = v ∧ s'.env 5 = .int .i64 i5 ∧ s'.ds = [] ∧ Own B H' v 1 (ints (tblL i f))
structure qdJ (K : Hp) (vL v : CV) (q1 b : Nat) (ls : List (Nat × List Nat × List Nat)) (d m : Nat) (s' : CA) (H' : Hp) : Prop where
  ex : ∃ (j j7 : Nat), m = ls.length - j ∧ j ≤ ls.length ∧ j7 + d = j ∧ s'.env 1 = .ptr q1 0 ∧ s'.env 3 = vL ∧ s'.env 4 = v ∧ s'.env 5 = .int .i64 b ∧ s'.env 6 = .int .i64 (depP (ls.take j) b) ∧ s'.env 7 = .int .i64 j7 ∧ s'.ds = [] ∧ H' = K
theorem refDepth_c (hX : CxOk (cx W G)) {H : Hp} {vn : CV} {rs n : Nat} {N : Nat → List Nat} {s : Nat → Bool} (h : RGr H vn rs n N s) (h0 : 0 < n) (hn : n ≤ 80) (hN : ∀ b, b < n → ∀ k ∈ N b, k < n) (hNl : ∀ b, b < n → (N b).length ≤ 80) :
    CC Tryz.prog W 25 [.agg [vn, .ref rs 0 n n]] H fun x H' => ∃ v, x = .ret v ∧ Le H H' ∧ SlF H' v (tblL n (depP (loopsP N n n))) := by
  refine CC.of_cw hX Tryz.func25 rfl rfl (Nat.le_of_ble_eq_true rfl) ?_
  obtain ⟨rn, cn, cs0, hvn, _⟩ := h.rows
  subst hvn
  refine CW.walk hX mixed d25 rfl ?_
  simp
  intro q1 hq1
  have hle1 : Le H (H.set q1 (.cells [.ref rn 0 n cn, .ref rs 0 n n])) := Le.set_new hq1
  have m1 : (H.set q1 (.cells [.ref rn 0 n cn, .ref rs 0 n n])) q1 = some (.cells [.ref rn 0 n cn, .ref rs 0 n n]) := set_at
  generalize H.set q1 _ = B at hle1 m1 ⊢
  have hB := h.mono hle1
  refine CW.walk hX mixed d25 rfl ?_
  simp [m1]
  refine (refLoops_c hX hB h0 hn hN hNl).k ?_
  rintro x C ⟨vL, rfl, hleC, hL⟩
  have m1C := hleC _ _ m1
  have hlen := loopsP_len (N := N) (n := n) (m := n)
  have hbl : ∀ l ∈ loopsP N n n, l.2.2.length ≤ n := fun l hl => by rw [(loopsP_mem hl).2.1]; exact loopB_len
  generalize loopsP N n n = ls at hL hlen hbl ⊢
  simp
  refine CW.walk hX mixed d25 rfl ?_
  simp
  refine CW.cut (Sx 4 fun v H' => Own C H' v 1 (ints (tblL n (depP ls)))) ?_ ?_
  rotate_left
  · rintro ⟨e, ds⟩ H2 ⟨v, e4, rfl, hown⟩
    dsimp only at e4
    refine CW.walk hX mixed d25 rfl ?_
    simp
    refine CW.walk1 hX mixed d25 rfl ?_
    simp [e4]
    exact ⟨(hle1.trans hleC).trans hown.le, hown.slF⟩
  refine CW.walk hX mixed d25 rfl ?_
  simp
  refine CW.block ?_
  refine CW.loop (qdI C vL q1 n (depP ls) 0) ?_ (m := n) ⟨0, 0, .nilsl, rfl, by omega, rfl, by simp, by simp, by simp, by simp, rfl, Own.nil (Le.refl _)⟩
  rintro m ⟨e, ds⟩ K ⟨i, i5, v, rfl, hi, hi5, e1, e3, e4, e5, rfl, hown⟩
  obtain rfl : i5 = i := by omega
  dsimp only at e1 e3 e4 e5
  have m1K := hown.le _ _ m1C
  by_cases hin : i5 < n
  rotate_left
  · obtain rfl : i5 = n := by omega
    refine CW.walk hX mixed d25 rfl ?_
    simp [e1, e5, m1K]
    exact ⟨v, by simp [e4], rfl, hown⟩
  have hLK := hL.mono hown.le
  refine CW.walk hX mixed d25 rfl ?_
  simp [e1, e5, m1K, hin]
  refine CW.cut (qdI C vL q1 n (depP ls) 1 (n - (i5 + 1))) ?_ ?_
  rotate_left
  · clear e1 e3 e4 e5
    rintro ⟨e, ds⟩ K2 ⟨i, i5', v', hii, hi, hi5, e1, e3, e4, e5, rfl, hown2⟩
    dsimp only at e1 e3 e4 e5
    obtain rfl : i = i5 + 1 := by omega
    obtain rfl : i5' = i5 := by omega
    refine CW.walk1 hX mixed d25 rfl ?_
    simp [e5]
    exact ⟨n - (i5' + 1), by omega, i5' + 1, i5' + 1, v', rfl, hi, rfl, by simp [e1], by simp [e3], by simp [e4], by simp; exact wrapI (by omega) (by omega), rfl, hown2⟩
  refine CW.block ?_
  refine CW.walk hX mixed d25 rfl ?_
  simp
  refine CW.cut (qdJ K vL v q1 i5 ls 0 0) ?_ ?_
  rotate_left
  · clear e1 e3 e4 e5
    rintro ⟨e, ds⟩ K2 ⟨j, j7, hjj, hj, hj7, e1, e3, e4, e5, e6, e7, rfl, rfl⟩
    dsimp only at e1 e3 e4 e5 e6 e7
    rw [List.take_of_length_le (by omega)] at e6
    refine CW.walk1 hX mixed d25 rfl ?_
    simp [e4, e6, cfill, -vcAppend]
    intro qx hqx
    refine (hown.more hqx).append2 (ys := [[.int .i64 (depP ls i5 : Int)]]) (by simp) (by rw [ints_len, tblL_len]; simp; omega) (src_one set_at rfl) fun v' H5 how5 kp => ?_
    simp
    refine ⟨i5 + 1, i5, v', rfl, by omega, rfl, by simp [e1], by simp [e3], by simp, by simp [e5], rfl, ?_⟩
    have e9 : ints (tblL (i5 + 1) (depP ls)) = ints (tblL i5 (depP ls)) ++ [[.int .i64 (depP ls i5 : Int)]] := by rw [tblL_succ]; simp [ints]
    rw [e9]; exact how5
  refine CW.walk hX mixed d25 rfl ?_
  simp
  refine CW.block ?_
  refine CW.loop (qdJ K vL v q1 i5 ls 0) ?_ (m := ls.length) ⟨0, 0, rfl, by omega, rfl, by simp [e1], by simp [e3], by simp [e4], by simp [e5], by simp [depP], by simp, rfl, rfl⟩
  clear e1 e3 e4 e5
  rintro m ⟨e, ds⟩ K2 ⟨j, j7, rfl, hj, hj7, e1, e3, e4, e5, e6, e7, rfl, rfl⟩
  obtain rfl : j7 = j := by omega
  dsimp only at e1 e3 e4 e5 e6 e7
  by_cases hjl : j7 < ls.length
  rotate_left
  · have hje : j7 = ls.length := by omega
    rcases hLK with ⟨rfl, hl0⟩ | ⟨r, c2, cs2, rfl, _⟩
    · refine CW.walk hX mixed d25 rfl ?_
      simp [e3, e7, show ¬ (j7 : Int) < 0 by omega]
      exact ⟨j7, j7, by omega, by omega, rfl, by simp [e1], by simp [e3], by simp [e4], by simp [e5], by simp [e6], by simp [e7], rfl, rfl⟩
    · refine CW.walk hX mixed d25 rfl ?_
      simp [e3, e7, hjl]
      exact ⟨j7, j7, by omega, by omega, rfl, by simp [e1], by simp [e3], by simp [e4], by simp [e5], by simp [e6], by simp [e7], rfl, rfl⟩
  obtain ⟨l, hl⟩ : ∃ l, ls[j7]? = some l := ⟨_, List.getElem?_eq_getElem hjl⟩
  have hbl1 := hbl l (List.mem_of_getElem? hl)
  obtain ⟨r, c2, cs, vt, vb, rfl, hr, g0, g1, g2, st, sb⟩ := LpsR.get hLK hl
  have hdl := depP_len (ls := ls.take j7) (b := i5)
  have hdl2 := List.length_take_le j7 ls
  refine CW.walk hX mixed d25 rfl ?_
  simp [e3, e7, hjl]
  refine CW.cut (qdJ K2 (.ref r 0 ls.length c2) v q1 i5 ls 1 (ls.length - (j7 + 1))) ?_ ?_
  rotate_left
  · clear e1 e3 e4 e5 e6 e7
    rintro ⟨e, ds⟩ K3 ⟨j, j7', hjj, hj, hj7, e1, e3, e4, e5, e6, e7, rfl, rfl⟩
    dsimp only at e1 e3 e4 e5 e6 e7
    obtain rfl : j = j7 + 1 := by omega
    obtain rfl : j7' = j7 := by omega
    refine CW.walk1 hX mixed d25 rfl ?_
    simp [e7]
    exact ⟨ls.length - (j7' + 1), by omega, j7' + 1, j7' + 1, rfl, hj, rfl, by simp [e1], by simp [e3], by simp [e4], by simp [e5], by simp [e6], by simp; exact wrapI (by omega) (by omega), rfl, rfl⟩
  refine CW.block ?_
  refine CW.walk hX mixed d25 rfl ?_
  simp [e3, e5, e7, hr, hjl, g2]
  refine (hasQ_f hX (i5 : Int) sb (by rw [natL_len]; omega)).k ?_
  rintro x K3 ⟨rfl, rfl⟩
  have hdec : decide ((i5 : Int) ∈ natL l.2.2) = decide (i5 ∈ l.2.2) := by rw [decide_eq_decide]; exact natL_mem
  rw [hdec]
  by_cases hm : i5 ∈ l.2.2
  · simp [hm]
    refine CW.condE hX (b := true) (by simp) (fun _ => ?_) (fun h => by cases h)
    refine CW.walk1 hX mixed d25 rfl ?_
    simp [e6]
    refine ⟨j7 + 1, j7, rfl, by omega, rfl, by simp [e1], by simp [e3], by simp [e4], by simp [e5], ?_, by simp [e7], rfl, rfl⟩
    rw [take_get hl, depP_snoc, if_pos hm]
    simp
    exact wrapI (by omega) (by omega)
  · simp [hm]
    refine CW.condE hX (b := false) (by simp) (fun h => by cases h) (fun _ => ?_)
    refine CW.walk1 hX mixed d25 rfl ?_
    simp
    refine ⟨j7 + 1, j7, rfl, by omega, rfl, by simp [e1], by simp [e3], by simp [e4], by simp [e5], ?_, by simp [e7], rfl, rfl⟩
    rw [take_get hl, depP_snoc, if_neg hm]
    simp [e6]
structure lsmI (H : Hp) (va vb : CV) (n : Nat) (d m : Nat) (s' : CA) (H' : Hp) : Prop where
  ex : ∃ (i i5 : Nat), m = n - i ∧ i ≤ n ∧ i5 + d = i ∧ s'.env 0 = va ∧ s'.env 1 = vb ∧ s'.env 5 = .int .i64 i5 ∧ s'.ds = [] ∧ H' = H
theorem sameLoops_c (hX : CxOk (cx W G)) {H : Hp} {va vb : CV} {ls : List (Nat × List Nat × List Nat)} (ha : LpsR H va ls) (hb : LpsR H vb ls) (hl : ls.length ≤ 1000) (hm : ∀ l ∈ ls, l.2.1.length ≤ 1000 ∧ l.2.2.length ≤ 1000) : CC Tryz.prog W 23 [va, vb] H fun x H' => x = .ret (.bool true) ∧ H' = H := by
  refine CC.of_cw hX Tryz.func23 rfl rfl (Nat.le_of_ble_eq_true rfl) ?_
  refine CW.walk hX mixed d23 rfl ?_
  simp
  have hla : ∀ {v : CV}, LpsR H v ls → (v = .nilsl ∧ ls.length = 0) ∨ ∃ r c, v = .ref r 0 ls.length c := fun h => by
    rcases h with ⟨h1, h2⟩ | ⟨r, c, cs, h1, _⟩
    · exact .inl ⟨h1, by simp [h2]⟩
    · exact .inr ⟨r, _, h1⟩
  have h1 := hla ha
  have h2 := hla hb
  refine CW.cut (fun s' H' => s'.env 0 = va ∧ s'.env 1 = vb ∧ s'.ds = [] ∧ H' = H) ?_ ?_
  · rcases h1 with ⟨rfl, h1⟩ | ⟨r1, c1, rfl⟩ <;> rcases h2 with ⟨rfl, h2⟩ | ⟨r2, c2, rfl⟩
    all_goals
      refine CW.walk1 hX mixed d23 rfl ?_
      simp [*]
  rintro ⟨e, ds⟩ H1 ⟨e0, e1, rfl, rfl⟩
  dsimp only at e0 e1
  refine CW.cut (fun s' H' => s'.ds = [] ∧ H' = H1) ?_ ?_
  rotate_left
  · rintro ⟨e, ds⟩ H2 ⟨rfl, rfl⟩
    refine CW.walk hX mixed d23 rfl ?_
    simp
    refine CW.walk1 hX mixed d23 rfl ?_
    simp
  refine CW.walk hX mixed d23 rfl ?_
  simp
  refine CW.block ?_
  refine CW.loop (lsmI H1 va vb ls.length 0) ?_ (m := ls.length) ⟨0, 0, rfl, by omega, rfl, by simp [e0], by simp [e1], by simp, rfl, rfl⟩
  clear e0 e1
  rintro m ⟨e, ds⟩ H2 ⟨i, i5, rfl, hi, hi5, e0, e1, e5, rfl, rfl⟩
  obtain rfl : i5 = i := by omega
  dsimp only at e0 e1 e5
  by_cases hil : i5 < ls.length
  rotate_left
  · rcases h1 with ⟨rfl, h1⟩ | ⟨r1, c1, rfl⟩
    · refine CW.walk hX mixed d23 rfl ?_
      simp [e0, e5, show ¬ (i5 : Int) < 0 by omega]
    · refine CW.walk hX mixed d23 rfl ?_
      simp [e0, e5, hil]
  obtain ⟨l, hl2⟩ : ∃ l, ls[i5]? = some l := ⟨_, List.getElem?_eq_getElem hil⟩
  obtain ⟨hm1, hm2⟩ := hm l (List.mem_of_getElem? hl2)
  obtain ⟨r, c2, cs, vt, vb1, rfl, hr, g0, g1, g2, st, sb⟩ := LpsR.get ha hl2
  obtain ⟨r', c2', cs', vt', vb1', rfl, hr', g0', g1', g2', st', sb'⟩ := LpsR.get hb hl2
  refine CW.walk hX mixed d23 rfl ?_
  simp [e0, e5, hil]
  refine CW.cut (lsmI H2 (.ref r 0 ls.length c2) (.ref r' 0 ls.length c2') ls.length 1 (ls.length - (i5 + 1))) ?_ ?_
  · refine CW.block ?_
    refine CW.walk hX mixed d23 rfl ?_
    simp [d23, e0, e1, e5, hil, hr, hr', g0, g0', g1, g1', g2, g2']
    refine (same_f hX st st' (by rw [natL_len]; omega)).k ?_
    rintro x H3 ⟨rfl, rfl⟩
    simp [d23, e0, e1, e5, hil, hr, hr', g0, g0', g1, g1', g2, g2']
    refine (same_f hX sb sb' (by rw [natL_len]; omega)).k ?_
    rintro x H4 ⟨rfl, rfl⟩
    simp
    refine CW.condE hX (b := false) (by simp) (fun h => by cases h) (fun _ => ?_)
    refine CW.walk1 hX mixed d23 rfl ?_
    simp
    exact ⟨i5 + 1, i5, rfl, by omega, rfl, by simp [e0], by simp [e1], by simp [e5], rfl, rfl⟩
  clear e0 e1 e5
  rintro ⟨e, ds⟩ H3 ⟨i, i5', hii, hi, hi5, e0, e1, e5, rfl, rfl⟩
  dsimp only at e0 e1 e5
  obtain rfl : i = i5 + 1 := by omega
  obtain rfl : i5' = i5 := by omega
  refine CW.walk1 hX mixed d23 rfl ?_
  simp [e5]
  exact ⟨ls.length - (i5' + 1), by omega, i5' + 1, i5' + 1, rfl, hi, rfl, by simp [e0], by simp [e1], by simp; exact wrapI (by omega) (by omega), rfl, rfl⟩
end Go.Cl.Gd
/- The reference's Reducible. -/
set_option linter.unusedSimpArgs false
set_option linter.unusedVariables false
namespace Go.Cl.Gd
open Go.Proofs
variable {W : World} {G : Nat → CV}
set_option maxRecDepth 8000
set_option maxHeartbeats 1000000
/-- A block's place in an order's first i, or 0. -/
def zP (order : List Nat) (i : Nat) (x : Nat) : Int := if x ∈ order.take i then (order.idxOf x : Int) else 0
theorem zP_step {order : List Nat} (hn : order.Nodup) {i b : Nat} (hb : order[i]? = some b) : (fun x => if x = b then (i : Int) else zP order i x) = zP order (i + 1) := by
  have h := rkP_step hn hb
  have ht : order.take (i + 1) = order.take i ++ [b] := take_get hb
  obtain ⟨hi, he⟩ := List.getElem?_eq_some_iff.1 hb
  have hx : order.idxOf b = i := by rw [← he]; exact hn.idxOf_getElem i hi
  funext x
  simp only [zP, ht, List.mem_append, List.mem_singleton]
  by_cases h1 : x = b
  · subst h1; simp [hx]
  · simp [h1]
theorem zP_all {order : List Nat} {k : Nat} (h : k ∈ order) : zP order order.length k = rkOf order k := by simp [zP, rkOf, h]
structure rrP (K : Hp) (vO vD : CV) (q1 rr n : Nat) (order : List Nat) (d m : Nat) (s' : CA) (H' : Hp) : Prop where
  ex : ∃ i i6 : Nat, m = order.length - i ∧ i ≤ order.length ∧ i6 + d = i ∧ s'.env 1 = .ptr q1 0 ∧ s'.env 3 = vO ∧ s'.env 4 = vD ∧ s'.env 5 = .ref rr 0 n n ∧ s'.env 6 = .int .i64 i6 ∧ s'.ds = [] ∧ H' = K.set rr (.cells (genC n (zP order i)))
structure rrI (H : Hp) (N : Nat → List Nat) (order : List Nat) (vO vD vP : CV) (q1 : Nat) (d m : Nat) (s' : CA) (H' : Hp) : Prop where
  ex : ∃ i i7 : Nat, m = order.length - i ∧ i ≤ order.length ∧ i7 + d = i ∧ s'.env 1 = .ptr q1 0 ∧ s'.env 3 = vO ∧ s'.env 4 = vD ∧ s'.env 5 = vP ∧ s'.env 7 = .int .i64 i7 ∧ s'.ds = [] ∧ H' = H ∧ ∀ b ∈ order.take i, RedB N order b
structure rrJ (H : Hp) (N : Nat → List Nat) (order : List Nat) (vO vD vP : CV) (q1 b i : Nat) (d m : Nat) (s' : CA) (H' : Hp) : Prop where
  ex : ∃ j j9 : Nat, m = (N b).length - j ∧ j ≤ (N b).length ∧ j9 + d = j ∧ s'.env 1 = .ptr q1 0 ∧ s'.env 3 = vO ∧ s'.env 4 = vD ∧ s'.env 5 = vP ∧ s'.env 7 = .int .i64 i ∧ s'.env 8 = .int .i64 b ∧ s'.env 9 = .int .i64 j9 ∧ s'.ds = [] ∧ H' = H ∧ ∀ k ∈ (N b).take j, rkOf order k ≤ rkOf order b → Dom N k b
theorem refReducible_c (hX : CxOk (cx W G)) {H : Hp} {vn : CV} {rs n : Nat} {N : Nat → List Nat} {s : Nat → Bool} (h : RGr H vn rs n N s) (h0 : 0 < n) (hn : n ≤ 80) (hN : ∀ b, b < n → ∀ k ∈ N b, k < n) (hNl : ∀ b, b < n → (N b).length ≤ 80) :
    CC Tryz.prog W 26 [.agg [vn, .ref rs 0 n n]] H fun x H' => ∃ t : Bool, x = .ret (.bool t) ∧ Le H H' ∧ (t = true ↔ RedU N (ordL N n)) := by
  refine CC.of_cw hX Tryz.func26 rfl rfl (Nat.le_of_ble_eq_true rfl) ?_
  obtain ⟨rn, cn, cs0, hvn, hcn, hrn0, hrow0⟩ := h.rows
  subst hvn
  refine CW.walk hX mixed d26 rfl ?_
  simp
  intro q1 hq1
  have hle1 : Le H (H.set q1 (.cells [.ref rn 0 n cn, .ref rs 0 n n])) := Le.set_new hq1
  have m1 : (H.set q1 (.cells [.ref rn 0 n cn, .ref rs 0 n n])) q1 = some (.cells [.ref rn 0 n cn, .ref rs 0 n n]) := set_at
  generalize H.set q1 _ = B at hle1 m1 ⊢
  have hB := h.mono hle1
  have hNl2 : ∀ b, b < n → (N b).length ≤ 100000 := fun b hb => by have := hNl b hb; omega
  refine CW.walk hX mixed d26 rfl ?_
  simp [m1]
  refine (orderG_f hX h0 hN (by omega) hNl2 hB.rows hB.rs).k ?_
  rintro x C ⟨vO, rfl, hO, hleC⟩
  have m1C := hleC _ _ m1
  have hC := hB.mono hleC
  simp
  refine CW.walk hX mixed d26 rfl ?_
  simp [m1C]
  refine (doms_c hX hC h0 hn hN hNl2).k ?_
  rintro x K ⟨vD, rfl, hleK, rD, cD, csD, rfl, hrD, hraD⟩
  have m1K := hleK _ _ m1C
  have hOK := hO.mono hleK
  have hOR := ord_of (N := N) h0 hN (f := n) (Nat.le_refl _)
  have hnd : (ordL N n).Nodup := hOR.nd
  have hlt : ∀ b ∈ ordL N n, b < n := hOR.lt
  have hmem : ∀ b ∈ ordL N n, ∀ k ∈ N b, k ∈ ordL N n := fun b hb k hk => (hOR.mem k).2 (((hOR.mem b).1 hb).step hk)
  have hleB := (hle1.trans hleC).trans hleK
  clear hOR
  have hlen : (ordL N n).length ≤ n := nodup_le n _ hnd hlt
  simp
  generalize hord : ordL N n = order at *
  refine CW.walk hX mixed d26 rfl ?_
  simp [m1K]
  refine ⟨by omega, by omega, fun rr hrr => ?_⟩
  have hz : List.map (fun i => [CV.int .i64 0][i % 1]?.getD CV.any) (List.range n) = genC n (zP order 0) := by
    apply List.ext_getElem?
    intro j
    by_cases hjn : j < n
    · rw [genC_get hjn]; simp [hjn, Nat.mod_one, zP]
    · rw [List.getElem?_eq_none (by simp; omega), List.getElem?_eq_none (by rw [genC_len]; omega)]
  rw [hz]
  have hup : ∀ o, Le K (K.set rr o) := fun o => Le.set_new hrr
  obtain ⟨ro, co, cso, rfl, hro, hco⟩ : ∃ ro co cso, vO = .ref ro 0 order.length co ∧ K ro = some (.cells cso) ∧ ∀ (k b : Nat), order[k]? = some b → cso[k]? = some (ci (b : Int)) := by
    rcases hOK with ⟨_, h1⟩ | ⟨r, c, cs, h1, h2, h3⟩
    · have h1 : order = [] := by simpa [natL] using h1
      have hm : (0 : Nat) ∈ order := by rw [← hord]; exact ((ord_of (N := N) h0 hN (f := n) (Nat.le_refl _)).mem 0).2 .refl
      rw [h1] at hm; cases hm
    · exact ⟨r, _, cs, by rw [h1, natL_len], h2, fun k b hk => h3 k (b : Int) (by simp [natL, hk])⟩
  refine CW.cut (fun s' H' => s'.env 1 = .ptr q1 0 ∧ s'.env 3 = .ref ro 0 order.length co ∧ s'.env 4 = .ref rD 0 n cD ∧ s'.env 5 = .ref rr 0 n n ∧ s'.ds = [] ∧ H' = K.set rr (.cells (genC n (zP order order.length)))) ?_ ?_
  · refine CW.walk hX mixed d26 rfl ?_
    simp
    refine CW.block ?_
    refine CW.loop (rrP K (.ref ro 0 order.length co) (.ref rD 0 n cD) q1 rr n order 0) ?_ (m := order.length) ⟨0, 0, rfl, by omega, rfl, by simp, by simp, by simp, by simp, by simp, rfl, rfl⟩
    rintro m ⟨e, ds⟩ H3 ⟨i, i6, rfl, hi, hi6, e1, e3, e4, e5, e6, rfl, rfl⟩
    obtain rfl : i6 = i := by omega
    dsimp only at e1 e3 e4 e5 e6
    by_cases hil : i6 < order.length
    rotate_left
    · obtain rfl : i6 = order.length := by omega
      refine CW.walk hX mixed d26 rfl ?_
      simp [e3, e6]
      exact ⟨by simp [e1], by simp [e4], by simp [e5]⟩
    obtain ⟨b, hb⟩ : ∃ b, order[i6]? = some b := ⟨_, List.getElem?_eq_getElem hil⟩
    have hbn := hlt b (List.mem_of_getElem? hb)
    have hcb := hco i6 b hb
    have hro3 := hup (.cells (genC n (zP order i6))) _ _ hro
    have hput := genC_put (n := n) (f := zP order i6) (i := b) (v := (i6 : Int)) hbn
    rw [zP_step hnd hb] at hput
    refine CW.walk hX mixed d26 rfl ?_
    simp [e3, e6, hil]
    refine CW.cut (rrP K (.ref ro 0 order.length co) (.ref rD 0 n cD) q1 rr n order 1 (order.length - (i6 + 1))) ?_ ?_
    · refine CW.block ?_
      refine CW.walk1 hX mixed d26 rfl ?_
      simp [e3, e5, e6, hil, hro3, hcb, hbn]
      refine ⟨by rw [genC_len]; omega, ?_⟩
      rw [hput]
      exact ⟨i6 + 1, i6, rfl, by omega, rfl, by simp [e1], by simp [e3], by simp [e4], by simp [e5], by simp [e6], rfl, rfl⟩
    clear e1 e3 e4 e5 e6
    rintro ⟨e, ds⟩ H4 ⟨i, i6', hii, hi, hi6, e1, e3, e4, e5, e6, rfl, rfl⟩
    dsimp only at e1 e3 e4 e5 e6
    obtain rfl : i = i6 + 1 := by omega
    obtain rfl : i6' = i6 := by omega
    refine CW.walk1 hX mixed d26 rfl ?_
    simp [e6]
    exact ⟨order.length - (i6' + 1), by omega, i6' + 1, i6' + 1, rfl, hi, rfl, by simp [e1], by simp [e3], by simp [e4], by simp [e5], by simp; exact wrapI (by omega) (by omega), rfl, rfl⟩
  rintro ⟨e, ds⟩ H3 ⟨e1, e3, e4, e5, rfl, hH3⟩
  dsimp only at e1 e3 e4 e5
  have hleF : Le K H3 := by rw [hH3]; exact hup _
  have hrr3 : H3 rr = some (.cells (genC n (zP order order.length))) := by rw [hH3]; exact set_at
  clear hH3
  have m1F := hleF _ _ m1K
  have hroF := hleF _ _ hro
  have hrDF := hleF _ _ hrD
  have hraF : ∀ a, a < n → ∃ ra, csD[a]? = some (.ref ra 0 n n) ∧ H3 ra = some (.cells (boolC n (domB N a))) := fun a ha => by obtain ⟨ra, k1, k2⟩ := hraD a ha; exact ⟨ra, k1, hleF _ _ k2⟩
  have hrowF : ∀ b, b < n → ∃ w, cs0[b]? = some w ∧ SlF H3 w (natL (N b)) := fun b hb => by obtain ⟨w, k1, k2⟩ := hrow0 b hb; exact ⟨w, k1, (k2.mono hleB).mono hleF⟩
  have hrnF := hleF _ _ (hleB _ _ hrn0)
  have hle := hleB.trans hleF
  clear m1 m1C m1K hB hC hO hOK hup hraD hrow0 hro hrD hrn0 hleB
  refine CW.cut (fun s' H' => s'.ds = [] ∧ H' = H3 ∧ ∀ b ∈ order, RedB N order b) ?_ ?_
  · refine CW.walk hX mixed d26 rfl ?_
    simp
    refine CW.block ?_
    refine CW.loop (rrI H3 N order (.ref ro 0 order.length co) (.ref rD 0 n cD) (.ref rr 0 n n) q1 0) ?_ (m := order.length) ⟨0, 0, rfl, by omega, rfl, by simp [e1], by simp [e3], by simp [e4], by simp [e5], by simp, rfl, rfl, by simp⟩
    clear e1 e3 e4 e5
    rintro m ⟨e, ds⟩ H4 ⟨i, i7, rfl, hi, hi7, e1, e3, e4, e5, e7, rfl, rfl, hall⟩
    obtain rfl : i7 = i := by omega
    dsimp only at e1 e3 e4 e5 e7
    by_cases hil : i7 < order.length
    rotate_left
    · refine CW.walk hX mixed d26 rfl ?_
      simp [e3, e7, hil]
      intro b hb
      exact hall b (by rwa [List.take_of_length_le (by omega)])
    obtain ⟨b, hb⟩ : ∃ b, order[i7]? = some b := ⟨_, List.getElem?_eq_getElem hil⟩
    have hbo : b ∈ order := List.mem_of_getElem? hb
    have hbn := hlt b hbo
    have hcb := hco i7 b hb
    have hrkb := rkOf_at hnd hb
    obtain ⟨w, hw, hsw⟩ := hrowF b hbn
    have hwl : (w = .nilsl ∧ (N b).length = 0) ∨ ∃ r c, w = .ref r 0 (N b).length c := by
      rcases hsw with ⟨h1, h2⟩ | ⟨r, c, cs, h1, _⟩
      · exact .inl ⟨h1, by simpa [natL] using h2⟩
      · exact .inr ⟨r, _, by rw [h1, natL_len]⟩
    refine CW.walk hX mixed d26 rfl ?_
    simp [e3, e7, hil]
    refine CW.cut (rrI H4 N order (.ref ro 0 order.length co) (.ref rD 0 n cD) (.ref rr 0 n n) q1 1 (order.length - (i7 + 1))) ?_ ?_
    · refine CW.block ?_
      refine CW.walk hX mixed d26 rfl ?_
      simp [e3, e7, hil, hroF, hcb]
      refine CW.walk hX mixed d26 rfl ?_
      simp
      refine CW.block ?_
      refine CW.loop (rrJ H4 N order (.ref ro 0 order.length co) (.ref rD 0 n cD) (.ref rr 0 n n) q1 b i7 0) ?_ (m := (N b).length) ⟨0, 0, rfl, by omega, rfl, by simp [e1], by simp [e3], by simp [e4], by simp [e5], by simp [e7], by simp, by simp, rfl, rfl, by simp⟩
      clear e1 e3 e4 e5 e7
      rintro m ⟨e, ds⟩ H5 ⟨j, j9, rfl, hj, hj9, e1, e3, e4, e5, e7, e8, e9, rfl, rfl, hin⟩
      obtain rfl : j9 = j := by omega
      dsimp only at e1 e3 e4 e5 e7 e8 e9
      by_cases hjl : j9 < (N b).length
      rotate_left
      · have hend : ∀ en : Env, en 1 = .ptr q1 0 → en 3 = .ref ro 0 order.length co → en 4 = .ref rD 0 n cD → en 5 = .ref rr 0 n n → en 7 = .int .i64 i7 → rrI H5 N order (.ref ro 0 order.length co) (.ref rD 0 n cD) (.ref rr 0 n n) q1 1 (order.length - (i7 + 1)) ⟨en, []⟩ H5 := fun en k1 k3 k4 k5 k7 => ⟨i7 + 1, i7, rfl, by omega, rfl, k1, k3, k4, k5, k7, rfl, rfl, fun b' hb' => by
          rw [take_get hb, List.mem_append] at hb'
          rcases hb' with hb' | hb'
          · exact hall b' hb'
          · simp at hb'; subst hb'
            rw [List.take_of_length_le (by omega)] at hin
            exact hin⟩
        rcases hwl with ⟨rfl, hl0⟩ | ⟨r, c2, rfl⟩
        · obtain rfl : j9 = 0 := by omega
          refine CW.walk hX mixed d26 rfl ?_
          simp [e1, e8, e9, m1F, hrnF, hw, hbn]
          exact hend _ (by simp [e1]) (by simp [e3]) (by simp [e4]) (by simp [e5]) (by simp [e7])
        · refine CW.walk hX mixed d26 rfl ?_
          simp [e1, e8, e9, m1F, hrnF, hw, hbn, hjl]
          exact hend _ (by simp [e1]) (by simp [e3]) (by simp [e4]) (by simp [e5]) (by simp [e7])
      obtain ⟨k, hk⟩ : ∃ k, (N b)[j9]? = some k := ⟨_, List.getElem?_eq_getElem hjl⟩
      have hkm := List.mem_of_getElem? hk
      have hkn := hN b hbn k hkm
      have hko := hmem b hbo k hkm
      have gk := genC_get (f := zP order order.length) hkn
      rw [zP_all hko] at gk
      obtain ⟨r, c2, cs2, rfl, hr, hc2⟩ : ∃ r c2 cs2, w = .ref r 0 (N b).length c2 ∧ H5 r = some (.cells cs2) ∧ cs2[j9]? = some (ci (k : Int)) := by
        rcases hsw with ⟨_, hl⟩ | ⟨r, c2, cs2, e, hr, hc2⟩
        · have hl0 : N b = [] := by simpa [natL] using hl
          rw [hl0] at hjl; simp at hjl
        · exact ⟨r, _, cs2, by rw [e, natL_len], hr, hc2 j9 k (by simp [natL, hk])⟩
      refine CW.walk hX mixed d26 rfl ?_
      simp [e1, e8, e9, m1F, hrnF, hw, hbn, hjl]
      refine CW.cut (rrJ H5 N order (.ref ro 0 order.length co) (.ref rD 0 n cD) (.ref rr 0 n n) q1 b i7 1 ((N b).length - (j9 + 1))) ?_ ?_
      · have hgo : ∀ en : Env, (rkOf order k ≤ rkOf order b → Dom N k b) → en 1 = .ptr q1 0 → en 3 = .ref ro 0 order.length co → en 4 = .ref rD 0 n cD → en 5 = .ref rr 0 n n → en 7 = .int .i64 i7 → en 8 = .int .i64 b → en 9 = .int .i64 j9 → rrJ H5 N order (.ref ro 0 order.length co) (.ref rD 0 n cD) (.ref rr 0 n n) q1 b i7 1 ((N b).length - (j9 + 1)) ⟨en, []⟩ H5 := fun en hd k1 k3 k4 k5 k7 k8 k9 => ⟨j9 + 1, j9, rfl, by omega, rfl, k1, k3, k4, k5, k7, k8, k9, rfl, rfl, fun k' hk' => by
          rw [take_get hk, List.mem_append] at hk'
          rcases hk' with hk' | hk'
          · exact hin k' hk'
          · simp at hk'; subst hk'; exact hd⟩
        refine CW.block ?_
        refine CW.walk hX mixed d26 rfl ?_
        simp [e1, e8, e9, m1F, hrnF, hw, hbn, hjl, hr, hc2]
        obtain ⟨ra, f1, f2⟩ := hraF k hkn
        have f3 := boolC_get (p := domB N k) hbn
        by_cases hrk : rkOf order k ≤ (i7 : Int)
        rotate_left
        · refine CW.walk hX mixed d26 rfl ?_
          simp [d26, e5, e7, hrr3, gk, hkn, hrk]
          refine CW.condE hX (b := false) (by simp) (fun h => by cases h) (fun _ => ?_)
          refine CW.walk1 hX mixed d26 rfl ?_
          simp
          exact hgo _ (fun h => absurd (hrkb ▸ h) hrk) (by simp [e1]) (by simp [e3]) (by simp [e4]) (by simp [e5]) (by simp [e7]) (by simp [e8]) (by simp [e9])
        cases ht : domB N k b with
        | true =>
          refine CW.walk hX mixed d26 rfl ?_
          simp [d26, e4, e5, e7, e8, hrr3, gk, hkn, hrk, hrDF, f1, f2, ht, hbn, boolC_len]
          refine CW.condE hX (b := false) (by simp) (fun h => by cases h) (fun _ => ?_)
          refine CW.walk1 hX mixed d26 rfl ?_
          simp
          exact hgo _ (fun _ => domB_iff.1 ht) (by simp [e1]) (by simp [e3]) (by simp [e4]) (by simp [e5]) (by simp [e7]) (by simp [e8]) (by simp [e9])
        | false =>
          refine CW.walk hX mixed d26 rfl ?_
          simp [d26, e4, e5, e7, e8, hrr3, gk, hkn, hrk, hrDF, f1, f2, ht, hbn, boolC_len]
          refine CW.condE hX (b := true) (by simp) (fun _ => ?_) (fun h => by cases h)
          refine CW.walk hX mixed d26 rfl ?_
          simp
          refine CW.walk1 hX mixed d26 rfl ?_
          simp
          exact ⟨hle, fun hall => by
            have := domB_iff.2 (hall b hbo k hkm (by rw [hrkb]; exact hrk))
            rw [ht] at this; cases this⟩
      clear e1 e3 e4 e5 e7 e8 e9
      rintro ⟨e, ds⟩ H6 ⟨j, j9', hjj, hj, hj9, e1, e3, e4, e5, e7, e8, e9, rfl, rfl, hin2⟩
      dsimp only at e1 e3 e4 e5 e7 e8 e9
      obtain rfl : j = j9 + 1 := by omega
      obtain rfl : j9' = j9 := by omega
      have hbl := hNl b hbn
      refine CW.walk1 hX mixed d26 rfl ?_
      simp [e9]
      exact ⟨(N b).length - (j9' + 1), by omega, j9' + 1, j9' + 1, rfl, hj, rfl, by simp [e1], by simp [e3], by simp [e4], by simp [e5], by simp [e7], by simp [e8], by simp; exact wrapI (by omega) (by omega), rfl, rfl, hin2⟩
    clear e1 e3 e4 e5 e7
    rintro ⟨e, ds⟩ H5 ⟨i, i7', hii, hi, hi7, e1, e3, e4, e5, e7, rfl, rfl, hall2⟩
    dsimp only at e1 e3 e4 e5 e7
    obtain rfl : i = i7 + 1 := by omega
    obtain rfl : i7' = i7 := by omega
    refine CW.walk1 hX mixed d26 rfl ?_
    simp [e7]
    exact ⟨order.length - (i7' + 1), by omega, i7' + 1, i7' + 1, rfl, hi, rfl, by simp [e1], by simp [e3], by simp [e4], by simp [e5], by simp; exact wrapI (by omega) (by omega), rfl, rfl, hall2⟩
  rintro ⟨e, ds⟩ H4 ⟨rfl, rfl, hred⟩
  refine CW.walk hX mixed d26 rfl ?_
  simp
  refine CW.walk1 hX mixed d26 rfl ?_
  simp
  exact ⟨hle, hred⟩
end Go.Cl.Gd
