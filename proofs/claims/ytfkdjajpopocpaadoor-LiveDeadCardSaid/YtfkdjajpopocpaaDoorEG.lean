/- DERIVED HERE. The reference's Engine: Go. -/
import Derived.Test.YtfkdjajpopocpaaDoorEF
import Derived.Test.YtfkdjajpopocpaaDoorTG
set_option linter.unusedSimpArgs false
set_option linter.unusedVariables false
namespace Go.Cl
open Go.Proofs Dd
variable {W : World} {G : Nat → CV}
set_option maxRecDepth 8000
set_option maxHeartbeats 4000000
/-! ### Steps and prints of the pure run -/
theorem trapE_ps (u : UUnit) (n : Int) (e : Eng) : (trapE u n e).out.prints = e.out.prints ∧ (trapE u n e).steps = e.steps := by
  simp only [trapE]; split <;> exact ⟨rfl, rfl⟩
theorem lastE_ps (u : UUnit) (d : UEnd) (e : Eng) : (lastE u d e).out.prints = e.out.prints ∧ (lastE u d e).steps = e.steps := by
  simp only [lastE]
  repeat' split
  all_goals first | exact trapE_ps _ _ _ | exact ⟨rfl, rfl⟩
theorem ite_P {α : Type} {c : Prop} [Decidable c] {P : α → Prop} {x y : α} (hx : P x) (hy : P y) : P (if c then x else y) := by
  by_cases h : c
  · rw [if_pos h]; exact hx
  · rw [if_neg h]; exact hy
def PSq (e f : Eng) : Prop := f.out.prints.length ≤ e.out.prints.length + 1 ∧ f.steps = e.steps
theorem opE_ps (M : MathF) (u : UUnit) (o : UOp) (e : Eng) : PSq e (opE M u o e) := by
  have ht : ∀ n, PSq e (trapE u n e) := fun n => by
    have := trapE_ps u n e
    refine ⟨?_, this.2⟩
    rw [this.1]; exact Nat.le_succ _
  have hs : ∀ f : Eng, f.out = e.out → f.steps = e.steps → PSq e f := fun f h1 h2 => ⟨by rw [h1]; exact Nat.le_succ _, h2⟩
  simp only [opE, bodyE, memE]
  repeat' refine ite_P (P := PSq e) ?_ ?_
  all_goals first | exact ht _ | exact hs _ rfl rfl | exact ⟨Nat.le_of_eq (List.length_append), rfl⟩ | exact ⟨Nat.le_succ _, rfl⟩
theorem stepE_ps (M : MathF) (u : UUnit) (e : Eng) : (stepE M u e).out.prints.length ≤ e.out.prints.length + 1 ∧ (stepE M u e).steps = e.steps + 1 := by
  simp only [stepE]
  split
  · have := opE_ps M u ‹UOp› { e with steps := e.steps + 1, pc := e.pc + 1 }
    exact ⟨this.1, this.2⟩
  · have := lastE_ps u (blkAt u e.block).en { e with steps := e.steps + 1 }
    rw [this.1]; exact ⟨Nat.le_succ _, this.2⟩
def allT : Nat → Bool := fun _ => true
theorem allT_p (ops : List UOp) : PCl ops allT allT := fun o _ => by simp [spreadN, allT]
theorem allT_l (u : UUnit) (p : Nat → Bool) : LCl u p (fun _ => allT) := fun _ _ _ _ => rfl
theorem step_ok {u : UUnit} (hw : wfU u = true) {e : Eng} (h : SInv u allT allT e) (hd : e.done = false) : SInv u allT allT (stepE mathM u e) := by
  have := step_inv (M := mathM) hw (allT_p _) (allT_l u allT) mathM_trap 1 h
  simpa [goE, hd] using this
theorem goE_ok {u : UUnit} (hw : wfU u = true) {e : Eng} (h : SInv u allT allT e) (n : Nat) : SInv u allT allT (goE mathM u n e) := step_inv (M := mathM) hw (allT_p _) (allT_l u allT) mathM_trap n h
theorem goE_ps (M : MathF) (u : UUnit) : ∀ (n : Nat) (e : Eng), (goE M u n e).out.prints.length ≤ e.out.prints.length + n ∧ e.steps ≤ (goE M u n e).steps ∧ (goE M u n e).steps ≤ e.steps + n
  | 0, e => by simp [goE]
  | n + 1, e => by
    simp only [goE]
    split
    · omega
    · have h1 := stepE_ps M u e
      have h2 := goE_ps M u n (stepE M u e)
      omega
theorem goE_done (M : MathF) (u : UUnit) (n : Nat) {e : Eng} (h : e.done = true) : goE M u n e = e := by
  cases n <;> simp [goE, h]
theorem Fz.ciInv {H : Hp} {x : CV} {n : Int} (h : Fz H x (ci n)) : x = ci n := by cases h; rfl
/-- An element of a frozen slice whose cells are numbers. -/
theorem Fz.elem {H : Hp} {x : CV} {sz : Nat} {xs : List (List CV)} (h : Fz H x (.sl sz xs)) {i : Nat} {e : List CV} (he : xs[i]? = some e) (hp : ∀ c ∈ e, ∃ n, c = ci n) (hsz : 0 < sz) : (x = .sl sz xs) ∨ ∃ r o c cs, x = .ref r o xs.length c ∧ H r = some (.cells cs) ∧ e.length = sz ∧ (cs.drop (o + i * sz)).take sz = e ∧ o + i * sz + sz ≤ cs.length := by
  have hi := (List.getElem?_eq_some_iff.1 he).1
  cases h with
  | same => exact .inl rfl
  | nil => simp at hi
  | ref r o n c sz cs xs hr hn hc hz y hy hf =>
    subst hn
    have hl := hz i e he
    have hcell : ∀ j, j < sz → cs[o + (i * sz + j)]? = e[j]? := fun j hj => by
      have hj' : j < e.length := by omega
      obtain ⟨n, hn⟩ := hp _ (List.getElem_mem hj')
      have h1 := hf i j e _ he (List.getElem?_eq_getElem hj')
      rw [hn] at h1
      rw [hy i j hi hj, h1.ciInv, List.getElem?_eq_getElem hj', hn]
    have hle : o + i * sz + sz ≤ cs.length := by
      have := hcell (sz - 1) (by omega)
      rw [List.getElem?_eq_getElem (show sz - 1 < e.length by omega)] at this
      have := (List.getElem?_eq_some_iff.1 this).1
      omega
    refine .inr ⟨r, o, c, cs, rfl, hr, hl, ?_, ?_⟩
    · apply List.ext_getElem?
      intro j
      rw [List.getElem?_take]
      split
      · rename_i hj; rw [List.getElem?_drop, ← hcell j hj, Nat.add_assoc]
      · rename_i hj; rw [List.getElem?_eq_none (by omega)]
    · exact hle
structure goI (B : Hp) (κ : Nat → Nat) (a : EV) (u : UUnit) (e : Eng) (n d : Nat) (j : Nat) (s' : CA) (H' : Hp) : Prop where
  ex : ∃ (i i4 : Nat) (ei : Eng) (lab' : Nat → Nat) (vP vW : CV), i ≤ n ∧ j = n - i ∧ s'.env 0 = .ptr a.q 0 ∧ s'.env 1 = .int .i64 n ∧ s'.env 4 = .int .i64 i4 ∧ i4 + d = i ∧ s'.ds = [] ∧ EH B H' lab' κ { a with vP := vP, vW := vW } u ei ∧ goE mathM u (n - i) ei = goE mathM u n e ∧ SInv u allT allT ei ∧ 0 ≤ ei.steps ∧ ei.steps ≤ e.steps + i ∧ ei.out.prints.length ≤ e.out.prints.length + i
theorem go12_c (hX : CxOk (cx W G)) {B H : Hp} {lab κ : Nat → Nat} {a : EV} {u : UUnit} {e : Eng} (h : EH B H lab κ a u e) (hu : UB B a u) (hw : wfU u = true) (hi : SInv u allT allT e) (n : Nat) (hn : n ≤ 100000) (hs0 : 0 ≤ e.steps) (hs1 : e.steps ≤ 100000) (hpr : e.out.prints.length ≤ 100000) :
    CC Tryd.prog W 12 [.ptr a.q 0, .int .i64 n] H fun x H' => x = .ret (.tuple []) ∧ ∃ lab' vP vW, EH B H' lab' κ { a with vP := vP, vW := vW } u (goE mathM u n e) := by
  refine CC.of_cw hX Tryd.func12 rfl rfl (Nat.le_of_ble_eq_true rfl) ?_
  refine CW.walk hX mixed d12 rfl ?_
  simp
  refine CW.block ?_
  refine CW.loop (goI B κ a u e n 0) ?_ (m := n) ⟨0, 0, e, lab, a.vP, a.vW, by omega, rfl, by simp, by simp, by simp, rfl, rfl, h, rfl, hi, hs0, by omega, by omega⟩
  rintro j ⟨en, ds⟩ H1 ⟨i, i4, ei, lab1, vP, vW, hin, rfl, e0, e1, e4, hi4, rfl, h1, hgo, hok, hst0, hst1, hpr1⟩
  obtain rfl : i = i4 := by omega
  dsimp only at e0 e1 e4
  have hq := h1.hq
  simp only [engC] at hq
  by_cases hex : i < n ∧ ei.done = false
  rotate_left
  · have hfin : goE mathM u n e = ei := by
      rw [← hgo]
      by_cases hd : ei.done = true
      · exact goE_done _ _ _ hd
      · have : n - i = 0 := by
          have : ¬ i < n := fun k => hex ⟨k, by simpa using hd⟩
          omega
        rw [this]; rfl
    rw [hfin]
    refine CW.walk hX mixed d12 rfl ?_
    by_cases hlt : i < n
    · have hd : ei.done = true := by cases hdd : ei.done; exact absurd ⟨hlt, hdd⟩ hex; rfl
      simp [e0, e1, e4, hq, hlt, hd]
      exact ⟨lab1, vP, vW, h1⟩
    · simp [e0, e1, e4, hlt]
      exact ⟨lab1, vP, vW, h1⟩
  obtain ⟨hlt, hd⟩ := hex
  refine CW.walk hX mixed d12 rfl ?_
  simp [e0, e1, e4, hq, hlt, hd]
  obtain ⟨rb, cb, csb, hv5, mb, hbb⟩ := hu.b
  obtain ⟨x0, hx0, hfx⟩ := hbb ei.block _ (blk_at hok.b)
  have hx5 := blk_cell hx0 (t := 0) (by omega)
  generalize hk : blkAt u ei.block = k at hx0 hfx hx5
  have hok' := step_ok hw hok hd
  have hps := stepE_ps mathM u ei
  have hgo' : goE mathM u (n - (i + 1)) (stepE mathM u ei) = goE mathM u n e := by
    rw [← hgo, show n - i = (n - (i + 1)) + 1 by omega]
    simp [goE, hd]
  refine CW.cut (goI B κ a u e n 1 (n - (i + 1))) ?_ ?_
  rotate_left
  · rintro ⟨en, ds⟩ H2 ⟨i', i4, ei', lab2, vP', vW', hin', hj', e0, e1, e4, hi4, rfl, h2, hgo2, hok2, hst2, hst3, hpr2⟩
    dsimp only at e0 e1 e4
    refine CW.walk1 hX mixed d12 rfl ?_
    simp [e4]
    refine ⟨n - (i + 1), by omega, i', i', ei', lab2, vP', vW', hin', hj', by simp [e0], by simp [e1], by simp; rw [wrapI (by omega) (by omega)]; omega, rfl, rfl, h2, hgo2, hok2, hst2, hst3, hpr2⟩
  refine CW.block ?_
  have mb1 := h1.le _ _ mb
  have h3 := h1.setq (e' := { ei with steps := ei.steps + 1 }) rfl rfl rfl rfl
  refine CW.walk hX mixed d12 rfl ?_
  simp [e0, hq, wrapI (show (-9223372036854775808 : Int) ≤ ei.steps + 1 by omega) (show ei.steps + 1 ≤ 9223372036854775807 by omega)]
  generalize hH2 : H1.set a.q _ = H2
  replace h3 : EH B H2 lab1 κ { a with vP := vP, vW := vW } u { ei with steps := ei.steps + 1 } := by rw [← hH2]; exact h3
  clear hH2 hq h1
  have hq := h3.hq
  simp only [engC] at hq
  rw [hv5] at hq
  have mb1 := h3.le _ _ mb
  have hbl := hok.b
  have hlen : ei.block * 6 + 6 ≤ csb.length := by
    have := congrArg List.length hx0
    simp [blkT] at this
    omega
  refine CW.walk hX mixed d12 rfl ?_
  simp [d12, e0, hq, mb1, hbl, hx0]
  refine ⟨by omega, fun r5 n5 => ⟨by omega, ?_⟩⟩
  have h5 := h3.more (r := r5) (o := .cells (x0 :: blkT k)) n5
  have hBB5 : Le B (B.set r5 (.cells (x0 :: blkT k))) := Le.set_new (h3.le.none n5)
  have m5 : (H2.set r5 (.cells (x0 :: blkT k))) r5 = some (.cells (x0 :: blkT k)) := set_at
  generalize H2.set r5 (.cells (x0 :: blkT k)) = H5 at h5 m5 ⊢
  generalize B.set r5 (.cells (x0 :: blkT k)) = B5 at h5 hBB5
  generalize fset lab1 r5 0 = lab5 at h5
  have hu5 : UB B5 { a with vP := vP, vW := vW } u := ⟨(hu.mono hBB5).b⟩
  have hf5 := (hfx.mono hBB5).mono h5.le
  clear hq h3 mb1
  have hq := h5.hq
  simp only [engC] at hq
  simp only [blkT] at m5
  have hkb : u.blocks[ei.block]? = some k := by rw [← hk]; exact blk_at hok.b
  obtain ⟨_, hkl, hwo, hwe⟩ := wfB_facts hw hkb
  have hpl : ei.pc ≤ k.ops.length := by rw [← hk]; exact hok.pc
  by_cases hpc : ei.pc < k.ops.length
  · obtain ⟨o, hoe⟩ : ∃ o, k.ops[ei.pc] = o := ⟨_, rfl⟩
    have ho : k.ops[ei.pc]? = some o := by rw [List.getElem?_eq_getElem hpc, hoe]
    have hst : stepE mathM u ei = opE mathM u o { ei with steps := ei.steps + 1, pc := ei.pc + 1 } := stepE_some (by rw [hk]; exact ho)
    have hop := op30_c hX (e := { ei with steps := ei.steps + 1 }) h5 hu5 hw hok.b (by show ei.pc ≤ 1000000; omega) (by show ei.out.prints.length ≤ 1000000; omega) o (hwo o (List.mem_of_getElem? ho))
    simp only [opC] at hop
    have fin : ∀ en H' lab' vP' vW', en 0 = .ptr a.q 0 → en 1 = .int .i64 n → en 4 = .int .i64 i → EH B5 H' lab' κ { a with vP := vP', vW := vW' } u (opE mathM u o { ei with steps := ei.steps + 1, pc := ei.pc + 1 }) → goI B κ a u e n 1 (n - (i + 1)) ⟨en, []⟩ H' := fun en H' lab' vP' vW' g0 g1 g4 hE => by
      rw [← hst] at hE
      exact ⟨i + 1, i, _, lab', vP', vW', hlt, rfl, g0, g1, g4, rfl, rfl, hE.base hBB5, hgo', hok', by omega, by rw [hps.2]; push_cast; omega, by omega⟩
    have hox : (k.ops.map opC)[ei.pc]? = some (opC o) := by rw [List.getElem?_map, ho]; rfl
    rcases hf5.elem hox (by simp [opC]) (by omega) with rfl | ⟨ro, oo, co, cso, rfl, mo, _, hto, hlo⟩
    · refine CW.walk1 hX mixed d12 rfl ?_
      simp [d12, e0, hq, m5, hpc, ho, hoe, opC]
      refine hop.k ?_
      rintro x H6 ⟨rfl, lab', vP', vW', hE⟩
      simp
      exact fin _ _ lab' vP' vW' (by simp [e0]) (by simp [e1]) (by simp [e4]) hE
    · refine CW.walk1 hX mixed d12 rfl ?_
      simp [d12, e0, hq, m5, hpc, mo, hto, opC]
      refine ⟨hlo, ?_⟩
      refine hop.k ?_
      rintro x H6 ⟨rfl, lab', vP', vW', hE⟩
      simp
      exact fin _ _ lab' vP' vW' (by simp [e0]) (by simp [e1]) (by simp [e4]) hE
  · have ho : (blkAt u ei.block).ops[ei.pc]? = none := by rw [hk]; exact List.getElem?_eq_none (by omega)
    have hst : stepE mathM u ei = lastE u k.en { ei with steps := ei.steps + 1 } := by rw [stepE_none ho, hk]
    have hla := last31_c hX (e := { ei with steps := ei.steps + 1 }) h5 hu5 hw hok.b k.en hwe
    simp only [endC] at hla
    refine CW.walk1 hX mixed d12 rfl ?_
    have fin : ∀ en H' lab' vW', en 0 = .ptr a.q 0 → en 1 = .int .i64 n → en 4 = .int .i64 i → EH B5 H' lab' κ { a with vP := vP, vW := vW' } u (lastE u k.en { ei with steps := ei.steps + 1 }) → goI B κ a u e n 1 (n - (i + 1)) ⟨en, []⟩ H' := fun en H' lab' vW' g0 g1 g4 hE => by
      rw [← hst] at hE
      exact ⟨i + 1, i, _, lab', vP, vW', hlt, rfl, g0, g1, g4, rfl, rfl, hE.base hBB5, hgo', hok', by omega, by rw [hps.2]; push_cast; omega, by omega⟩
    rcases hf5.slInv with rfl | ⟨rfl, hnil⟩ | ⟨ro, oo, co, rfl⟩
    · simp [d12, e0, hq, m5, hpc]
      refine hla.k ?_
      rintro x H6 ⟨rfl, lab', vW', hE⟩
      simp
      exact fin _ _ lab' vW' (by simp [e0]) (by simp [e1]) (by simp [e4]) hE
    · have hnil : k.ops = [] := by simpa using hnil
      simp [d12, e0, hq, m5]
      refine hla.k ?_
      rintro x H6 ⟨rfl, lab', vW', hE⟩
      simp
      exact fin _ _ lab' vW' (by simp [e0]) (by simp [e1]) (by simp [e4]) hE
    · simp [d12, e0, hq, m5, hpc]
      refine hla.k ?_
      rintro x H6 ⟨rfl, lab', vW', hE⟩
      simp
      exact fin _ _ lab' vW' (by simp [e0]) (by simp [e1]) (by simp [e4]) hE
end Go.Cl
