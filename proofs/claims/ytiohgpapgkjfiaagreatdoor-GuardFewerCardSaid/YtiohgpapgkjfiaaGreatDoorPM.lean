/- DERIVED HERE. ContainsFunc over numbers; what spreads poison. DERIVED HERE. What spreads poison. DERIVED HERE. All operations of a unit, gone through. -/
import Derived.Test.YtiohgpapgkjfiaaGreatDoorLM
set_option linter.unusedSimpArgs false
set_option linter.unusedVariables false
namespace Go.Cl
open Go.Proofs
variable {W : World} {G : Nat → CV}
set_option maxRecDepth 8000
/-- A slice of numbers that can be read. -/
def SlR (H : Hp) (v : CV) (l : List Int) : Prop := v = .sl 1 (ints l) ∨ (∃ r c cs, v = .ref r 0 l.length c ∧ H r = some (.cells cs) ∧ ∀ (k : Nat) x, l[k]? = some x → cs[k]? = some (ci x)) ∨ (v = .nilsl ∧ l = [])
theorem Own.slR {H0 H : Hp} {v : CV} {l : List Int} (h : Own H0 H v 1 (ints l)) : SlR H v l := by
  obtain ⟨_, _, ⟨rfl, hx⟩ | ⟨q, c, ex, rfl, hq, hq2, _⟩⟩ := h
  · exact .inr (.inr ⟨rfl, by simpa [ints] using hx⟩)
  · refine .inr (.inl ⟨q, c, _, by simp [ints], hq2, fun k x hk => ?_⟩)
    have := (List.getElem?_eq_some_iff.1 hk).1
    rw [ints_flat, List.getElem?_append_left (by simpa using this), List.getElem?_map, hk]
    rfl
theorem ints_len (l : List Int) : (ints l).length = l.length := by simp [ints]
theorem indexFunc_c (hX : CxOk (cx W G)) (v : CV) (l : List Int) (g : FuncId) (first cap : List CV) (q : Int → Bool) (H : Hp) (hv : SlR H v l) (hlen : l.length ≤ 1000000) (hf : ∀ x ∈ l, CC Tryz.prog W g (first ++ ci x :: cap) H fun r H' => r = .ret (.bool (q x)) ∧ H' = H) :
    CC Tryz.prog W 135 [v, .func (.func g) first cap] H fun x H' => ∃ k : Int, x = .ret (ci k) ∧ H' = H ∧ (0 ≤ k ↔ l.any q = true) := by
  have hv0 := hv
  rcases hv with rfl | ⟨r, c, cs, rfl, hr, hcs⟩ | ⟨rfl, rfl⟩
  all_goals
    refine CC.of_ev hX mixed d135 Tryz.func135 rfl rfl (Nat.le_of_ble_eq_true rfl) d135_ok ?_
    simp [Tryz.f135, d135, ints_len]
  · refine CW.loop (fun j s' H' => ∃ k, k ≤ l.length ∧ j = l.length - k ∧ s'.env 0 = .sl 1 (ints l) ∧ s'.env 1 = .func (.func g) first cap ∧ s'.env 7 = .int .i64 l.length ∧ s'.env 8 = .int .i64 k ∧ s'.ds = [] ∧ H' = H ∧ (l.take k).any q = false) ?_ (m := l.length) ⟨0, by simp⟩
    rintro j ⟨e, ds⟩ H' ⟨k, hk, rfl, e0, e1, e7, e8, rfl, rfl, hno⟩
    dsimp only at e0 e1 e7 e8
    refine vw_sound hX mixed (D := d135) _ _ _ _ (by kernel_rfl) ?_
    by_cases hkl : k < l.length
    · have hx : l[k]? = some l[k] := List.getElem?_eq_getElem hkl
      have hm : l[k] ∈ l := List.getElem_mem hkl
      have ht : l.take (k + 1) = l.take k ++ [l[k]] := by rw [List.take_succ_eq_append_getElem hkl]
      generalize l[k] = x at hx hm ht
      have hxi : (ints l)[k]? = some [ci x] := by simp [ints, hx]
      simp [e0, e1, e7, e8, hkl, hxi]
      refine (hf x hm).k ?_
      rintro y H2 ⟨rfl, rfl⟩
      simp [e0, e1, e7, e8]
      refine ⟨fun h => ⟨x, hm, h⟩, fun h => ?_⟩
      refine ⟨l.length - (k + 1), by omega, k + 1, by omega, rfl, by rw [wrapI (by omega) (by omega)]; simp, ?_⟩
      rw [ht]
      intro y hy
      rcases List.mem_append.1 hy with hy | hy
      · simp at hno; exact hno y hy
      · simp at hy; subst hy; exact h
    · have : k = l.length := by omega
      subst this
      simp [e0, e1, e7, e8]
      simpa using hno
  · refine CW.loop (fun j s' H' => ∃ k, k ≤ l.length ∧ j = l.length - k ∧ s'.env 0 = .ref r 0 l.length c ∧ s'.env 1 = .func (.func g) first cap ∧ s'.env 7 = .int .i64 l.length ∧ s'.env 8 = .int .i64 k ∧ s'.ds = [] ∧ H' = H ∧ (l.take k).any q = false) ?_ (m := l.length) ⟨0, by simp⟩
    rintro j ⟨e, ds⟩ H' ⟨k, hk, rfl, e0, e1, e7, e8, rfl, rfl, hno⟩
    dsimp only at e0 e1 e7 e8
    refine vw_sound hX mixed (D := d135) _ _ _ _ (by kernel_rfl) ?_
    by_cases hkl : k < l.length
    · have hx : l[k]? = some l[k] := List.getElem?_eq_getElem hkl
      have hm : l[k] ∈ l := List.getElem_mem hkl
      have ht : l.take (k + 1) = l.take k ++ [l[k]] := by rw [List.take_succ_eq_append_getElem hkl]
      generalize l[k] = x at hx hm ht
      have hxi := hcs k x hx
      simp [e0, e1, e7, e8, hkl, hxi, hr]
      refine (hf x hm).k ?_
      rintro y H2 ⟨rfl, rfl⟩
      simp [e0, e1, e7, e8]
      refine ⟨fun h => ⟨x, hm, h⟩, fun h => ?_⟩
      refine ⟨l.length - (k + 1), by omega, k + 1, by omega, rfl, by rw [wrapI (by omega) (by omega)]; simp, ?_⟩
      rw [ht]
      intro y hy
      rcases List.mem_append.1 hy with hy | hy
      · simp at hno; exact hno y hy
      · simp at hy; subst hy; exact h
    · have : k = l.length := by omega
      subst this
      simp [e0, e1, e7, e8]
      simpa using hno
  · refine CW.loop (fun j s' H' => s'.env 7 = .int .i64 0 ∧ s'.env 8 = .int .i64 0 ∧ s'.ds = [] ∧ H' = H) ?_ (m := 0) (by simp)
    rintro j ⟨e, ds⟩ H' ⟨e7, e8, rfl, rfl⟩
    dsimp only at e7 e8
    refine vw_sound hX mixed (D := d135) _ _ _ _ (by kernel_rfl) ?_
    simp [e7, e8]
theorem containsFunc_c (hX : CxOk (cx W G)) (v : CV) (l : List Int) (g : FuncId) (first cap : List CV) (q : Int → Bool) (H : Hp) (hv : SlR H v l) (hlen : l.length ≤ 1000000) (hf : ∀ x ∈ l, CC Tryz.prog W g (first ++ ci x :: cap) H fun r H' => r = .ret (.bool (q x)) ∧ H' = H) :
    CC Tryz.prog W 115 [v, .func (.func g) first cap] H fun x H' => x = .ret (.bool (l.any q)) ∧ H' = H := by
  refine CC.of_ev hX mixed d115 Tryz.func115 rfl rfl (Nat.le_of_ble_eq_true rfl) d115_ok ?_
  simp [Tryz.f115, d115]
  refine (indexFunc_c hX v l g first cap q H hv hlen hf).k ?_
  rintro x H2 ⟨k, rfl, rfl, hk⟩
  simp
  cases hl : l.any q
  · rw [hl] at hk; simp at hk ⊢; omega
  · rw [hl] at hk; simp at hk ⊢; exact hk
theorem spread1_c (hX : CxOk (cx W G)) (n q rr c : Nat) (p : Nat → Bool) (x : Int) (cc : CV) (H : Hp) (hq : H q = some (.cells [.ref rr 0 n c, cc])) (hr : H rr = some (.cells (boolC n p))) (hx : 0 ≤ x ∧ x < n) : CC Tryz.prog W 141 [ci x, .ptr q 0] H fun y H' => y = .ret (.bool (p x.toNat)) ∧ H' = H := by
  refine CC.of_ev hX mixed d141 Tryz.func141 rfl rfl (Nat.le_of_ble_eq_true rfl) d141_ok ?_
  simp [Tryz.f141, d141, hq, hr]
  have := boolC_get (p := p) (show x.toNat < n by omega)
  simp [this]
  omega
end Go.Cl
set_option linter.unusedSimpArgs false
set_option linter.unusedVariables false
namespace Go.Cl
open Go.Proofs
variable {W : World} {G : Nat → CV}
set_option maxRecDepth 8000
theorem boolC_set {n : Nat} {p : Nat → Bool} {i : Nat} (h : i < n) : (boolC n p).take i ++ .bool true :: (boolC n p).drop (i + 1) = boolC n (fun r => p r || r == i) := by
  rw [take_drop_set (by rw [boolC_len]; exact h)]
  apply List.ext_getElem?
  intro j
  rw [List.getElem?_set]
  simp only [boolC, List.length_map, List.length_range, List.getElem?_map]
  by_cases hj : i = j
  · subst hj; simp [h]
  · rw [if_neg hj]
    rcases Nat.lt_or_ge j n with h2 | h2
    · rw [List.getElem?_range h2]; simp [Ne.symm hj]
    · rw [List.getElem?_eq_none (by simpa using h2)]; rfl
theorem boolC_gets {n : Nat} {p : Nat → Bool} {i : Nat} {e : CV} : ((boolC n p)[i]? = some e) = (i < n ∧ .bool (p i) = e) := by
  simp only [boolC, List.getElem?_map]
  rcases Nat.lt_or_ge i n with h | h
  · rw [List.getElem?_range h]; simp [h]
  · rw [List.getElem?_eq_none (by simpa using h)]; simp [show ¬ i < n by omega]
theorem boolC_ex {n : Nat} {p : Nat → Bool} {i : Nat} {P : CV → Prop} : (∃ e, (boolC n p)[i]? = some e ∧ P e) = (i < n ∧ P (.bool (p i))) := by
  simp only [boolC_gets, eq_iff_iff]
  exact ⟨fun ⟨e, ⟨h, he⟩, k⟩ => ⟨h, he ▸ k⟩, fun ⟨h, k⟩ => ⟨_, ⟨h, rfl⟩, k⟩⟩
attribute [simp ↓] boolC_ex
attribute [simp] boolC_len
def spM (u : UUnit) (o : UOp) (q2 : Nat) (p c : Nat → Bool) (H2 : Hp) : CA → Hp → Prop := fun s' H' => s'.env 5 = .bool (badP o p c) ∧ s'.env 6 = .ptr q2 (if o.kind = 19 then 1 else 0) ∧ s'.env 7 = ci (if o.kind = 19 then o.n else o.dst) ∧ s'.ds = [] ∧ H' = H2 ∧ (o.kind ≠ 19 → 0 ≤ o.dst ∧ o.dst < u.regs)
theorem uBit_dst {o : UOp} (h : (2 ≤ o.kind ∧ o.kind ≤ 13) ∨ o.kind = 18 ∨ o.kind = 23 ∨ o.kind = 24 ∨ o.kind = 25) : uBit o.kind 0 = true := by
  have hk : o.kind = 2 ∨ o.kind = 3 ∨ o.kind = 4 ∨ o.kind = 5 ∨ o.kind = 6 ∨ o.kind = 7 ∨ o.kind = 8 ∨ o.kind = 9 ∨ o.kind = 10 ∨ o.kind = 11 ∨ o.kind = 12 ∨ o.kind = 13 ∨ o.kind = 18 ∨ o.kind = 23 ∨ o.kind = 24 ∨ o.kind = 25 := by omega
  rcases hk with h | h | h | h | h | h | h | h | h | h | h | h | h | h | h | h <;> rw [h] <;> rfl
theorem spread_c (hX : CxOk (cx W G)) (hG : G 0 = .iptr formsC) (u : UUnit) (hu : wfU u = true) (o : UOp) (ho : wfOp u o = true) (rr rc c1 c2 : Nat) (p c : Nat → Bool) (H : Hp) (hne : rr ≠ rc) (hr : H rr = some (.cells (boolC u.regs.toNat p))) (hc : H rc = some (.cells (boolC u.spill.toNat c))) :
    CC Tryz.prog W 126 [.agg [.ref rr 0 u.regs.toNat c1, .ref rc 0 u.spill.toNat c2], .agg (opC o)] H fun x H' => x = .ret (.bool (spreadN o p c)) ∧ H' = (H.set rr (.cells (boolC u.regs.toNat (spreadR o p c)))).set rc (.cells (boolC u.spill.toNat (spreadC o p c))) := by
  obtain ⟨f1, f2, f3, f4, f5, f6, f7, f8, f9, f10, f11⟩ := wfU_facts hu
  obtain ⟨o1, o2, o3, o4, o5, o6, o7, o8, o9⟩ := wfO_facts ho f3
  have hkd : Kd o.kind := by simp only [Kd]; omega
  refine CC.shrink ?_
  refine CC.of_cw hX Tryz.func126 rfl rfl (Nat.le_of_ble_eq_true rfl) ?_
  refine CW.walk hX mixed d126 rfl ?_
  simp (config := {contextual := true})
  intro q2 hq2 q3 h32 h23 hq3
  refine CW.walk hX mixed d126 rfl ?_
  simp [h23, h32, opC]
  refine (read_c hX hG o hkd _).k ?_
  rintro x H1 ⟨v, rfl, hown⟩
  have hle : Le H H1 := ((Le.set_new hq2).trans (Le.set_new (by simp [h32, hq3]))).trans hown.le
  have hq2' : H1 q2 = some (.cells [.ref rr 0 u.regs.toNat c1, .ref rc 0 u.spill.toNat c2]) := hown.le q2 _ (by simp [h23])
  have hq3' : H1 q3 = some (.cells (opC o)) := hown.le q3 _ (by simp [opC])
  have hr' := hle rr _ hr
  have hc' := hle rc _ hc
  have hre : ∀ x ∈ reads o, 0 ≤ x ∧ x < (u.regs.toNat : Int) := fun x hx => by
    have := o3 x (by simp only [allReads]; split; exact hx; exact List.mem_cons_of_mem _ hx)
    omega
  have hlr := reads_len o
  simp
  refine (containsFunc_c hX v (reads o) 141 [] [.ptr q2 0] (fun x => p x.toNat) H1 hown.slR (by omega) fun x hx => spread1_c hX _ q2 rr c1 p x _ H1 hq2' hr' (hre x hx)).k ?_
  rintro x H2 ⟨rfl, rfl⟩
  clear hown hq2 hq3
  simp
  refine CW.walk hX mixed d126 rfl ?_
  simp
  refine CW.walk hX mixed d126 rfl ?_
  simp [hq3', opC]
  have hsame : spreadN o p c = false → Le ((H.set rr (.cells (boolC u.regs.toNat (spreadR o p c)))).set rc (.cells (boolC u.spill.toNat (spreadC o p c)))) H2 := fun h => by
    rw [spreadR_same h, spreadC_same h, hset_self hr, hset_self hc]
    exact hle
  have hb0 : badP o p c = false → spreadN o p c = false := fun h => by simp [spreadN, h]
  refine CW.cut (spM u o q2 p c H2) ?_ ?_
  · refine CW.walk1 hX mixed d126 rfl ?_
    simp (config := {contextual := true}) [hq3', hq2', hc', opC, d126]
    refine ⟨fun h => ?_, fun n23 => ⟨fun h => ?_, fun n24 => ⟨fun h => ?_, fun n25 => ⟨fun h => ?_, fun n19 => ⟨fun h => ?_, fun n18 => ⟨fun h => ?_, fun h2 => ⟨fun h => ?_, fun h13 => ?_⟩⟩⟩⟩⟩⟩⟩
    · exact ⟨by simp [badP, h], by simp [h], by simp [h], rfl, rfl, fun _ => o4 (uBit_dst (by omega))⟩
    · exact ⟨by simp [badP, h], by simp [h], by simp [h], rfl, rfl, fun _ => o4 (uBit_dst (by omega))⟩
    · exact ⟨by simp [badP, h], by simp [h], by simp [h], rfl, rfl, fun _ => o4 (uBit_dst (by omega))⟩
    · exact ⟨by simp [badP, h], by simp [h], by simp [h], rfl, rfl, fun hn => absurd h hn⟩
    · have := o7 (.inl h)
      exact ⟨by omega, by omega, by omega, by simp [badP, h], by simp [h], by simp [h], rfl, rfl, fun _ => o4 (uBit_dst (by omega))⟩
    · have hb : badP o p c = false := by simp only [badP]; rw [if_neg (by omega), if_neg (by omega), if_neg (by omega)]
      exact ⟨hsame (hb0 hb), hb0 hb⟩
    · have hb : badP o p c = false := by simp only [badP]; rw [if_neg (by omega), if_neg (by omega), if_neg (by omega)]
      exact ⟨hsame (hb0 hb), hb0 hb⟩
    · have hb : badP o p c = (reads o).any fun r => p r.toNat := by simp only [badP]; rw [if_neg (by omega), if_neg (by omega), if_pos (by omega)]
      exact ⟨by simp [hb], by simp [n19], by simp [n19], rfl, rfl, fun _ => o4 (uBit_dst (by omega))⟩
  rintro ⟨e, ds⟩ H' ⟨e5, e6, e7, rfl, rfl, hd⟩
  dsimp only at e5 e6 e7
  have hle2 : Le ((H.set rr (.cells (boolC u.regs.toNat p))).set rc (.cells (boolC u.spill.toNat c))) H' := by rw [hset_self hr, hset_self hc]; exact hle
  by_cases hk : o.kind = 19
  · simp only [hk, if_true] at e6 e7
    refine CW.walk1 hX mixed d126 rfl ?_
    simp [e5, e6, e7, hq2', hc']
    have := o7 (.inr hk)
    refine ⟨fun h => ⟨hsame (hb0 h), hb0 h⟩, fun hb => ⟨this.1, by omega, by omega, fun h => ?_, fun h => ⟨this.1, by omega, by omega, ?_, ?_⟩⟩⟩
    · have h2 : spreadN o p c = false := by simp [spreadN, hk, h]
      exact ⟨hsame h2, h2⟩
    · rw [boolC_set (by omega)]
      have e1 : spreadR o p c = p := by funext r; simp [spreadR, hk]
      have e2 : spreadC o p c = fun r => c r || r == o.n.toNat := by funext r; simp [spreadC, hk, hb]
      rw [e1, e2, hset_self hr]
      rw [hset_self hr] at hle2
      exact set_le hle2
    · simp [spreadN, hk, hb, h]
  · simp only [hk, if_false] at e6 e7
    have hd := hd hk
    refine CW.walk1 hX mixed d126 rfl ?_
    simp [e5, e6, e7, hq2', hr']
    refine ⟨fun h => ⟨hsame (hb0 h), hb0 h⟩, fun hb => ⟨hd.1, by omega, by omega, fun h => ?_, fun h => ⟨hd.1, by omega, by omega, ?_, ?_⟩⟩⟩
    · have h2 : spreadN o p c = false := by simp [spreadN, hk, h]
      exact ⟨hsame h2, h2⟩
    · rw [boolC_set (by omega)]
      have e1 : spreadC o p c = c := by funext r; simp [spreadC, hk]
      have e2 : spreadR o p c = fun r => p r || r == o.dst.toNat := by funext r; simp [spreadR, hk, hb]
      have hcr : (H.set rr (.cells (boolC u.regs.toNat fun r => p r || r == o.dst.toNat))) rc = some (.cells (boolC u.spill.toNat c)) := by simp [Ne.symm hne, hc]
      rw [e1, e2, hset_self hcr]
      rw [hset_self (H := H.set rr _) (by simp [Ne.symm hne, hc])] at hle2
      exact set_le hle2
    · simp [spreadN, hk, hb, h]
end Go.Cl
set_option linter.unusedSimpArgs false
set_option linter.unusedVariables false
namespace Go.Cl
open Go.Proofs
variable {W : World} {G : Nat → CV}
set_option maxRecDepth 8000
theorem ops_c (hX : CxOk (cx W G)) (u : UUnit) (H : Hp) : CC Tryz.prog W 125 [.agg (unitC u)] H fun x H' => ∃ q, H q = none ∧ x = .ret (.func (.func 139) [] [.ptr q 0]) ∧ H' = H.set q (.cells (unitC u)) := by
  refine CC.of_ev hX mixed d125 Tryz.func125 rfl rfl (Nat.le_of_ble_eq_true rfl) d125_ok ?_
  simp [Tryz.f125, d125]
  exact fun r hr => ⟨r, hr, rfl, rfl⟩
def off (u : UUnit) (i : Nat) : Nat := ((u.blocks.take i).flatMap (·.ops)).length
theorem off_succ {u : UUnit} {i : Nat} {k : UBlk} (h : u.blocks[i]? = some k) : off u (i + 1) = off u i + k.ops.length := by
  have hi := (List.getElem?_eq_some_iff.1 h).1
  have hk := (List.getElem?_eq_some_iff.1 h).2
  simp only [off]
  rw [List.take_succ_eq_append_getElem hi, List.flatMap_append, List.length_append, hk]
  simp
theorem off_get {u : UUnit} {i j : Nat} {k : UBlk} {o : UOp} (h : u.blocks[i]? = some k) (ho : k.ops[j]? = some o) : (opsOf u)[off u i + j]? = some o := by
  have hi := (List.getElem?_eq_some_iff.1 h).1
  have hk := (List.getElem?_eq_some_iff.1 h).2
  have hj := (List.getElem?_eq_some_iff.1 ho).1
  have e : opsOf u = (u.blocks.take i).flatMap (·.ops) ++ (k.ops ++ (u.blocks.drop (i + 1)).flatMap (·.ops)) := by
    rw [opsOf]
    conv => lhs; rw [← List.take_append_drop i u.blocks, List.flatMap_append, List.drop_eq_getElem_cons hi, hk]
    simp
  rw [e, List.getElem?_append_right (by simp [off])]
  simp only [off, Nat.add_sub_cancel_left]
  rw [List.getElem?_append_left hj, ho]
theorem off_all (u : UUnit) : off u u.blocks.length = (opsOf u).length := by simp [off, opsOf]
def opYs (u : UUnit) : List (List CV) := (opsOf u).map fun o => [.agg (opC o)]
theorem ops_it (hX : CxOk (cx W G)) (u : UUnit) (hu : wfU u = true) (q : Nat) : Iter Tryz.prog W 139 [] [.ptr q 0] (opYs u) (boxed q (unitC u)) := by
  obtain ⟨f1, f2, f3, f4, f5, f6, f7, f8, f9, f10, f11⟩ := wfU_facts hu
  intro l J E H0 hinv h0 hy
  refine CC.of_ev hX mixed d139 Tryz.func139 rfl rfl (Nat.le_of_ble_eq_true rfl) d139_ok ?_
  have hq := hinv 0 H0 h0
  simp only [boxed, unitC] at hq
  simp [Tryz.f139, d139, hq]
  refine CW.loop (fun m s' H' => ∃ i, i ≤ u.blocks.length ∧ m = u.blocks.length - i ∧ s'.env 0 = .func (.yield l) [] [] ∧ s'.env 8 = .sl 6 (u.blocks.map blkC) ∧ s'.env 9 = .int .i64 u.blocks.length ∧ s'.env 10 = .int .i64 i ∧ s'.ds = [] ∧ J (off u i) H') ?_ (m := u.blocks.length) ⟨0, by simp, by simp, by simp, by simp, by simp, by simp, by simp, by simpa [off] using h0⟩
  rintro m ⟨e, ds⟩ H' ⟨i, hi, rfl, e0, e8, e9, e10, rfl, hJ⟩
  dsimp only at e0 e8 e9 e10
  refine vw_sound hX mixed (D := d139) _ _ _ _ (by kernel_rfl) ?_
  by_cases hil : i < u.blocks.length
  · obtain ⟨k, hke⟩ : ∃ k, u.blocks[i] = k := ⟨_, rfl⟩
    have hk : u.blocks[i]? = some k := by rw [List.getElem?_eq_getElem hil, hke]
    obtain ⟨g1, g2, g3, g4⟩ := wfB_facts hu hk
    simp [e0, e8, e9, e10, hil, hke, blkC]
    intro q4 hq4
    refine CW.forget (H' := H') ?_ (Le.set_new hq4)
    refine CW.loop (fun m s' H' => ∃ j, j ≤ k.ops.length ∧ m = k.ops.length - j ∧ s'.env 0 = .func (.yield l) [] [] ∧ s'.env 8 = .sl 6 (u.blocks.map blkC) ∧ s'.env 9 = .int .i64 u.blocks.length ∧ s'.env 10 = .int .i64 i ∧ s'.env 15 = .sl 7 (k.ops.map opC) ∧ s'.env 16 = .int .i64 k.ops.length ∧ s'.env 17 = .int .i64 j ∧ s'.ds = [] ∧ J (off u i + j) H') ?_ (m := k.ops.length) ⟨0, by simp [e0, e8, e9, e10, hJ]⟩
    clear hJ hq4 e0 e8 e9 e10
    clear q4 e H'
    rintro m ⟨e, ds⟩ H' ⟨j, hj, rfl, e0, e8, e9, e10, e15, e16, e17, rfl, hJ⟩
    dsimp only at e0 e8 e9 e10 e15 e16 e17
    refine vw_sound hX mixed (D := d139) _ _ _ _ (by kernel_rfl) ?_
    by_cases hjl : j < k.ops.length
    · obtain ⟨o, hoe⟩ : ∃ o, k.ops[j] = o := ⟨_, rfl⟩
      have ho : k.ops[j]? = some o := by rw [List.getElem?_eq_getElem hjl, hoe]
      simp [e0, e8, e9, e10, e15, e16, e17, hjl, hoe, opC]
      intro q6 hq6
      refine ((hy (off u i + j) [.agg (opC o)] (by simp [opYs, off_get hk ho]) H' hJ).forget (Le.set_new hq6)).k ?_
      intro b H2 hb
      simp [e0, e8, e9, e10, e15, e16, e17]
      refine ⟨fun hbf => .inr (by simpa [hbf] using hb), fun hbt => ?_⟩
      refine ⟨k.ops.length - (j + 1), by omega, j + 1, by omega, by omega, by rw [wrapI (by omega) (by omega)]; simp, by simpa [hbt, Nat.add_assoc] using hb⟩
    · have : j = k.ops.length := by omega
      subst this
      simp [e0, e8, e9, e10, e15, e16, e17]
      refine ⟨u.blocks.length - (i + 1), by omega, i + 1, by omega, by omega, by rw [wrapI (by omega) (by omega)]; simp, by rw [off_succ hk]; exact hJ⟩
  · have : i = u.blocks.length := by omega
    subst this
    simp [e0, e8, e9, e10]
    rw [off_all] at hJ
    exact .inl (by simpa [opYs] using hJ)
end Go.Cl
