/- DERIVED HERE. The reference's Run; LiveDead. -/
import Derived.Test.YtfkdjajpopocpaaDoorEJ
set_option linter.unusedSimpArgs false
set_option linter.unusedVariables false
namespace Go.Cl
open Go.Proofs Dd
variable {W : World} {G : Nat → CV}
set_option maxRecDepth 8000
set_option maxHeartbeats 4000000
theorem newE_ok {u : UUnit} (hw : wfU u = true) (L : List Int) (p c : Nat → Bool) : SInv u p c (newE u L) := by
  obtain ⟨f1, f2, f3, f4, f5, f6, f7, f8, f9, f10, f11⟩ := wfU_facts hw
  refine ⟨by show 0 < _; omega, Nat.zero_le _, fun i hi => ?_, fun i hi => absurd rfl hi⟩
  exfalso
  apply hi
  simp only [newE, nE, regsI]
  split <;> rfl
theorem run10_c (hX : CxOk (cx W G)) {H : Hp} {u : UUnit} (hw : wfU u = true) {x0 : CV} {rb cb : Nat} (hfz : Fz H x0 (.sl 1 (u.sizes.map fun n => [ci n])))
    (hb : ∃ cs, H rb = some (.cells cs) ∧ ∀ (j : Nat) k, u.blocks[j]? = some k → ∃ y, (cs.drop (j * 6)).take 6 = y :: blkT k ∧ Fz H y (.sl 7 (k.ops.map opC)))
    {ra : Nat} {L : List Int} (ma : H ra = some (.cells (L.map fun n => ci n))) (hL : L.length ≤ u.regs.toNat) (n : Nat) (hn : n ≤ 100000) :
    CC Tryd.prog W 10 [.agg [x0, ci u.params, ci u.regs, ci u.code, ci u.spill, .ref rb 0 u.blocks.length cb], .ref ra 0 L.length L.length, .int .i64 n] H fun x H' => ∃ v, x = .ret (.tuple [.agg [v, ci (goE mathM u n (newE u L)).out.kind, ci (goE mathM u n (newE u L)).out.value], ci (goE mathM u n (newE u L)).steps]) ∧ Own H H' v 1 (ints (goE mathM u n (newE u L)).out.prints) := by
  refine CC.of_cw hX Tryd.func10 rfl rfl (Nat.le_of_ble_eq_true rfl) ?_
  refine CW.walk hX mixed d10 rfl ?_
  simp [d10]
  intro r3 n3 r6 q1 q2 n6
  generalize hH1 : Hp.set _ r6 _ = H1
  have hle : Le H H1 := by rw [← hH1]; exact (Le.set_new n3).trans (Le.set_new (by rw [hset_ne q1]; exact n6))
  have m6 : H1 r6 = some (.cells [.nilsl, ci 0, ci 0]) := by rw [← hH1]; exact set_at
  have m3 : H1 r3 = some (.cells [x0, ci u.params, ci u.regs, ci u.code, ci u.spill, .ref rb 0 u.blocks.length cb]) := by rw [← hH1]; simp [Hp.set, q2]
  clear hH1
  refine CW.walk hX mixed d10 rfl ?_
  simp [d10, m3]
  refine (new11_c hX hw (hfz.mono hle) (hle _ _ ma) hL).k ?_
  rintro x H2 ⟨lab, κ, a, rfl, hE, hv0, hv5⟩
  simp
  obtain ⟨csb, mb, hbb⟩ := hb
  have hu : UB H1 a u := ⟨rb, cb, csb, hv5, hle _ _ mb, fun j k hk => by obtain ⟨y, h1, h2⟩ := hbb j k hk; exact ⟨y, h1, h2.mono hle⟩⟩
  refine CW.walk hX mixed d10 rfl ?_
  simp [d10]
  refine (go12_c hX hE hu hw (newE_ok hw L _ _) n hn (by show (0:Int) ≤ 0; omega) (by show (0:Int) ≤ 100000; omega) (by show (0:Nat) ≤ 100000; omega)).k ?_
  rintro x H3 ⟨rfl, lab3, vP3, vW3, hE3⟩
  simp
  have hps := goE_ps mathM u n (newE u L)
  have hps0 : (newE u L).out.prints.length = 0 := rfl
  have hq := hE3.hq
  simp only [engC] at hq
  refine CW.walk1 hX mixed d10 rfl ?_
  simp [d10, hq]
  have ht := told16_c hX hE3 (by omega)
  refine ht.k ?_
  rintro x H4 ⟨v, rfl, how⟩
  have hq4 := how.le _ _ hq
  have m64 := (hE3.le.trans how.le) _ _ m6
  have hvs : v.stor = true ∧ v.cells = [v] := by
    obtain ⟨_, _, ⟨rfl, _⟩ | ⟨q, c, ex, rfl, _⟩⟩ := how <;> exact ⟨rfl, rfl⟩
  simp only [CV.stor, CV.cells] at hvs
  simp [hq4, m64, hvs]
  refine ⟨stabI_le rfl how.le, ?_⟩

  have hn6 : H r6 = none := by first | exact n6 | assumption
  have hqr : a.q ≠ r6 := fun k => by
    have h1 := hE3.nb r6 (by rw [m6]; simp)
    have h2 := hE3.lq
    simp only at h2
    rw [← k, h2] at h1
    cases h1
  refine ⟨by simp [stabI, Stab, IsV, hq4, hqr], ?_⟩
  refine (how.base (hle.trans hE3.le)).keep hn6 fun r o l c hv k => ?_
  have h1 := (how.at0 hv).2.2
  rw [k, hE3.le _ _ m6] at h1
  cases h1
theorem goE_steps (M : MathF) (u : UUnit) : ∀ (n : Nat) (e : Eng), (goE M u n e).done = false → (goE M u n e).steps = e.steps + n
  | 0, e, _ => by simp [goE]
  | n + 1, e, h => by
    simp only [goE] at h ⊢
    by_cases hd : e.done = true
    · rw [if_pos hd] at h; rw [hd] at h; cases h
    · rw [if_neg hd] at h ⊢
      have h1 := goE_steps M u n _ h
      have h2 := (stepE_ps M u e).2
      omega
theorem upto_mem {f : Nat → Bool} {m r : Nat} (h : r < m) : (((r : Nat) : Int) ∈ upto f m) ↔ f r = true := by
  simp only [upto, List.mem_map, List.mem_filter, List.mem_range]
  constructor
  · rintro ⟨a, ⟨_, h2⟩, h3⟩
    have : a = r := Int.ofNat.inj h3
    rw [← this]; exact h2
  · exact fun hf => ⟨r, ⟨h, hf⟩, rfl⟩
theorem fz_aggAt {H : Hp} {cs ds : List CV} {j : Nat} {a b : CV} (h : Fz H (.agg cs) (.agg ds)) (ha : cs[j]? = some a) (hb : ds[j]? = some b) : Fz H a b := by
  cases h with
  | same => rw [ha] at hb; injection hb with hb; subst hb; exact .same _
  | agg _ _ hl y hy hf =>
    have := hy j (List.getElem?_eq_some_iff.1 hb).1
    rw [ha] at this
    injection this with this
    rw [this]
    exact hf j b hb
theorem outcomes15_f (hX : CxOk (cx W G)) {H : Hp} {va vb : CV} {pa pb : List Int} (ka xa kb xb : Int) (ha : Fz H va (.sl 1 (ints pa))) (hb : Fz H vb (.sl 1 (ints pb))) (hpl : pa.length ≤ 1000000) : CC Tryd.prog W 15 [.agg [va, ci ka, ci xa], .agg [vb, ci kb, ci xb]] H fun x H' => x = .ret (.bool (decide (pa = pb ∧ ka = kb ∧ xa = xb))) ∧ H' = H := by
  have f3 : ∀ {a a' : CV} {m n : Int}, Fz H a a' → Fz H (.agg [a, ci m, ci n]) (.agg [a', ci m, ci n]) := fun {a a' m n} h => by
    refine .agg _ _ rfl (fun j => [a, ci m, ci n].getD j .any) (fun j hj => ?_) (fun j x hx => ?_)
    · have : j < 3 := hj
      rcases j with _|_|_|j <;> first | rfl | omega
    · rcases j with _|_|_|j
      · simp at hx; subst hx; exact h
      · simp at hx; subst hx; exact .same _
      · simp at hx; subst hx; exact .same _
      · simp at hx
  refine (CC.freeze (args' := [.agg [.sl 1 (ints pa), ci ka, ci xa], .agg [.sl 1 (ints pb), ci kb, ci xb]]) (R := fun v => v = .bool (decide (pa = pb ∧ ka = kb ∧ xa = xb))) (by rfl) (fz2 (f3 ha) (f3 hb)) (by rintro v rfl; simp [plainV]) fun w hw => ?_).mono ?_
  · exact (outcomes15_c (W := w) (CxOk.later hX hw) pa pb ka xa kb xb hpl _).mono fun x H' ⟨h1, _⟩ => ⟨_, h1, rfl⟩
  · rintro x H' ⟨v, rfl, rfl, rfl⟩
    exact ⟨rfl, rfl⟩
theorem liveDead_c (hX : CxOk (cx W G)) (hG : G 0 = .iptr formsC) (u0 : UUnit) (A : List Int) (wh rg num : Int) (hwh : 0 ≤ wh ∧ wh < 65536) (hrg : 0 ≤ rg ∧ rg < 65536) (H : Hp) :
    CC Tryd.prog W 3 [.agg (unitC u0), .sl 1 (ints A), .agg [.int .u16 wh, .int .u16 rg, ci num]] H fun x H' => x = .ret (.bool true) ∧ H' = H := by
  refine CC.shrink ?_
  refine CC.of_cw hX Tryd.func3 rfl rfl (Nat.le_of_ble_eq_true rfl) ?_
  refine CW.walk hX mixed d3 rfl ?_
  simp
  intro q1 hq1 q5 p1 p2 hq5
  generalize hH0 : Hp.set _ q5 _ = H0
  have hle0 : Le H H0 := by rw [← hH0]; exact (Le.set_new hq1).trans (Le.set_new (by rw [hset_ne p1]; exact hq5))
  have m5 : H0 q5 = some (.cells [.int .u16 wh, .int .u16 rg, ci num]) := by rw [← hH0]; exact set_at
  have m1 : H0 q1 = some (.cells (unitC u0)) := by rw [← hH0]; simp [Hp.set, p2]
  clear hH0
  simp only [unitC] at m1
  refine CW.walk hX mixed d3 rfl ?_
  simp [unitC, m1]
  have hc := small_c hX u0 H0
  simp only [unitC] at hc
  refine hc.k ?_
  rintro x H1 ⟨cs, rfl, hle1, huv⟩
  obtain ⟨v0, v5, rfl, hb5⟩ := huv.b
  have hfz := huv.f
  have hok := small_ok u0
  clear huv hc
  generalize cutU u0 60 600 = u at hfz hb5 hok ⊢
  simp
  intro q7 hq7
  generalize hH2 : H1.set q7 _ = H2
  have hle2 : Le H1 H2 := by rw [← hH2]; exact Le.set_new hq7
  have m7 : H2 q7 = some (.cells [v0, ci u.params, ci u.regs, ci u.code, ci u.spill, v5]) := by rw [← hH2]; exact set_at
  clear hH2
  have hfz2 := hfz.mono hle2
  have hb52 := hb5.mono hle2
  have m5 := (hle1.trans hle2) _ _ m5
  have hle2 := (hle0.trans hle1).trans hle2
  clear hfz hb5 hq7
  by_cases hs : u0.regs ≤ 200
  rotate_left
  · refine CW.walk hX mixed d3 rfl ?_
    simp [hs, m7]
    refine (alive_c hX hG _).k ?_
    rintro x H3 ⟨rfl, rfl⟩
    simp
    exact hle2
  have hr := right_f hX hG hok hfz2
  by_cases hw : wfU u = true
  rotate_left
  · refine CW.walk hX mixed d3 rfl ?_
    simp [hs, m7]
    refine hr.k ?_
    rintro x H3 ⟨rfl, rfl⟩
    simp [hw]
    refine (alive_c hX hG _).k ?_
    rintro x H4 ⟨rfl, rfl⟩
    simp
    exact hle2
  refine CW.walk hX mixed d3 rfl ?_
  simp [hs, m7]
  refine hr.k ?_
  rintro x H3 ⟨rfl, rfl⟩
  simp [hw]
  clear hr hs
  obtain ⟨f1, f2, f3, f4, f5, f6, f7, f8, f9, f10, f11⟩ := wfU_facts hw
  have hpa : 0 ≤ u.params ∧ u.params ≤ 8 ∧ u.params ≤ u.regs := by
    have := hw
    simp only [wfU, wfNums, Bool.and_eq_true, decide_eq_true_eq] at this
    omega
  obtain ⟨rb, cb, csb, rfl, mb, hbb⟩ : ∃ r c cs, v5 = .ref r 0 u.blocks.length c ∧ H3 r = some (.cells cs) ∧ ∀ (j : Nat) k, u.blocks[j]? = some k → ∃ x0, (cs.drop (j * 6)).take 6 = x0 :: blkT k ∧ Fz H3 x0 (.sl 7 (k.ops.map opC)) := by
    rcases hb52 with ⟨_, h⟩ | h
    · rw [h] at f7; simp at f7
    · exact h
  clear hb52
  have hv0 : Fz H3 v0 (.sl 1 (u.sizes.map fun n => [ci n])) := by
    exact fz_aggAt hfz2 (j := 0) rfl rfl
  refine CW.walk hX mixed d3 rfl ?_
  simp [m7]
  refine (own9_c hX u hw _ _ A _).k ?_
  rintro x H4 ⟨rl, L, rfl, hle4, ml, hL⟩
  simp
  have hLr : L.length ≤ u.regs.toNat := by omega
  have m74 := hle4 _ _ m7
  have m54 := hle4 _ _ m5
  refine CW.walk hX mixed d3 rfl ?_
  simp [m74]
  have hrun := run10_c hX hw (hv0.mono hle4) (cb := cb) ⟨csb, hle4 _ _ mb, fun j k hk => by obtain ⟨y, h1, h2⟩ := hbb j k hk; exact ⟨y, h1, h2.mono hle4⟩⟩ ml hLr 3000 (by omega)
  refine hrun.k ?_
  rintro x H5 ⟨vq, rfl, how5⟩
  simp
  intro r10 n10
  obtain ⟨e1, he1⟩ : ∃ e1, goE mathM u 3000 (newE u L) = e1 := ⟨_, rfl⟩
  rw [he1] at how5
  rw [he1]
  have m104 : (H5.set r10 (.cells [vq, ci e1.out.kind, ci e1.out.value])) r10 = some (.cells [vq, ci e1.out.kind, ci e1.out.value]) := set_at
  have hle6 : Le H5 (H5.set r10 (.cells [vq, ci e1.out.kind, ci e1.out.value])) := Le.set_new n10
  generalize H5.set r10 (.cells [vq, ci e1.out.kind, ci e1.out.value]) = H6 at m104 hle6 ⊢
  have how6 := how5.mono hle6
  have hle46 := how5.le.trans hle6
  have hle36 := hle4.trans hle46
  have m76 := hle46 _ _ m74
  have m56 := hle46 _ _ m54
  clear hrun n10
  refine CW.walk hX mixed d3 rfl ?_
  simp [m76]
  refine (new11_c hX hw (hv0.mono hle36) (hle46 _ _ ml) hLr).k ?_
  rintro x H7 ⟨lab, κ, a, rfl, hE, ha0, ha5⟩
  simp
  have hu : UB H6 a u := ⟨rb, cb, csb, ha5, hle36 _ _ mb, fun j k hk => by obtain ⟨y, h1, h2⟩ := hbb j k hk; exact ⟨y, h1, h2.mono hle36⟩⟩
  have m57 := hE.le _ _ m56
  have m77 := hE.le _ _ m76
  obtain ⟨n, hn⟩ := Int.eq_ofNat_of_zero_le (show 0 ≤ wh % 200 by omega)
  have hn200 : n < 200 := by omega
  refine CW.walk hX mixed d3 rfl ?_
  simp [m57]
  have hwn : (IntKind.i64.wrap wh).tmod 200 = n := by rw [wrapI (by omega) (by omega), tmodI (by omega), hn]
  rw [hwn]
  refine (go12_c hX hE hu hw (newE_ok hw L _ _) n (by omega) (by show (0:Int) ≤ 0; omega) (by show (0:Int) ≤ 100000; omega) (by show (0:Nat) ≤ 100000; omega)).k ?_
  rintro x H8 ⟨rfl, lab8, vP, vW, hE8⟩
  simp
  have hst := goE_steps mathM u n (newE u L)
  have hps := goE_ps mathM u n (newE u L)
  have hps0 : (newE u L).out.prints.length = 0 := rfl
  have hst0 : (newE u L).steps = 0 := rfl
  have hadd := goE_add mathM u n (3000 - n) (newE u L)
  rw [show n + (3000 - n) = 3000 by omega, he1] at hadd
  have hok0 := goE_ok hw (newE_ok hw L allT allT) n
  have hinv : ∀ {p c I}, PLeast (opsOf u) p c → LLeast u p I → SInv u p c (goE mathM u n (newE u L)) := fun hp hl => step_inv (M := mathM) hw hp.1 hl.1 mathM_trap n (newE_ok hw L _ _)
  generalize goE mathM u n (newE u L) = e0 at hE8 hst hps hadd hok0 hinv
  rw [hst0] at hst
  have hleH8 := (hle2.trans hle36).trans hE8.le
  have hq8 := hE8.hq
  simp only [engC] at hq8
  have m78 := hE8.le _ _ m76
  have m58 := hE8.le _ _ m56
  by_cases hd : e0.done = true
  · refine CW.walk hX mixed d3 rfl ?_
    simp [hq8, hd]
    refine (alive_c hX hG _).k ?_
    rintro x H9 ⟨rfl, rfl⟩
    simp
    exact hleH8
  have hd : e0.done = false := by simpa using hd
  have hst := hst hd
  refine CW.walk hX mixed d3 rfl ?_
  simp [hq8, hd]
  obtain ⟨k, hk⟩ : ∃ k, blkAt u e0.block = k := ⟨_, rfl⟩
  have hkb : u.blocks[e0.block]? = some k := by rw [← hk]; exact blk_at hok0.b
  have hpc : e0.pc ≤ k.ops.length := by rw [← hk]; exact hok0.pc
  refine CW.walk hX mixed d3 rfl ?_
  simp [d3, hq8, m78]
  refine (at13_f hX hG hw ((hfz2.mono hle36).mono hE8.le) e0.block e0.pc k hkb hpc).k ?_
  rintro x H9 ⟨p, c, I, va, hp, hl, hbd, rfl, hle9, hva⟩
  simp
  have hE9 := hE8.mono hle9
  have m79 := hle9 _ _ m78
  have m59 := hle9 _ _ m58
  have hq9 := hE9.hq
  simp only [engC] at hq9
  obtain ⟨nr, hnr⟩ := Int.eq_ofNat_of_zero_le (show 0 ≤ rg % u.regs from Int.emod_nonneg _ (by omega))
  have hnr2 : rg % u.regs < u.regs := Int.emod_lt_of_pos _ (by omega)
  have hnrl : nr < u.regs.toNat := by omega
  have hwr : (IntKind.i64.wrap rg).tmod u.regs = nr := by rw [wrapI (by omega) (by omega), tmodI (by omega), hnr]
  refine CW.walk hX mixed d3 rfl ?_
  simp [d3, m59, m79]
  refine ⟨by omega, ?_⟩
  rw [hwr]
  refine CW.walk hX mixed d3 rfl ?_
  simp
  have h64 : nr < 64 * mOf u := by have : mOf u = (u.regs.toNat + 63) / 64 := rfl; omega
  have hmem := upto_mem (f := beforeP u p I k (k.ops.drop e0.pc)) h64
  have hhas := has14_f hX (nr : Int) hva (by have := upto_len (beforeP u p I k (k.ops.drop e0.pc)) (64 * mOf u); omega)
  have hleH9 := hleH8.trans hle9
  by_cases hlv : beforeP u p I k (k.ops.drop e0.pc) nr = true
  · refine CW.walk hX mixed d3 rfl ?_
    simp
    refine hhas.k ?_
    rintro x H10 ⟨rfl, rfl⟩
    simp [hmem, hlv]
    refine (alive_c hX hG _).k ?_
    rintro x H11 ⟨rfl, rfl⟩
    simp
    exact hleH9
  have hlv : beforeP u p I k (k.ops.drop e0.pc) nr = false := by simpa using hlv
  refine CW.walk hX mixed d3 rfl ?_
  simp
  refine hhas.k ?_
  rintro x H10 ⟨rfl, rfl⟩
  simp [hmem, hlv]
  have hrr := hE9.hr
  have hvl := valsC_len u.regs.toNat e0.regs
  have hset := valsC_set e0.regs ⟨num, 0⟩ hnrl
  simp only [valC, List.cons_append, List.nil_append] at hset
  refine CW.walk hX mixed d3 rfl ?_
  simp [d3, hq9, hrr, m59, cfill]
  refine ⟨by omega, by rw [hvl]; omega, ?_⟩
  rw [hset]
  have hE11 := hE9.setr (fset e0.regs nr ⟨num, 0⟩)
  generalize Hp.set H10 a.rr _ = H11 at hE11 ⊢
  have hlaw := dead_law (M := mathM) hw hp.1 hl.1 mathM_trap (hinv hp hl) hd (r := nr) (v := ⟨num, 0⟩) rfl (by simp only [liveAt, hk]; exact hlv) (3000 - n)
  rw [← hadd] at hlaw
  have hok2 : SInv u allT allT { e0 with regs := fset e0.regs nr ⟨num, 0⟩ } := ⟨hok0.b, hok0.pc, fun _ _ => rfl, fun _ _ => rfl⟩
  have hps2 := goE_ps mathM u (3000 - n) { e0 with regs := fset e0.regs nr ⟨num, 0⟩ }
  have hprn : ({ e0 with regs := fset e0.regs nr ⟨num, 0⟩ } : Eng).out.prints.length = e0.out.prints.length := rfl
  have hstn : ({ e0 with regs := fset e0.regs nr ⟨num, 0⟩ } : Eng).steps = e0.steps := rfl
  generalize ({ e0 with regs := fset e0.regs nr ⟨num, 0⟩ } : Eng) = e2 at hE11 hlaw hok2 hps2 hprn hstn
  have hq11 := hE11.hq
  simp only [engC] at hq11
  have hm0 : 3000 - e2.steps = ((3000 - n : Nat) : Int) := by omega
  have hm : IntKind.i64.wrap (3000 - e2.steps) = ((3000 - n : Nat) : Int) := by rw [wrapI (by omega) (by omega), hm0]
  refine CW.walk hX mixed d3 rfl ?_
  simp [hq11]
  rw [hm]
  refine (go12_c hX hE11 ⟨hu.b⟩ hw hok2 (3000 - n) (by omega) (by omega) (by omega) (by omega)).k ?_
  rintro x H12 ⟨rfl, lab12, vP2, vW2, hE12⟩
  simp
  generalize goE mathM u (3000 - n) e2 = e3 at hE12 hlaw hps2
  have hq12 := hE12.hq
  simp only [engC] at hq12
  have m1012 := hE12.le _ _ m104
  refine CW.walk1 hX mixed d3 rfl ?_
  simp [d3, hq12, m1012]
  refine (told16_c hX hE12 (by omega)).k ?_
  rintro x H13 ⟨vt, rfl, how13⟩
  simp
  refine ⟨stabI_le rfl how13.le, ?_⟩
  have m1013 := how13.le _ _ m1012
  have hq13 := how13.le _ _ hq12
  have hfa := how13.fz
  have hfb := (how6.fz.mono hE12.le).mono how13.le
  refine (outcomes15_f hX _ _ _ _ hfa hfb (by omega)).k ?_
  rintro x H14 ⟨rfl, rfl⟩
  have hleF := ((hle2.trans hle36).trans hE12.le).trans how13.le
  simp [hq13, hlaw.1, hlaw.2]
  refine (alive_c hX hG _).k ?_
  rintro x H15 ⟨rfl, rfl⟩
  simp
  exact hleF
end Go.Cl
