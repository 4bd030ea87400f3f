/- DERIVED HERE. graph.at, graph.Dominates. DERIVED HERE. The reference's Has. -/
import Derived.Test.YtoophlkbngagcaaGreatDoorHA
set_option linter.unusedSimpArgs false
set_option linter.unusedVariables false
namespace Go.Cl.Gd
open Go.Proofs
variable {W : World} {G : Nat → CV}
set_option maxRecDepth 8000
set_option maxHeartbeats 1000000
/-- A number that is no block. -/
def outB (n : Nat) (b : Int) : Bool := decide (b < 0) || decide ((n : Int) ≤ b)
theorem outB_no {n : Nat} {b : Int} : outB n b = false ↔ ∃ k : Nat, b = k ∧ k < n := by
  simp only [outB, Bool.or_eq_false_iff, decide_eq_false_iff_not]
  constructor
  · intro ⟨h1, h2⟩; exact ⟨b.toNat, by omega, by omega⟩
  · rintro ⟨k, rfl, h⟩; omega
theorem atF_c (hX : CxOk (cx W G)) {u : UUnit} {q : Nat} (b : Int) {H : Hp} (hq : H q = some (.cells (unitC u))) : CC Tryz.prog W 68 [ci b, .ptr q 0] H fun x H' => x = .ret (.bool (outB u.blocks.length b)) ∧ H' = H := by
  simp only [unitC] at hq
  refine CC.of_cw hX Tryz.func68 rfl rfl (Nat.le_of_ble_eq_true rfl) ?_
  refine CW.walk hX mixed d68 rfl ?_
  simp
  refine CW.walk1 hX mixed d68 rfl ?_
  simp [d68, hq, outB]
  exact ⟨fun h => .inl h, fun _ h => by omega⟩
/-- What graph.at answers. -/
structure AtA (u : UUnit) (l : List Int) (H : Hp) (x : CE) (H' : Hp) : Prop where
  er : errU u ≠ 0 → x = .ret (.tuple [.nilptr, ci (errU u)]) ∧ Le H H'
  out : errU u = 0 → l.any (outB u.blocks.length) = true → x = .ret (.tuple [.nilptr, ci 2]) ∧ Le H H'
  ok : errU u = 0 → l.any (outB u.blocks.length) = false → ∃ gp p c rn rb ro ri rk co ns bs ex I, x = .ret (.tuple [.ptr gp 0, ci 0]) ∧ PLeast (opsOf u) p c ∧ GrOk H H' gp u (nextN u p) rn rb ro ri rk co ns bs ex I
theorem at_c (hX : CxOk (cx W G)) (hG : G 0 = .iptr formsC) (u : UUnit) (hu : UOk u) {H : Hp} {v : CV} {l : List Int} (hv : SlF H v l) (hl : l.length ≤ 1000) : CC Tryz.prog W 40 [.agg (unitC u), v] H (AtA u l H) := by
  refine CC.of_cw hX Tryz.func40 rfl rfl (Nat.le_of_ble_eq_true rfl) ?_
  refine CW.walk hX mixed d40 rfl ?_
  simp
  intro q2 hq2
  have hle1 : Le H (H.set q2 (.cells (unitC u))) := Le.set_new hq2
  have m2 : (H.set q2 (.cells (unitC u))) q2 = some (.cells (unitC u)) := set_at
  by_cases he : errU u = 0
  · have hw : wfU u = true := errU_wf.1 he
    have hc := gof_c hX hG u hw (H.set q2 (.cells (unitC u)))
    refine CW.walk hX mixed d40 rfl ?_
    simp [unitC]
    simp only [unitC] at hc
    refine hc.k ?_
    rintro x H3 ⟨gp, p, c, rn, rb, ro, ri, rk, co, ns, bs, ex, I, rfl, hp, h⟩
    have h2 : GrOk H H3 gp u (nextN u p) rn rb ro ri rk co ns bs ex I := h.base hle1
    have m3 := h.le _ _ m2
    have hv3 := hv.mono h2.le
    simp
    refine CW.walk hX mixed d40 rfl ?_
    simp
    refine (containsFunc_c hX v l 68 [] [.ptr q2 0] (outB u.blocks.length) H3 hv3.slR (by omega) (fun x _ => atF_c hX x m3)).k ?_
    rintro x H4 ⟨rfl, rfl⟩
    cases ha : l.any (outB u.blocks.length) with
    | true =>
      simp
      exact ⟨fun q => absurd he q, fun _ _ => ⟨rfl, h2.le⟩, fun _ q => by rw [ha] at q; cases q⟩
    | false =>
      simp
      refine CW.walk1 hX mixed d40 rfl ?_
      simp
      exact ⟨fun q => absurd he q, fun _ q => (by rw [ha] at q; cases q), fun _ _ => ⟨gp, p, c, rn, rb, ro, ri, rk, co, ns, bs, ex, I, rfl, hp, h2⟩⟩
  · have hc := gof_e hX hG u hu he (H.set q2 (.cells (unitC u)))
    refine CW.walk hX mixed d40 rfl ?_
    simp [unitC]
    simp only [unitC] at hc
    refine hc.k ?_
    rintro x H2 ⟨rfl, rfl⟩
    simp
    refine CW.walk hX mixed d40 rfl ?_
    simp [he]
    refine CW.walk1 hX mixed d40 rfl ?_
    simp
    exact ⟨fun _ => ⟨rfl, hle1⟩, fun q => absurd q he, fun q => absurd q he⟩
/-- What graph.Dominates answers. -/
structure DomA (u : UUnit) (a b : Int) (x : CV) : Prop where
  er : errU u ≠ 0 → x = .tuple [.bool false, ci (errU u)]
  out : errU u = 0 → (outB u.blocks.length a || outB u.blocks.length b) = true → x = .tuple [.bool false, ci 2]
  ok : errU u = 0 → (outB u.blocks.length a || outB u.blocks.length b) = false → ∃ p c t, PLeast (opsOf u) p c ∧ x = .tuple [.bool t, ci 0] ∧ (t = true ↔ Dom (nextN u p) a.toNat b.toNat)
theorem dominates_c (hX : CxOk (cx W G)) (hG : G 0 = .iptr formsC) (u : UUnit) (hu : UOk u) (a b : Int) (H : Hp) : CC Tryz.prog W 16 [.agg (unitC u), ci a, ci b] H fun x H' => ∃ v, x = .ret v ∧ DomA u a b v := by
  refine CC.of_cw hX Tryz.func16 rfl rfl (Nat.le_of_ble_eq_true rfl) ?_
  refine CW.walk hX mixed d16 rfl ?_
  simp
  intro q3 hq3
  have hat := fun (r : Nat) (H' : Hp) (h : H' r = some (.cells [ci a, ci b])) => at_c hX hG u hu (slF_of (l := [a, b]) h) (by simp)
  simp only [unitC] at hat
  refine CW.walk hX mixed d16 rfl ?_
  simp [unitC]
  refine ⟨_, rfl, fun r h1 h2 h3 => ?_⟩
  refine (hat r _ set_at).k ?_
  rintro x H2 hA
  by_cases he : errU u = 0
  rotate_left
  · obtain ⟨rfl, _⟩ := hA.er he
    simp
    refine CW.walk hX mixed d16 rfl ?_
    simp [he]
    exact ⟨fun _ => rfl, fun q => absurd q he, fun q => absurd q he⟩
  cases ho : outB u.blocks.length a || outB u.blocks.length b with
  | true =>
    obtain ⟨rfl, _⟩ := hA.out he (by simpa using ho)
    simp
    refine CW.walk hX mixed d16 rfl ?_
    simp
    exact ⟨fun q => absurd he q, fun _ _ => rfl, fun _ q => by rw [ho] at q; cases q⟩
  | false =>
    obtain ⟨gp, p, c, rn, rb, ro, ri, rk, co, ns, bs, ex, I, rfl, hp, h⟩ := hA.ok he (by simpa using ho)
    rw [Bool.or_eq_false_iff, outB_no, outB_no] at ho
    obtain ⟨⟨a, rfl, ha⟩, ⟨b, rfl, hb⟩⟩ := ho
    simp
    refine CW.walk hX mixed d16 rfl ?_
    simp
    refine CW.walk1 hX mixed d16 rfl ?_
    simp
    refine (over_c hX h nextN_lt ha hb).k ?_
    rintro x H3 ⟨⟨t, rfl, ht⟩, rfl⟩
    simp
    refine ⟨fun q => absurd he q, fun _ q => ?_, fun _ _ => ⟨p, c, t, hp, rfl, ht⟩⟩
    have h1 := (outB_no (n := u.blocks.length)).2 ⟨a, rfl, ha⟩
    have h2 := (outB_no (n := u.blocks.length)).2 ⟨b, rfl, hb⟩
    rw [h1, h2] at q; cases q
theorem DomA.plain {u : UUnit} {a b : Int} {x : CV} (h : DomA u a b x) : plainV x = true := by
  by_cases he : errU u = 0
  · cases ho : outB u.blocks.length a || outB u.blocks.length b with
    | true => rw [h.out he ho]; simp [plainV]
    | false => obtain ⟨p, c, t, _, rfl, _⟩ := h.ok he ho; simp [plainV]
  · rw [h.er he]; simp [plainV]
theorem dominates_f (hX : CxOk (cx W G)) (hG : G 0 = .iptr formsC) {u : UUnit} (hu : UOk u) (a b : Int) {H : Hp} {cs : List CV} (hf : Fz H (.agg cs) (.agg (unitC u))) : CC Tryz.prog W 16 [.agg cs, ci a, ci b] H fun x H' => ∃ v, x = .ret v ∧ DomA u a b v ∧ H' = H :=
  CC.freeze (args' := [.agg (unitC u), ci a, ci b]) (R := DomA u a b) (by rfl) (fz3' hf _ _) (fun v h => h.plain) fun w hw => dominates_c (W := w) (CxOk.later hX hw) hG u hu a b _
end Go.Cl.Gd
set_option linter.unusedSimpArgs false
set_option linter.unusedVariables false
namespace Go.Cl.Gd
open Go.Proofs
variable {W : World} {G : Nat → CV}
set_option maxRecDepth 8000
set_option maxHeartbeats 1000000
theorem hasQ_c (hX : CxOk (cx W G)) (l : List Int) (n : Int) (hl : l.length ≤ 1000000) (H : Hp) : CC Tryz.prog W 48 [.sl 1 (ints l), ci n] H fun x H' => x = .ret (.bool (decide (n ∈ l))) ∧ H' = H := by
  refine CC.of_ev hX mixed d48 Tryz.func48 rfl rfl (Nat.le_of_ble_eq_true rfl) d48_ok ?_
  simp [Tryz.f48, d48]
  refine CW.loop (fun j s' H' => ∃ k, k ≤ l.length ∧ j = l.length - k ∧ s'.env 0 = .sl 1 (ints l) ∧ s'.env 1 = ci n ∧ s'.env 5 = .int .i64 k ∧ s'.ds = [] ∧ H' = H ∧ ∀ (i : Nat) x, i < k → l[i]? = some x → x ≠ n) ?_ (m := l.length) ⟨0, by simp⟩
  rintro j ⟨e, ds⟩ H' ⟨k, hk, rfl, e0, e1, e5, rfl, rfl, hno⟩
  dsimp only at e0 e1 e5
  refine vw_sound hX mixed (D := d48) _ _ _ _ (by kernel_rfl) ?_
  by_cases hkl : k < l.length
  · obtain ⟨x, hxe⟩ : ∃ x, l[k] = x := ⟨_, rfl⟩
    have hx : l[k]? = some x := by rw [List.getElem?_eq_getElem hkl, hxe]
    simp [e0, e1, e5, hkl, ints_len, ints_at hx]
    refine ⟨fun h => List.mem_of_getElem? (by rw [hx, h]), fun h => ⟨l.length - (k + 1), by omega, k + 1, by omega, rfl, by rw [wrapI (by omega) (by omega)]; omega, fun i y hi hy => ?_⟩⟩
    rcases Nat.lt_or_ge i k with h2 | h2
    · exact hno i y h2 hy
    · have : i = k := by omega
      subst this
      rw [hx] at hy
      injection hy with hy
      rw [← hy]
      exact h
  · have : k = l.length := by omega
    subst this
    simp [e0, e1, e5, ints_len]
    intro hm
    obtain ⟨i, hi, hin⟩ := List.mem_iff_getElem.1 hm
    exact hno i n hi (by rw [List.getElem?_eq_getElem hi, hin]) rfl
theorem hasQ_f (hX : CxOk (cx W G)) {H : Hp} {v : CV} {l : List Int} (n : Int) (hv : SlF H v l) (hl : l.length ≤ 1000000) : CC Tryz.prog W 48 [v, ci n] H fun x H' => x = .ret (.bool (decide (n ∈ l))) ∧ H' = H := by
  refine (CC.freeze (args' := [.sl 1 (ints l), ci n]) (R := fun v => v = .bool (decide (n ∈ l))) (by rfl) (fz2 hv.fz (.same _)) (by rintro v rfl; simp [plainV]) fun w hw => ?_).mono ?_
  · exact (hasQ_c (W := w) (CxOk.later hX hw) l n hl _).mono fun x H' ⟨h1, _⟩ => ⟨_, h1, rfl⟩
  · rintro x H' ⟨v, rfl, rfl, rfl⟩
    exact ⟨rfl, rfl⟩
theorem natL_mem {n : Nat} {L : List Nat} : (n : Int) ∈ natL L ↔ n ∈ L := by
  simp only [natL, List.mem_map]
  constructor
  · rintro ⟨a, h, e⟩; have : a = n := by omega
    rw [← this]; exact h
  · intro h; exact ⟨n, h, rfl⟩
end Go.Cl.Gd
