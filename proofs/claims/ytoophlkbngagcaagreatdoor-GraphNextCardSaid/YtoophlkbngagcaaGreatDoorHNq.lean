/- DERIVED HERE. graph.Next, graph.Before; the reference's Next, Before. DERIVED HERE. graph.Entries. DERIVED HERE. The reference's Next, Before, Entries. -/
import Derived.Test.YtoophlkbngagcaaGreatDoorHBx
import Derived.Test.YtoophlkbngagcaaGreatDoorHC
set_option linter.unusedSimpArgs false
set_option linter.unusedVariables false
namespace Go.Cl.Gd
open Go.Proofs
variable {W : World} {G : Nat → CV}
set_option maxRecDepth 8000
set_option maxHeartbeats 1000000
/-- What graph.Next and graph.Before answer. -/
structure NxA (u : UUnit) (b : Int) (L : (Nat → Bool) → Nat → List Nat) (x : CE) (H' : Hp) : Prop where
  er : errU u ≠ 0 → x = .ret (.tuple [.nilsl, ci (errU u)])
  out : errU u = 0 → outB u.blocks.length b = true → x = .ret (.tuple [.nilsl, ci 2])
  ok : errU u = 0 → outB u.blocks.length b = false → ∃ p c v, PLeast (opsOf u) p c ∧ x = .ret (.tuple [v, ci 0]) ∧ SlF H' v (natL (L p b.toNat))
theorem NxA.free {u : UUnit} {b : Int} {L : (Nat → Bool) → Nat → List Nat} {x : CE} {H' : Hp} (h : NxA u b L x H') : FreeEnd x := by
  by_cases he : errU u = 0
  · cases ho : outB u.blocks.length b with
    | true => rw [h.out he ho]; exact tup2_free .nilsl
    | false => obtain ⟨p, c, v, _, rfl, h5⟩ := h.ok he ho; exact tup2_free h5.free
  · rw [h.er he]; exact tup2_free .nilsl
theorem NxA.wkm {u : UUnit} {b : Int} {L : (Nat → Bool) → Nat → List Nat} {x : CE} {H' H2 : Hp} (h : NxA u b L x H') (hl : Le (wkH H') H2) : NxA u b L x H2 :=
  ⟨h.er, h.out, fun he ho => by
    obtain ⟨p, c, v, a1, a4, a5⟩ := h.ok he ho
    exact ⟨p, c, v, a1, a4, a5.wk.mono hl⟩⟩
theorem next_c (hX : CxOk (cx W G)) (hG : G 0 = .iptr formsC) (u : UUnit) (hu : UOk u) (b : Int) (H : Hp) : CC Tryz.prog W 29 [.agg (unitC u), ci b] H fun x H' => NxA u b (fun p => nextN u p) x H' := by
  refine CC.of_cw hX Tryz.func29 rfl rfl (Nat.le_of_ble_eq_true rfl) ?_
  refine CW.walk hX mixed d29 rfl ?_
  simp
  intro q3 hq3
  have hat := fun (r : Nat) (H' : Hp) (h : H' r = some (.cells [ci b])) => at_c hX hG u hu (slF_of (l := [b]) h) (by simp)
  simp only [unitC] at hat
  refine CW.walk hX mixed d29 rfl ?_
  simp [unitC, cfill]
  intro r h1 h2 h3
  refine (hat r _ set_at).k ?_
  rintro x H2 hA
  by_cases he : errU u = 0
  rotate_left
  · obtain ⟨rfl, _⟩ := hA.er he
    simp
    refine CW.walk hX mixed d29 rfl ?_
    simp [he]
    exact ⟨fun _ => rfl, fun q => absurd q he, fun q => absurd q he⟩
  cases ho : outB u.blocks.length b with
  | true =>
    obtain ⟨rfl, _⟩ := hA.out he (by simpa using ho)
    simp
    refine CW.walk hX mixed d29 rfl ?_
    simp
    exact ⟨fun q => absurd he q, fun _ _ => rfl, fun _ q => by rw [ho] at q; cases q⟩
  | false =>
    obtain ⟨gp, p, c, rn, rb, ro, ri, rk, co, ns, bs, ex, I, rfl, hp, h⟩ := hA.ok he (by simpa using ho)
    obtain ⟨k, rfl, hk⟩ := outB_no.1 ho
    have mg := h.g
    have mn := h.n
    obtain ⟨w, hw, hsl⟩ := h.nn k hk
    simp
    refine CW.walk hX mixed d29 rfl ?_
    simp
    refine CW.walk1 hX mixed d29 rfl ?_
    simp [mg, mn, hk, hw]
    exact ⟨fun q => absurd he q, fun _ q => (by rw [ho] at q; cases q), fun _ _ => ⟨p, c, w, hp, rfl, hsl⟩⟩
theorem before_c (hX : CxOk (cx W G)) (hG : G 0 = .iptr formsC) (u : UUnit) (hu : UOk u) (b : Int) (H : Hp) : CC Tryz.prog W 30 [.agg (unitC u), ci b] H fun x H' => NxA u b (fun p => befL (nextN u p) u.blocks.length) x H' := by
  refine CC.of_cw hX Tryz.func30 rfl rfl (Nat.le_of_ble_eq_true rfl) ?_
  refine CW.walk hX mixed d30 rfl ?_
  simp
  intro q3 hq3
  have hat := fun (r : Nat) (H' : Hp) (h : H' r = some (.cells [ci b])) => at_c hX hG u hu (slF_of (l := [b]) h) (by simp)
  simp only [unitC] at hat
  refine CW.walk hX mixed d30 rfl ?_
  simp [unitC, cfill]
  intro r h1 h2 h3
  refine (hat r _ set_at).k ?_
  rintro x H2 hA
  by_cases he : errU u = 0
  rotate_left
  · obtain ⟨rfl, _⟩ := hA.er he
    simp
    refine CW.walk hX mixed d30 rfl ?_
    simp [he]
    exact ⟨fun _ => rfl, fun q => absurd q he, fun q => absurd q he⟩
  cases ho : outB u.blocks.length b with
  | true =>
    obtain ⟨rfl, _⟩ := hA.out he (by simpa using ho)
    simp
    refine CW.walk hX mixed d30 rfl ?_
    simp
    exact ⟨fun q => absurd he q, fun _ _ => rfl, fun _ q => by rw [ho] at q; cases q⟩
  | false =>
    obtain ⟨gp, p, c, rn, rb, ro, ri, rk, co, ns, bs, ex, I, rfl, hp, h⟩ := hA.ok he (by simpa using ho)
    obtain ⟨k, rfl, hk⟩ := outB_no.1 ho
    have mg := h.g
    have mn := h.b
    obtain ⟨w, hw, hsl⟩ := h.bb k hk
    simp
    refine CW.walk hX mixed d30 rfl ?_
    simp
    refine CW.walk1 hX mixed d30 rfl ?_
    simp [mg, mn, hk, hw]
    exact ⟨fun q => absurd he q, fun _ q => (by rw [ho] at q; cases q), fun _ _ => ⟨p, c, w, hp, rfl, hsl⟩⟩
theorem next_f (hX : CxOk (cx W G)) (hG : G 0 = .iptr formsC) {u : UUnit} (hu : UOk u) (b : Int) {H : Hp} {cs : List CV} (hf : Fz H (.agg cs) (.agg (unitC u))) : CC Tryz.prog W 29 [.agg cs, ci b] H fun x H' => NxA u b (fun p => nextN u p) x H' ∧ Le H H' := by
  refine (CC.freeze3 (args' := [.agg (unitC u), ci b]) (R := NxA u b fun p => nextN u p) (by rfl) (fz2' hf _) (fun x H' h => h.free) fun w hw => ?_).mono ?_
  · exact next_c (W := w) (CxOk.later hX hw) hG u hu b _
  · rintro x H2 ⟨H', h1, h2, h3, _⟩
    exact ⟨h1.wkm h3, h2⟩
theorem before_f (hX : CxOk (cx W G)) (hG : G 0 = .iptr formsC) {u : UUnit} (hu : UOk u) (b : Int) {H : Hp} {cs : List CV} (hf : Fz H (.agg cs) (.agg (unitC u))) : CC Tryz.prog W 30 [.agg cs, ci b] H fun x H' => NxA u b (fun p => befL (nextN u p) u.blocks.length) x H' ∧ Le H H' := by
  refine (CC.freeze3 (args' := [.agg (unitC u), ci b]) (R := NxA u b fun p => befL (nextN u p) u.blocks.length) (by rfl) (fz2' hf _) (fun x H' h => h.free) fun w hw => ?_).mono ?_
  · exact before_c (W := w) (CxOk.later hX hw) hG u hu b _
  · rintro x H2 ⟨H', h1, h2, h3, _⟩
    exact ⟨h1.wkm h3, h2⟩
end Go.Cl.Gd
set_option linter.unusedSimpArgs false
set_option linter.unusedVariables false
namespace Go.Cl.Gd
open Go.Proofs
variable {W : World} {G : Nat → CV}
set_option maxRecDepth 8000
set_option maxHeartbeats 1000000
structure ixI (H : Hp) (v : CV) (l : List Int) (b : Int) (d m : Nat) (s' : CA) (H' : Hp) : Prop where
  ex : ∃ k k8 : Nat, m = l.length - k ∧ k ≤ l.length ∧ k8 + d = k ∧ s'.env 0 = v ∧ s'.env 1 = ci b ∧ s'.env 7 = .int .i64 l.length ∧ s'.env 8 = .int .i64 k8 ∧ s'.ds = [] ∧ H' = H ∧ ∀ y ∈ l.take k, y ≠ b
theorem indexI_c (hX : CxOk (cx W G)) {H : Hp} {v : CV} {l : List Int} (b : Int) (hv : SlF H v l) (hl : l.length ≤ 100000) : CC Tryz.prog W 81 [v, ci b] H fun x H' => ∃ k : Int, x = .ret (ci k) ∧ H' = H ∧ (0 ≤ k ↔ b ∈ l) := by
  refine CC.of_cw hX Tryz.func81 rfl rfl (Nat.le_of_ble_eq_true rfl) ?_
  rcases hv with ⟨rfl, rfl⟩ | ⟨r, c, cs, rfl, hr, hc⟩
  · refine CW.walk hX mixed d81 rfl ?_
    simp
    refine CW.cut (fun s' H' => s'.ds = [] ∧ H' = H) ?_ ?_
    · refine CW.walk hX mixed d81 rfl ?_
      simp
      refine CW.block ?_
      refine CW.loop (fun _ s' H' => s'.env 7 = ci 0 ∧ s'.env 8 = ci 0 ∧ s'.ds = [] ∧ H' = H) ?_ (m := 0) ⟨by simp, by simp, rfl, rfl⟩
      rintro m ⟨e, ds⟩ H1 ⟨e7, e8, rfl, rfl⟩
      dsimp only at e7 e8
      refine CW.walk hX mixed d81 rfl ?_
      simp [e7, e8]
      refine CW.walk hX mixed d81 rfl ?_
      simp
    rintro ⟨e, ds⟩ H1 ⟨rfl, rfl⟩
    refine CW.walk hX mixed d81 rfl ?_
    simp
    refine CW.walk1 hX mixed d81 rfl ?_
    simp
  · refine CW.walk hX mixed d81 rfl ?_
    simp
    refine CW.cut (fun s' H' => s'.ds = [] ∧ H' = H ∧ b ∉ l) ?_ ?_
    · refine CW.walk hX mixed d81 rfl ?_
      simp
      refine CW.block ?_
      refine CW.loop (ixI H (.ref r 0 l.length (l.length + c)) l b 0) ?_ (m := l.length) ⟨0, 0, rfl, by omega, rfl, by simp, by simp, by simp, by simp, rfl, rfl, by simp⟩
      rintro m ⟨e, ds⟩ H1 ⟨k, k8, rfl, hk, hk8, e0, e1, e7, e8, rfl, rfl, hno⟩
      obtain rfl : k8 = k := by omega
      dsimp only at e0 e1 e7 e8
      by_cases hkl : k8 < l.length
      rotate_left
      · refine CW.walk hX mixed d81 rfl ?_
        simp [e7, e8, hkl]
        refine CW.walk hX mixed d81 rfl ?_
        simp
        intro hm
        exact hno b (by rwa [List.take_of_length_le (by omega)]) rfl
      obtain ⟨x, hx⟩ : ∃ x, l[k8]? = some x := ⟨_, List.getElem?_eq_getElem hkl⟩
      have hcx := hc k8 x hx
      have htk : l.take (k8 + 1) = l.take k8 ++ [x] := by
        rw [List.take_succ_eq_append_getElem hkl]
        rw [List.getElem?_eq_getElem hkl] at hx
        injection hx with hx
        rw [hx]
      refine CW.walk hX mixed d81 rfl ?_
      simp [e7, e8, hkl]
      refine CW.walk hX mixed d81 rfl ?_
      simp
      refine CW.cut (ixI H1 (.ref r 0 l.length (l.length + c)) l b 1 (l.length - (k8 + 1))) ?_ ?_
      · refine CW.block ?_
        refine CW.walk hX mixed d81 rfl ?_
        simp [e8]
        by_cases hbx : b = x
        · refine CW.walk hX mixed d81 rfl ?_
          simp [e0, e1, hkl, hr, hcx, hbx]
          refine CW.condE hX (b := true) (by simp [hbx]) (fun _ => ?_) (fun h => by cases h)
          refine CW.walk hX mixed d81 rfl ?_
          simp
          refine CW.walk1 hX mixed d81 rfl ?_
          simp
          rw [hbx]
          exact List.mem_of_getElem? hx
        · refine CW.walk hX mixed d81 rfl ?_
          simp [e0, e1, hkl, hr, hcx, hbx]
          refine CW.condE hX (b := false) (by simp [hbx]) (fun h => by cases h) (fun _ => ?_)
          refine CW.walk1 hX mixed d81 rfl ?_
          simp
          refine ⟨k8 + 1, k8, rfl, by omega, rfl, by simp [e0], by simp [e1], by simp [e7], by simp [e8], rfl, rfl, fun y hy => ?_⟩
          rw [htk, List.mem_append] at hy
          rcases hy with hy | hy
          · exact hno y hy
          · simp at hy; subst hy; exact fun q => hbx q.symm
      clear e0 e1 e7 e8
      rintro ⟨e, ds⟩ H2 ⟨k, k8', hkk, hk, hk8, e0, e1, e7, e8, rfl, rfl, hno2⟩
      dsimp only at e0 e1 e7 e8
      obtain rfl : k = k8 + 1 := by omega
      obtain rfl : k8' = k8 := by omega
      refine CW.walk1 hX mixed d81 rfl ?_
      simp [e8]
      exact ⟨l.length - (k8' + 1), by omega, k8' + 1, k8' + 1, rfl, hk, rfl, by simp [e0], by simp [e1], by simp [e7], by simp; exact wrapI (by omega) (by omega), rfl, rfl, hno2⟩
    rintro ⟨e, ds⟩ H1 ⟨rfl, rfl, hnm⟩
    refine CW.walk hX mixed d81 rfl ?_
    simp
    refine CW.walk1 hX mixed d81 rfl ?_
    simp
    exact hnm
theorem contains_c (hX : CxOk (cx W G)) {H : Hp} {v : CV} {l : List Int} (b : Int) (hv : SlF H v l) (hl : l.length ≤ 100000) : CC Tryz.prog W 60 [v, ci b] H fun x H' => x = .ret (.bool (decide (b ∈ l))) ∧ H' = H := by
  refine CC.of_cw hX Tryz.func60 rfl rfl (Nat.le_of_ble_eq_true rfl) ?_
  refine CW.walk hX mixed d60 rfl ?_
  simp
  refine CW.walk1 hX mixed d60 rfl ?_
  simp
  refine (indexI_c hX b hv hl).k ?_
  rintro x H1 ⟨k, rfl, rfl, hk⟩
  simp
  exact hk
/-- The blocks from which there is a way of a kind: by an End, by an Exit, by a trap. -/
def kindL (p : Nat → Bool) (k : Nat) (x : UBlk) : List Int := if k = 0 then goesL x.en else if k = 1 then exitsL x else caughtL p x
def entT (u : UUnit) (p : Nat → Bool) (b : Int) (k i : Nat) : Bool := match u.blocks[i]? with | some x => decide (b ∈ kindL p k x) | none => false
def entL (u : UUnit) (p : Nat → Bool) (b : Int) (k m : Nat) : List Nat := (List.range m).filter (entT u p b k)
theorem entL_succ {u : UUnit} {p : Nat → Bool} {b : Int} {k m : Nat} : entL u p b k (m + 1) = entL u p b k m ++ (if entT u p b k m = true then [m] else []) := by
  rw [entL, List.range_succ, List.filter_append]
  congr 1
  by_cases h : entT u p b k m = true
  · simp [h]
  · simp [h]
theorem entL_len {u : UUnit} {p : Nat → Bool} {b : Int} {k m : Nat} : (entL u p b k m).length ≤ m := by
  have := List.length_filter_le (entT u p b k) (List.range m)
  rwa [List.length_range] at this
theorem Own.kept {B H H5 : Hp} {v v' w : CV} {sz : Nat} {xs : List (List CV)} (h : Own B H w sz xs) (hB : Le B H5) (hs : ∀ r n c n' c', w = .ref r 0 n c → v ≠ .ref r 0 n' c') (kp : ∀ q o, H q = some o → (∀ n c, v ≠ .ref q 0 n c) → H5 q = some o ∧ ∀ n c, v' ≠ .ref q 0 n c) : Own B H5 w sz xs ∧ ∀ r n c n' c', w = .ref r 0 n c → v' ≠ .ref r 0 n' c' := by
  obtain ⟨h1, h2, h3⟩ := h
  rcases h3 with ⟨rfl, hx⟩ | ⟨r, c, ex, rfl, h4, h5, h6⟩
  · exact ⟨⟨hB, h2, .inl ⟨rfl, hx⟩⟩, fun r n c n' c' e => by cases e⟩
  · obtain ⟨k1, k2⟩ := kp r _ h5 fun n' c' => hs r _ _ n' c' rfl
    exact ⟨⟨hB, h2, .inr ⟨r, c, ex, rfl, h4, k1, h6⟩⟩, fun r' n c n' c' e => by injection e with e; subst e; exact k2 n' c'⟩
theorem Own.setQ {B H : Hp} {w : CV} {sz q : Nat} {xs : List (List CV)} {o : Ob} (h : Own B H w sz xs) (hq : B q = none) (hw : ∀ n c, w ≠ .ref q 0 n c) : Own B (H.set q o) w sz xs := by
  obtain ⟨h1, h2, h3⟩ := h
  refine ⟨h1.put hq, h2, ?_⟩
  rcases h3 with h3 | ⟨r, c, ex, rfl, h4, h5, h6⟩
  · exact .inl h3
  · refine .inr ⟨r, c, ex, rfl, h4, ?_, h6⟩
    rw [hset_ne]
    · exact h5
    · intro e; subst e; exact hw _ _ rfl
/-- Three lists that are being built, in an array's block. -/
structure E3 (B H : Hp) (q : Nat) (v : Nat → CV) (L : Nat → List Nat) : Prop where
  own : ∀ k, k < 3 → Own B H (v k) 1 (ints (natL (L k)))
  cell : H q = some (.cells [v 0, v 1, v 2])
  bq : B q = none
  nq : ∀ k, k < 3 → ∀ n c, v k ≠ .ref q 0 n c
  sep : ∀ i j, i < 3 → j < 3 → i ≠ j → ∀ r n c n' c', v i = .ref r 0 n c → v j ≠ .ref r 0 n' c'
theorem E3.mono {B H H' : Hp} {q : Nat} {v : Nat → CV} {L : Nat → List Nat} (h : E3 B H q v L) (hl : Le H H') : E3 B H' q v L := ⟨fun k hk => (h.own k hk).mono hl, hl _ _ h.cell, h.bq, h.nq, h.sep⟩
theorem E3.put {B H H5 : Hp} {q k x : Nat} {v : Nat → CV} {L : Nat → List Nat} {v' : CV} (h : E3 B H q v L) (hk : k < 3) (how : Own B H5 v' 1 (ints (natL (L k ++ [x])))) (kp : ∀ q o, H q = some o → (∀ n c, v k ≠ .ref q 0 n c) → H5 q = some o ∧ ∀ n c, v' ≠ .ref q 0 n c) :
    H5 q = some (.cells [v 0, v 1, v 2]) ∧ E3 B (H5.set q (.cells [if 0 = k then v' else v 0, if 1 = k then v' else v 1, if 2 = k then v' else v 2])) q (fun j => if j = k then v' else v j) (fun j => if j = k then L k ++ [x] else L j) := by
  have hq := kp q _ h.cell (h.nq k hk)
  have ho : ∀ j, j < 3 → j ≠ k → Own B H5 (v j) 1 (ints (natL (L j))) ∧ ∀ r n c n' c', v j = .ref r 0 n c → v' ≠ .ref r 0 n' c' := fun j hj hjk => Own.kept (h.own j hj) how.1 (fun r n c n' c' e => h.sep j k hj hk hjk r n c n' c' e) kp
  have hnq : ∀ j, j < 3 → ∀ n c, (if j = k then v' else v j) ≠ .ref q 0 n c := fun j hj n c => by
    by_cases hjk : j = k
    · rw [if_pos hjk]; exact hq.2 n c
    · rw [if_neg hjk]; exact h.nq j hj n c
  refine ⟨hq.1, fun j hj => ?_, set_at, h.bq, hnq, fun i j hi hj hij r n c n' c' e => ?_⟩
  · have := hnq j hj
    by_cases hjk : j = k
    · rw [if_pos hjk] at this
      rw [if_pos hjk, if_pos hjk]
      exact Own.setQ how h.bq this
    · rw [if_neg hjk] at this
      rw [if_neg hjk, if_neg hjk]
      exact Own.setQ (ho j hj hjk).1 h.bq this
  · by_cases hik : i = k
    · rw [if_pos hik] at e
      rw [if_neg (by omega)]
      intro e2
      exact (ho j hj (by omega)).2 r n' c' n c e2 e
    · rw [if_neg hik] at e
      by_cases hjk : j = k
      · rw [if_pos hjk]
        exact (ho i hi hik).2 r n c n' c' e
      · rw [if_neg hjk]
        exact h.sep i j hi hj hij r n c n' c' e
theorem E3.congr {B H : Hp} {q : Nat} {v : Nat → CV} {L L' : Nat → List Nat} (h : E3 B H q v L) (hl : ∀ k, k < 3 → L k = L' k) : E3 B H q v L' := ⟨fun k hk => by rw [← hl k hk]; exact h.own k hk, h.cell, h.bq, h.nq, h.sep⟩
theorem E3.down {B B9 H : Hp} {q : Nat} {v : Nat → CV} {L : Nat → List Nat} (h : E3 B9 H q v L) (hl : Le B B9) : E3 B H q v L := by
  refine ⟨fun k hk => ?_, h.cell, hl.none h.bq, h.nq, h.sep⟩
  obtain ⟨h1, h2, h3⟩ := h.own k hk
  refine ⟨hl.trans h1, h2, ?_⟩
  rcases h3 with h3 | ⟨r, c, ex, e, h4, h5⟩
  · exact .inl h3
  · exact .inr ⟨r, c, ex, e, hl.none h4, h5⟩
theorem E3.rebase {B H : Hp} {q : Nat} {v : Nat → CV} {L : Nat → List Nat} (h : E3 B H q v L) : ∃ B9, Le B B9 ∧ E3 B9 H q v L ∧ ∀ r o, H r = some o → r ≠ q → (∀ k, k < 3 → ∀ n c, v k ≠ .ref r 0 n c) → B9 r = some o := by
  classical
  have hB := (h.own 0 (by omega)).1
  refine ⟨fun r => if r = q ∨ ∃ k, k < 3 ∧ ∃ n c, v k = .ref r 0 n c then none else H r, fun r o hr => ?_, ⟨fun k hk => ?_, h.cell, ?_, h.nq, h.sep⟩, fun r o hr hq hv => ?_⟩
  · dsimp only
    rw [if_neg, hB _ _ hr]
    rintro (rfl | ⟨k, hk, n, c, e⟩)
    · rw [h.bq] at hr; cases hr
    · obtain ⟨_, _, h3⟩ := h.own k hk
      rcases h3 with ⟨h3, _⟩ | ⟨r', c', ex, e2, h4, _⟩
      · rw [e] at h3; cases h3
      · rw [e] at e2; injection e2 with e2; subst e2; rw [h4] at hr; cases hr
  · obtain ⟨h1, h2, h3⟩ := h.own k hk
    refine ⟨fun r o hr => ?_, h2, ?_⟩
    · dsimp only at hr
      split at hr
      · cases hr
      · exact hr
    · rcases h3 with h3 | ⟨r, c, ex, e, h4, h5⟩
      · exact .inl h3
      · exact .inr ⟨r, c, ex, e, if_pos (.inr ⟨k, hk, _, _, e⟩), h5⟩
  · exact if_pos (.inl rfl)
  · dsimp only
    rw [if_neg, hr]
    rintro (h | ⟨k, hk, n, c, e⟩)
    · exact hq h
    · exact hv k hk n c e
theorem E3.fresh {B H : Hp} {q r : Nat} {v : Nat → CV} {L : Nat → List Nat} (h : E3 B H q v L) (hr : H r = none) : r ≠ q ∧ ∀ k, k < 3 → ∀ n c, v k ≠ .ref r 0 n c := by
  refine ⟨fun e => (by subst e; rw [h.cell] at hr; cases hr), fun k hk n c e => ?_⟩
  obtain ⟨_, _, h3⟩ := h.own k hk
  rcases h3 with ⟨h3, _⟩ | ⟨r', c', ex, e2, _, h4, _⟩
  · rw [e] at h3; cases h3
  · rw [e] at e2; injection e2 with e2; subst e2; rw [h4] at hr; cases hr
theorem Own.fresh {B H : Hp} {w : CV} {sz r n c : Nat} {xs : List (List CV)} (h : Own B H w sz xs) (e : w = .ref r 0 n c) : B r = none := by
  rcases h.2.2 with ⟨h3, _⟩ | ⟨r', c', ex, e2, h4, _⟩
  · rw [e] at h3; cases h3
  · rw [e] at e2; injection e2 with e2; subst e2; exact h4
structure enJ (B : Hp) (u : UUnit) (p : Nat → Bool) (b q2 q10 q11 i : Nat) (w0 w1 w2 : CV) (d m : Nat) (s' : CA) (H' : Hp) : Prop where
  ex : ∃ (k k45 : Nat) (v : Nat → CV), m = 3 - k ∧ k ≤ 3 ∧ k45 + d = k ∧ s'.env 1 = .int .i64 b ∧ s'.env 2 = .ptr q2 0 ∧ s'.env 10 = .ptr q10 0 ∧ s'.env 11 = .ptr q11 0 ∧ s'.env 12 = .int .i64 i ∧ s'.env 29 = .sl 6 (u.blocks.map blkC) ∧ s'.env 30 = .int .i64 u.blocks.length ∧ s'.env 31 = .int .i64 i ∧ s'.env 44 = .agg [w0, w1, w2] ∧ s'.env 45 = .int .i64 k45 ∧ s'.ds = [] ∧ E3 B H' q10 v (fun j => if j < k then entL u p b j (i + 1) else entL u p b j i)
structure enI (B : Hp) (u : UUnit) (p : Nat → Bool) (b q2 q10 q11 : Nat) (d m : Nat) (s' : CA) (H' : Hp) : Prop where
  ex : ∃ (i i31 : Nat) (v : Nat → CV), m = u.blocks.length - i ∧ i ≤ u.blocks.length ∧ i31 + d = i ∧ s'.env 1 = .int .i64 b ∧ s'.env 2 = .ptr q2 0 ∧ s'.env 10 = .ptr q10 0 ∧ s'.env 11 = .ptr q11 0 ∧ s'.env 29 = .sl 6 (u.blocks.map blkC) ∧ s'.env 30 = .int .i64 u.blocks.length ∧ s'.env 31 = .int .i64 i31 ∧ s'.ds = [] ∧ E3 B H' q10 v (fun k => entL u p b k i)
structure enX (B : Hp) (u : UUnit) (p : Nat → Bool) (b q10 : Nat) (s' : CA) (H' : Hp) : Prop where
  ex : ∃ (v : Nat → CV), s'.env 10 = .ptr q10 0 ∧ s'.ds = [] ∧ E3 B H' q10 v (fun k => entL u p b k u.blocks.length)
/-- What graph.Entries answers. -/
structure EnA (u : UUnit) (b : Int) (x : CE) (H' : Hp) : Prop where
  er : errU u ≠ 0 → x = .ret (.tuple [.nilsl, .nilsl, .nilsl, ci (errU u)])
  out : errU u = 0 → outB u.blocks.length b = true → x = .ret (.tuple [.nilsl, .nilsl, .nilsl, ci 2])
  ok : errU u = 0 → outB u.blocks.length b = false → ∃ p c v0 v1 v2, PLeast (opsOf u) p c ∧ x = .ret (.tuple [v0, v1, v2, ci 0]) ∧ SlF H' v0 (natL (entL u p b 0 u.blocks.length)) ∧ SlF H' v1 (natL (entL u p b 1 u.blocks.length)) ∧ SlF H' v2 (natL (entL u p b 2 u.blocks.length))
theorem entries_c (hX : CxOk (cx W G)) (hG : G 0 = .iptr formsC) (u : UUnit) (hu : UOk u) (b : Int) (H : Hp) : CC Tryz.prog W 31 [.agg (unitC u), ci b] H fun x H' => EnA u b x H' := by
  refine CC.of_cw hX Tryz.func31 rfl rfl (Nat.le_of_ble_eq_true rfl) ?_
  refine CW.walk hX mixed d31 rfl ?_
  simp
  intro q2 hq2
  have hle1 : Le H (H.set q2 (.cells (unitC u))) := Le.set_new hq2
  have m2 : (H.set q2 (.cells (unitC u))) q2 = some (.cells (unitC u)) := set_at
  generalize H.set q2 _ = H1 at hle1 m2 ⊢
  have hat := fun (r : Nat) (H' : Hp) (h : H' r = some (.cells [ci b])) => at_c hX hG u hu (slF_of (l := [b]) h) (by simp)
  simp only [unitC] at hat m2
  refine CW.walk hX mixed d31 rfl ?_
  simp [m2, cfill]
  intro r hr
  have hler : Le H1 (H1.set r (.cells [ci b])) := Le.set_new hr
  refine (hat r _ set_at).k ?_
  rintro x H2 hA
  by_cases he : errU u = 0
  rotate_left
  · obtain ⟨rfl, _⟩ := hA.er he
    simp [he]
    exact ⟨fun _ => rfl, fun q => absurd q he, fun q => absurd q he⟩
  cases ho : outB u.blocks.length b with
  | true =>
    obtain ⟨rfl, _⟩ := hA.out he (by simpa using ho)
    simp
    exact ⟨fun q => absurd he q, fun _ _ => rfl, fun _ q => by rw [ho] at q; cases q⟩
  | false =>
    obtain ⟨gp, p, c, rn, rb, ro, ri, rk, co, ns, bs, ex, I, rfl, hp, h⟩ := hA.ok he (by simpa using ho)
    obtain ⟨k, rfl, hk⟩ := outB_no.1 ho
    have hw : wfU u = true := errU_wf.1 he
    have m22 := (hler.trans h.le) _ _ m2
    simp
    refine CW.walk hX mixed d31 rfl ?_
    simp [cfill]
    intro q10 hq10
    obtain ⟨f1, f2, f3, f4, f5, f6, f7, f8, f9, f10, f11⟩ := wfU_facts hw
    have hH2 : Le H1 H2 := hler.trans h.le
    have hB0 : (H2.set q10 (.cells [.nilsl, .nilsl, .nilsl])) q2 = some (.cells (unitC u)) := by
      rw [hset_ne (fun e => by rw [e, hq10] at m22; cases m22)]
      exact m22
    have hpo := poisoned_c hX hG u hw H2
    have hfr := hpo.frame (r := q10) (ob := .cells [.nilsl, .nilsl, .nilsl]) hq10
    simp only [unitC] at hfr hB0
    refine CW.walk hX mixed d31 rfl ?_
    simp [hB0]
    refine hfr.k ?_
    rintro x G3 ⟨H3, hH3, rfl, p3, c3, rr, rc, rfl, hne, hrr, hrc, hle3, hp3⟩
    obtain ⟨rfl, rfl⟩ := hp.unique hp3
    have m23 := hle3 _ _ m22
    simp
    intro q11 h1110 h1011 hq11
    obtain ⟨B, hB⟩ : ∃ B, H3.set q11 (.cells [.ref rr 0 u.regs.toNat u.regs.toNat, .ref rc 0 u.spill.toNat u.spill.toNat]) = B := ⟨_, rfl⟩
    have hl3 : Le H3 B := by rw [← hB]; exact Le.set_new hq11
    have b11 : B q11 = some (.cells [.ref rr 0 u.regs.toNat u.regs.toNat, .ref rc 0 u.spill.toNat u.spill.toNat]) := by rw [← hB]; exact set_at
    have b2 := hl3 _ _ m23
    have brr := hl3 _ _ hrr
    have brc := hl3 _ _ hrc
    have b10 : B q10 = none := by rw [← hB, hset_ne h1011]; exact hH3
    rw [set_comm h1011, hB]
    have hE0 : E3 B (B.set q10 (.cells [.nilsl, .nilsl, .nilsl])) q10 (fun _ => .nilsl) (fun k' => entL u p k k' 0) := ⟨fun j hj => Own.nil (Le.set_new b10), set_at, b10, fun j hj n c e => (by cases e), fun i j hi hj hij r n c n' c' e => by cases e⟩
    generalize B.set q10 _ = H4 at hE0 ⊢
    clear hB hfr hpo hl3 hrr hrc hle3 m23 hq11 hH3 hB0 m22 hA hat m2
    have b2' := b2
    refine CW.cut (enX B u p k q10) ?_ ?_
    · have k2 := (hE0.own 0 (by omega)).1 _ _ b2
      refine CW.walk hX mixed d31 rfl ?_
      simp [k2]
      refine CW.block ?_
      refine CW.loop (enI B u p k q2 q10 q11 0) ?_ (m := u.blocks.length) ⟨0, 0, fun _ => .nilsl, rfl, by omega, rfl, by simp, by simp, by simp, by simp, by simp, by simp, by simp, rfl, hE0⟩
      clear hE0 k2
      rintro m ⟨e, ds⟩ H5 ⟨i, i31, v, rfl, hi, hi31, e1, e2, e10, e11, e29, e30, e31, rfl, hE⟩
      obtain rfl : i31 = i := by omega
      dsimp only at e1 e2 e10 e11 e29 e30 e31
      by_cases hin : i31 < u.blocks.length
      rotate_left
      · obtain rfl : i31 = u.blocks.length := by omega
        refine CW.walk hX mixed d31 rfl ?_
        simp [e30, e31]
        refine CW.walk hX mixed d31 rfl ?_
        simp
        exact ⟨v, by simp [e10], rfl, hE⟩
      obtain ⟨x, hx⟩ : ∃ x, u.blocks[i31]? = some x := ⟨_, List.getElem?_eq_getElem hin⟩
      have hxe : u.blocks[i31] = x := by rw [List.getElem?_eq_getElem hin] at hx; injection hx
      refine CW.walk hX mixed d31 rfl ?_
      simp [e30, e31, hin]
      refine CW.walk hX mixed d31 rfl ?_
      simp
      refine CW.cut (enI B u p k q2 q10 q11 1 (u.blocks.length - (i31 + 1))) ?_ ?_
      · refine CW.block ?_
        refine CW.walk hX mixed d31 rfl ?_
        simp [e29, e31, hin, hxe, blkC]
        intro q13 hq13
        have hl13 : Le H5 (H5.set q13 (.cells (blkC x))) := Le.set_new hq13
        have m13 : (H5.set q13 (.cells (blkC x))) q13 = some (.cells (blkC x)) := set_at
        simp only [blkC, blkT] at hl13 m13
        generalize H5.set q13 _ = H6 at hl13 m13 ⊢
        have hE6 := hE.mono hl13
        have hB6 := (hE6.own 0 (by omega)).1
        have r11 := hB6 _ _ b11
        have rrr := hB6 _ _ brr
        have rrc := hB6 _ _ brc
        refine CW.walk hX mixed d31 rfl ?_
        simp [d31, e11, m13, r11]
        have hopl := (wfB_facts hw hx).2.1
        have hgo := goes_c hX x.en H6
        simp only [endC] at hgo
        refine hgo.k ?_
        rintro y H7 ⟨w0, rfl, o0⟩
        have m137 := o0.1 _ _ m13
        simp [d31, m137]
        have hex := exits_c hX x (by omega) H7
        simp only [blkC, blkT] at hex
        refine ⟨?_, ?_⟩
        · repeat' (first | exact stabI_le rfl o0.1 | refine ⟨?_, ?_⟩)
        refine hex.k ?_
        rintro y H8 ⟨w1, rfl, o1⟩
        have hl78 := o0.1.trans o1.1
        have m138 := hl78 _ _ m13
        have m118 := hl78 _ _ r11
        simp [d31, m138, m118]
        have hca := caught_c hX u hw x hx p c u.spill.toNat rr rc (hl78 _ _ rrr) (hl78 _ _ rrc)
        simp only [blkC, blkT] at hca
        refine ⟨?_, ?_⟩
        · repeat' (first | exact stabI_le rfl o1.1 | exact stabI_le rfl (o0.1.trans o1.1) | refine ⟨?_, ?_⟩)
        refine hca.k ?_
        rintro y H9 ⟨w2, rfl, o2⟩
        have hE9 := hE6.mono (hl78.trans o2.1)
        have s0 := (Own.slF o0).mono (o1.1.trans o2.1)
        have s1 := (Own.slF o1).mono o2.1
        have s2 := Own.slF o2
        obtain ⟨t0, c0⟩ := SlF.oc s0
        obtain ⟨t1, c1⟩ := SlF.oc s1
        obtain ⟨t2, c2⟩ := SlF.oc s2
        simp only [CV.stor, CV.cells] at t0 c0 t1 c1 t2 c2
        simp [d31, cfill, t0, t1, t2, c0, c1, c2]
        obtain ⟨B9, hB9, hE9', hkeep⟩ := hE9.rebase
        have z0 : SlF B9 w0 (kindL p 0 x) := SlF.to s0 fun r n c o e ho => hkeep r o ho (hE6.fresh (Own.fresh o0 e)).1 (hE6.fresh (Own.fresh o0 e)).2
        have z1 : SlF B9 w1 (kindL p 1 x) := SlF.to s1 fun r n c o e ho => hkeep r o ho ((hE6.mono o0.1).fresh (Own.fresh o1 e)).1 ((hE6.mono o0.1).fresh (Own.fresh o1 e)).2
        have z2 : SlF B9 w2 (kindL p 2 x) := SlF.to s2 fun r n c o e ho => hkeep r o ho ((hE6.mono hl78).fresh (Own.fresh o2 e)).1 ((hE6.mono hl78).fresh (Own.fresh o2 e)).2
        have hkl : ∀ k, (kindL p k x).length ≤ 1000 := fun k => by
          simp only [kindL]
          split
          · simp only [goesL]; split; simp; split <;> simp
          · split
            · simp only [exitsL, List.length_map]
              have := List.length_filter_le (fun o : UOp => decide (o.kind = 21)) x.ops
              omega
            · simp only [caughtL]; split <;> simp
        have hent : ∀ j, entT u p k j i31 = decide ((k : Int) ∈ kindL p j x) := fun j => by simp [entT, hx]
        clear s0 s1 s2 t0 t1 t2 c0 c1 c2 hkeep hca hex hgo m13 m137 m138 m118 r11 rrr rrc
        refine CW.block ?_
        refine CW.loop (enJ B9 u p k q2 q10 q11 i31 w0 w1 w2 0) ?_ (m := 3) ⟨0, 0, v, rfl, by omega, rfl, by simp [e1], by simp [e2], by simp [e10], by simp [e11], by simp, by simp [e29], by simp [e30], by simp [e31], by simp, by simp, rfl, hE9'.congr fun j hj => by simp⟩
        clear e1 e2 e10 e11 e29 e30 e31
        rintro m ⟨e, ds⟩ HK ⟨kk, k45, v', rfl, hkk, hk45, e1, e2, e10, e11, e12, e29, e30, e31, e44, e45, rfl, hEK⟩
        obtain rfl : k45 = kk := by omega
        dsimp only at e1 e2 e10 e11 e12 e29 e30 e31 e44 e45
        by_cases hk3 : k45 = 3
        · subst hk3
          refine CW.walk hX mixed d31 rfl ?_
          simp [e45]
          refine CW.walk hX mixed d31 rfl ?_
          simp
          exact ⟨i31 + 1, i31, v', rfl, by omega, rfl, by simp [e1], by simp [e2], by simp [e10], by simp [e11], by simp [e29], by simp [e30], by simp [e31], rfl, (hEK.down hB9).congr fun j hj => by simp [hj]⟩
        refine CW.walk hX mixed d31 rfl ?_
        simp [e45, show (k45 : Int) < 3 by omega]
        refine CW.walk hX mixed d31 rfl ?_
        simp
        refine CW.cut (enJ B9 u p k q2 q10 q11 i31 w0 w1 w2 1 (3 - (k45 + 1))) ?_ ?_
        · have hBK := (hEK.own 0 (by omega)).1
          have hlen : (entL u p k k45 i31).length ≤ 2000 := by have := entL_len (u := u) (p := p) (b := (k : Int)) (k := k45) (m := i31); omega
          have hsk := entL_succ (u := u) (p := p) (b := (k : Int)) (k := k45) (m := i31)
          have hek := hent k45
          have hown := hEK.own k45 (by omega)
          simp only [Nat.lt_irrefl, if_false] at hown
          have hcell := hEK.cell
          have hkl1 := hkl k45
          have fin0 : ∀ en : Env, entT u p k k45 i31 = false → en 1 = .int .i64 k → en 2 = .ptr q2 0 → en 10 = .ptr q10 0 → en 11 = .ptr q11 0 → en 12 = .int .i64 i31 → en 29 = .sl 6 (u.blocks.map blkC) → en 30 = .int .i64 u.blocks.length → en 31 = .int .i64 i31 → en 44 = .agg [w0, w1, w2] → en 45 = .int .i64 k45 → enJ B9 u p k q2 q10 q11 i31 w0 w1 w2 1 (3 - (k45 + 1)) ⟨en, []⟩ HK := fun en hf g1 g2 g10 g11 g12 g29 g30 g31 g44 g45 => ⟨k45 + 1, k45, v', rfl, by omega, rfl, g1, g2, g10, g11, g12, g29, g30, g31, g44, g45, rfl, hEK.congr fun j hj => by
            by_cases hj1 : j < k45
            · rw [if_pos hj1, if_pos (by omega)]
            · by_cases hj2 : j = k45
              · subst hj2; rw [if_neg (Nat.lt_irrefl _), if_pos (Nat.lt_succ_self _), hsk, if_neg (by simp [hf])]; simp
              · rw [if_neg hj1, if_neg (by omega)]⟩
          have fin1 : ∀ (qx : Nat) (v'' : CV) (H5 : Hp), entT u p k k45 i31 = true → HK qx = none → Own B9 H5 v'' 1 (ints (natL (entL u p k k45 i31)) ++ [[.int .i64 (i31 : Int)]]) → (∀ q o, (HK.set qx (.cells [.int .i64 (i31 : Int)])) q = some o → (∀ n c, v' k45 ≠ .ref q 0 n c) → H5 q = some o ∧ ∀ n c, v'' ≠ .ref q 0 n c) → H5 q10 = some (.cells [v' 0, v' 1, v' 2]) ∧ (∀ en : Env, en 1 = .int .i64 k → en 2 = .ptr q2 0 → en 10 = .ptr q10 0 → en 11 = .ptr q11 0 → en 12 = .int .i64 i31 → en 29 = .sl 6 (u.blocks.map blkC) → en 30 = .int .i64 u.blocks.length → en 31 = .int .i64 i31 → en 44 = .agg [w0, w1, w2] → en 45 = .int .i64 k45 → enJ B9 u p k q2 q10 q11 i31 w0 w1 w2 1 (3 - (k45 + 1)) ⟨en, []⟩ (H5.set q10 (.cells [if 0 = k45 then v'' else v' 0, if 1 = k45 then v'' else v' 1, if 2 = k45 then v'' else v' 2]))) := fun qx v'' H5 hf hqx how kp => by
            have hE5 := hEK.mono (Le.set_new (o := .cells [.int .i64 (i31 : Int)]) hqx)
            have e9 : ints (natL ((if k45 < k45 then entL u p k k45 (i31 + 1) else entL u p k k45 i31) ++ [i31])) = ints (natL (entL u p k k45 i31)) ++ [[.int .i64 (i31 : Int)]] := by simp [ints, natL]
            have := E3.put (x := i31) hE5 (k := k45) (by omega) (v' := v'') (H5 := H5) (by rw [e9]; exact how) kp
            refine ⟨this.1, fun en g1 g2 g10 g11 g12 g29 g30 g31 g44 g45 => ⟨k45 + 1, k45, _, rfl, by omega, rfl, g1, g2, g10, g11, g12, g29, g30, g31, g44, g45, rfl, this.2.congr fun j hj => ?_⟩⟩
            by_cases hj2 : j = k45
            · subst hj2; rw [if_pos rfl, if_neg (Nat.lt_irrefl _), if_pos (Nat.lt_succ_self _), hsk, if_pos hf]
            · rw [if_neg hj2]
              by_cases hj1 : j < k45
              · rw [if_pos hj1, if_pos (by omega)]
              · rw [if_neg hj1, if_neg (by omega)]
          have hz : ∃ w, [w0, w1, w2][k45]? = some w ∧ SlF HK w (kindL p k45 x) := by
            rcases k45 with _ | _ | _ | k45
            · exact ⟨w0, rfl, z0.mono hBK⟩
            · exact ⟨w1, rfl, z1.mono hBK⟩
            · exact ⟨w2, rfl, z2.mono hBK⟩
            · omega
          obtain ⟨w, hw1, hw2⟩ := hz
          refine CW.block ?_
          refine CW.walk hX mixed d31 rfl ?_
          simp [e44, e45, hw1]
          refine ⟨by omega, ?_⟩
          refine CW.walk hX mixed d31 rfl ?_
          simp [e1]
          refine (contains_c hX (k : Int) hw2 (by omega)).k ?_
          rintro y H5 ⟨rfl, rfl⟩
          rw [← hek]
          cases hen : entT u p k k45 i31 with
          | false =>
            simp
            refine CW.walk1 hX mixed d31 rfl ?_
            simp
            rw [show 2 - k45 = 3 - (k45 + 1) by omega]
            exact fin0 _ hen (by simp [e1]) (by simp [e2]) (by simp [e10]) (by simp [e11]) (by simp [e12]) (by simp [e29]) (by simp [e30]) (by simp [e31]) (by simp [e44]) (by simp [e45])
          | true =>
            simp
            refine CW.walk1 hX mixed d31 rfl ?_
            simp [e10, e12, hcell, cfill, -vcAppend, show (k45 : Int) < 3 by omega]
            refine ⟨v' k45, by rcases k45 with _ | _ | _ | k45 <;> first | rfl | omega, fun r hr => ?_⟩
            refine (hown.more hr).append2 (ys := [[.int .i64 (i31 : Int)]]) (by simp) (by simp [ints, natL]; omega) (src_one set_at rfl) fun v'' H6 how6 kp => ?_
            obtain ⟨hc6, fin⟩ := fin1 r v'' H6 hen hr how6 kp
            obtain ⟨r', c', rfl⟩ := how6.isRef (by simp)
            simp [e10, hc6]
            refine ⟨by omega, by omega, ?_⟩
            rw [show 2 - k45 = 3 - (k45 + 1) by omega]
            have hcl : List.take k45 [v' 0, v' 1, v' 2] ++ CV.ref r' 0 ((ints (natL (entL u p k k45 i31))).length + 1) c' :: List.drop k45 [v' 1, v' 2] = [if 0 = k45 then CV.ref r' 0 ((ints (natL (entL u p k k45 i31))).length + 1) c' else v' 0, if 1 = k45 then CV.ref r' 0 ((ints (natL (entL u p k k45 i31))).length + 1) c' else v' 1, if 2 = k45 then CV.ref r' 0 ((ints (natL (entL u p k k45 i31))).length + 1) c' else v' 2] := by
              rcases k45 with _ | _ | _ | k45
              · rfl
              · rfl
              · rfl
              · omega
            rw [hcl]
            simp only [List.length_append, List.length_singleton] at fin
            exact fin _ (by simp [e1]) (by simp [e2]) (by simp [e10]) (by simp [e11]) (by simp [e12]) (by simp [e29]) (by simp [e30]) (by simp [e31]) (by simp [e44]) (by simp [e45])
        clear e1 e2 e10 e11 e12 e29 e30 e31 e44 e45
        rintro ⟨e, ds⟩ HK2 ⟨kk, k45', v2, hkk2, hkk3, hk45, e1, e2, e10, e11, e12, e29, e30, e31, e44, e45, rfl, hE2⟩
        dsimp only at e1 e2 e10 e11 e12 e29 e30 e31 e44 e45
        obtain rfl : kk = k45 + 1 := by omega
        obtain rfl : k45' = k45 := by omega
        refine CW.walk1 hX mixed d31 rfl ?_
        simp [e45]
        exact ⟨3 - (k45' + 1), by omega, k45' + 1, k45' + 1, v2, rfl, hkk3, rfl, by simp [e1], by simp [e2], by simp [e10], by simp [e11], by simp [e12], by simp [e29], by simp [e30], by simp [e31], by simp [e44], by simp; exact wrapI (by omega) (by omega), rfl, hE2⟩
      clear e1 e2 e10 e11 e29 e30 e31
      rintro ⟨e, ds⟩ H6 ⟨i, i31', v', hii, hi, hi31, e1, e2, e10, e11, e29, e30, e31, rfl, hE2⟩
      dsimp only at e1 e2 e10 e11 e29 e30 e31
      obtain rfl : i = i31 + 1 := by omega
      obtain rfl : i31' = i31 := by omega
      refine CW.walk1 hX mixed d31 rfl ?_
      simp [e31]
      exact ⟨u.blocks.length - (i31' + 1), by omega, i31' + 1, i31' + 1, v', rfl, hi, rfl, by simp [e1], by simp [e2], by simp [e10], by simp [e11], by simp [e29], by simp [e30], by simp; exact wrapI (by omega) (by omega), rfl, hE2⟩
    rintro ⟨e, ds⟩ H5 ⟨v, e10, rfl, hE⟩
    dsimp only at e10
    have hc := hE.cell
    refine CW.walk hX mixed d31 rfl ?_
    simp [d31, e10, hc]
    refine CW.walk1 hX mixed d31 rfl ?_
    simp
    exact ⟨fun q => absurd he q, fun _ q => (by rw [ho] at q; cases q), fun _ _ => ⟨p, c, _, _, _, hp, rfl, (Own.slF (hE.own 0 (by omega))), (Own.slF (hE.own 1 (by omega))), (Own.slF (hE.own 2 (by omega)))⟩⟩
end Go.Cl.Gd
set_option linter.unusedSimpArgs false
set_option linter.unusedVariables false
namespace Go.Cl.Gd
open Go.Proofs
variable {W : World} {G : Nat → CV}
set_option maxRecDepth 8000
set_option maxHeartbeats 1000000
theorem refNext_c (hX : CxOk (cx W G)) {u : UUnit} (hu : wfU u = true) {k : Nat} (hk : k < u.blocks.length) (H : Hp) : CC Tryz.prog W 33 [.agg (unitC u), .int .i64 k] H fun x H' => ∃ v p c, x = .ret v ∧ PLeast (opsOf u) p c ∧ SlF H' v (natL (nextN u p k)) := by
  refine CC.of_cw hX Tryz.func33 rfl rfl (Nat.le_of_ble_eq_true rfl) ?_
  refine CW.walk hX mixed d33 rfl ?_
  simp
  intro q2 hq2
  have hg := refOf_c hX u hu (H.set q2 (.cells (unitC u)))
  refine CW.walk hX mixed d33 rfl ?_
  simp [unitC]
  simp only [unitC] at hg
  refine hg.k ?_
  rintro x H2 ⟨vn, rs, s, p, c, rfl, hp, hle2, hrs, _, hrows⟩
  rw [refN_eq hu] at hrows
  obtain ⟨rn, cn, cs, rfl, hcn, hrn, hrow⟩ := hrows
  obtain ⟨w, hw, hsl⟩ := hrow k hk
  simp [hrn, hw, hk]
  refine CW.walk1 hX mixed d33 rfl ?_
  simp
  exact ⟨p, ⟨c, hp⟩, hsl⟩
theorem refNext_f (hX : CxOk (cx W G)) {u : UUnit} (hu : wfU u = true) {k : Nat} (hk : k < u.blocks.length) {H : Hp} {cs : List CV} (hf : Fz H (.agg cs) (.agg (unitC u))) : CC Tryz.prog W 33 [.agg cs, .int .i64 k] H fun x H' => ∃ v p c, x = .ret v ∧ PLeast (opsOf u) p c ∧ Le H H' ∧ SlF H' v (natL (nextN u p k)) := by
  refine (CC.freeze3 (args' := [.agg (unitC u), .int .i64 k]) (R := fun x H' => ∃ v p c, x = .ret v ∧ PLeast (opsOf u) p c ∧ SlF H' v (natL (nextN u p k))) (by rfl) (fz2' hf _) (by rintro x H' ⟨v, p, c, rfl, _, h⟩; exact h.free) fun w hw => ?_).mono ?_
  · exact refNext_c (W := w) (CxOk.later hX hw) hu hk _
  · rintro x H2 ⟨H', ⟨v, p, c, rfl, h1, h4⟩, h2, h3, _⟩
    exact ⟨v, p, c, rfl, h1, h2, h4.wk.mono h3⟩
structure rbI (B : Hp) (vn : CV) (rs n k q2 : Nat) (N : Nat → List Nat) (d m : Nat) (s' : CA) (H' : Hp) : Prop where
  ex : ∃ (i i6 : Nat) (v : CV), m = n - i ∧ i ≤ n ∧ i6 + d = i ∧ s'.env 1 = .int .i64 k ∧ s'.env 2 = .ptr q2 0 ∧ s'.env 5 = v ∧ s'.env 6 = .int .i64 i6 ∧ s'.ds = [] ∧ Own B H' v 1 (ints (natL (befL N i k)))
theorem befL_succ {N : Nat → List Nat} {i k : Nat} : befL N (i + 1) k = befL N i k ++ (if k ∈ N i then [i] else []) := by
  rw [befL, List.range_succ, List.filter_append]
  congr 1
  by_cases h : k ∈ N i <;> simp [h]
theorem befL_len {N : Nat → List Nat} {i k : Nat} : (befL N i k).length ≤ i := by
  have := List.length_filter_le (fun a => decide (k ∈ N a)) (List.range i)
  rwa [List.length_range] at this
theorem refBefore_c (hX : CxOk (cx W G)) {H : Hp} {vn : CV} {rs n : Nat} {N : Nat → List Nat} {s : Nat → Bool} (h : RGr H vn rs n N s) (hn : n ≤ 80) (hNl : ∀ b, b < n → (N b).length ≤ 100000) (k : Nat) :
    CC Tryz.prog W 34 [.agg [vn, .ref rs 0 n n], .int .i64 k] H fun x H' => ∃ v, x = .ret v ∧ Le H H' ∧ SlF H' v (natL (befL N n k)) := by
  obtain ⟨⟨rn, cn, cs, rfl, hcn, hrn, hrow⟩, hrs, hs⟩ := h
  refine CC.of_cw hX Tryz.func34 rfl rfl (Nat.le_of_ble_eq_true rfl) ?_
  refine CW.walk hX mixed d34 rfl ?_
  simp
  intro q2 hq2
  have hle1 : Le H (H.set q2 (.cells [.ref rn 0 n cn, .ref rs 0 n n])) := Le.set_new hq2
  have m2 : (H.set q2 (.cells [.ref rn 0 n cn, .ref rs 0 n n])) q2 = some (.cells [.ref rn 0 n cn, .ref rs 0 n n]) := set_at
  generalize H.set q2 _ = B at hle1 m2 ⊢
  refine CW.walk hX mixed d34 rfl ?_
  simp
  refine CW.cut (Sx 5 fun v H' => Own B H' v 1 (ints (natL (befL N n k)))) ?_ ?_
  · refine CW.walk hX mixed d34 rfl ?_
    simp
    refine CW.block ?_
    refine CW.loop (rbI B (.ref rn 0 n cn) rs n k q2 N 0) ?_ (m := n) ⟨0, 0, .nilsl, rfl, by omega, rfl, by simp, by simp, by simp, by simp, rfl, Own.nil (Le.refl _)⟩
    rintro m ⟨e, ds⟩ K ⟨i, i6, v, rfl, hi, hi6, e1, e2, e5, e6, rfl, hown⟩
    obtain rfl : i6 = i := by omega
    dsimp only at e1 e2 e5 e6
    have m2K := hown.le _ _ m2
    by_cases hin : i6 < n
    rotate_left
    · obtain rfl : i6 = n := by omega
      refine CW.walk hX mixed d34 rfl ?_
      simp [e2, e6, m2K]
      exact ⟨v, by simp [e5], rfl, hown⟩
    refine CW.walk hX mixed d34 rfl ?_
    simp [e2, e6, m2K, hin]
    obtain ⟨w, hw, hsl⟩ := hrow i6 hin
    have hslK := (hsl.mono hle1).mono hown.le
    have hrnK := hown.le _ _ (hle1 _ _ hrn)
    have hbl := befL_len (N := N) (i := i6) (k := k)
    refine CW.cut (rbI B (.ref rn 0 n cn) rs n k q2 N 1 (n - (i6 + 1))) ?_ ?_
    · refine CW.block ?_
      refine CW.walk hX mixed d34 rfl ?_
      simp [e1, e2, e6, m2K, hrnK, hw, hin]
      refine (hasQ_f hX (k : Int) hslK (by rw [natL_len]; have := hNl i6 hin; omega)).k ?_
      rintro x H3 ⟨rfl, rfl⟩
      have hdec : decide ((k : Int) ∈ natL (N i6)) = decide (k ∈ N i6) := by rw [decide_eq_decide]; exact natL_mem
      rw [hdec]
      by_cases hkN : k ∈ N i6
      · simp [hkN]
        refine CW.walk1 hX mixed d34 rfl ?_
        simp [e5, e6, cfill, -vcAppend]
        intro qx hqx
        refine (hown.more hqx).append2 (ys := [[.int .i64 (i6 : Int)]]) (by simp) (by simp [ints, natL]; omega) (src_one set_at rfl) fun v' H5 how5 _ => ?_
        simp
        refine ⟨i6 + 1, i6, v', rfl, by omega, rfl, by simp [e1], by simp [e2], by simp, by simp [e6], rfl, ?_⟩
        rw [befL_succ, if_pos hkN]
        have e9 : ints (natL (befL N i6 k ++ [i6])) = ints (natL (befL N i6 k)) ++ [[.int .i64 (i6 : Int)]] := by simp [ints, natL]
        rw [e9]; exact how5
      · simp [hkN]
        refine CW.walk1 hX mixed d34 rfl ?_
        simp
        refine ⟨i6 + 1, i6, v, rfl, by omega, rfl, by simp [e1], by simp [e2], by simp [e5], by simp [e6], rfl, ?_⟩
        rw [befL_succ, if_neg hkN]
        simpa using hown
    clear e1 e2 e5 e6
    rintro ⟨e, ds⟩ K2 ⟨i, i6', v', hii, hi, hi6, e1, e2, e5, e6, rfl, hown2⟩
    dsimp only at e1 e2 e5 e6
    obtain rfl : i = i6 + 1 := by omega
    obtain rfl : i6' = i6 := by omega
    refine CW.walk1 hX mixed d34 rfl ?_
    simp [e6]
    exact ⟨n - (i6' + 1), by omega, i6' + 1, i6' + 1, v', rfl, hi, rfl, by simp [e1], by simp [e2], by simp [e5], by simp; exact wrapI (by omega) (by omega), rfl, hown2⟩
  rintro ⟨e, ds⟩ K ⟨v, e5, rfl, hown⟩
  dsimp only at e5
  refine CW.walk hX mixed d34 rfl ?_
  simp
  refine CW.walk1 hX mixed d34 rfl ?_
  simp [e5]
  exact ⟨hle1.trans hown.le, hown.slF⟩
/-- Three lists that are being built. -/
structure O3 (B H : Hp) (v : Nat → CV) (L : Nat → List Nat) : Prop where
  own : ∀ k, k < 3 → Own B H (v k) 1 (ints (natL (L k)))
  sep : ∀ i j, i < 3 → j < 3 → i ≠ j → ∀ r n c n' c', v i = .ref r 0 n c → v j ≠ .ref r 0 n' c'
theorem O3.mono {B H H' : Hp} {v : Nat → CV} {L : Nat → List Nat} (h : O3 B H v L) (hl : Le H H') : O3 B H' v L := ⟨fun k hk => (h.own k hk).mono hl, h.sep⟩
theorem O3.congr {B H : Hp} {v : Nat → CV} {L L' : Nat → List Nat} (h : O3 B H v L) (hl : ∀ k, k < 3 → L k = L' k) : O3 B H v L' := ⟨fun k hk => by rw [← hl k hk]; exact h.own k hk, h.sep⟩
theorem O3.up {B H : Hp} {v : Nat → CV} {L : Nat → List Nat} {q : Nat} {o : Ob} (h : O3 B H v L) (hq : H q = none) : O3 (B.set q o) (H.set q o) v L := by
  refine ⟨fun k hk => ?_, h.sep⟩
  obtain ⟨h1, h2, h3⟩ := h.own k hk
  refine ⟨Le.set h1, h2, ?_⟩
  rcases h3 with h3 | ⟨r, c, ex, e, h4, h5, h6⟩
  · exact .inl h3
  · have hne : r ≠ q := fun e => by subst e; rw [hq] at h5; cases h5
    exact .inr ⟨r, c, ex, e, by rw [hset_ne hne]; exact h4, by rw [hset_ne hne]; exact h5, h6⟩
theorem O3.down {B B9 H : Hp} {v : Nat → CV} {L : Nat → List Nat} (h : O3 B9 H v L) (hl : Le B B9) : O3 B H v L := by
  refine ⟨fun k hk => ?_, h.sep⟩
  obtain ⟨h1, h2, h3⟩ := h.own k hk
  refine ⟨hl.trans h1, h2, ?_⟩
  rcases h3 with h3 | ⟨r, c, ex, e, h4, h5⟩
  · exact .inl h3
  · exact .inr ⟨r, c, ex, e, hl.none h4, h5⟩
theorem O3.put {B H H5 : Hp} {k x : Nat} {v : Nat → CV} {L : Nat → List Nat} {v' : CV} (h : O3 B H v L) (hk : k < 3) (how : Own B H5 v' 1 (ints (natL (L k ++ [x])))) (kp : ∀ q o, H q = some o → (∀ n c, v k ≠ .ref q 0 n c) → H5 q = some o ∧ ∀ n c, v' ≠ .ref q 0 n c) :
    O3 B H5 (fun j => if j = k then v' else v j) (fun j => if j = k then L k ++ [x] else L j) := by
  have ho : ∀ j, j < 3 → j ≠ k → Own B H5 (v j) 1 (ints (natL (L j))) ∧ ∀ r n c n' c', v j = .ref r 0 n c → v' ≠ .ref r 0 n' c' := fun j hj hjk => Own.kept (h.own j hj) how.1 (fun r n c n' c' e => h.sep j k hj hk hjk r n c n' c' e) kp
  refine ⟨fun j hj => ?_, fun i j hi hj hij r n c n' c' e => ?_⟩
  · by_cases hjk : j = k
    · rw [if_pos hjk, if_pos hjk]; exact how
    · rw [if_neg hjk, if_neg hjk]; exact (ho j hj hjk).1
  · by_cases hik : i = k
    · rw [if_pos hik] at e
      rw [if_neg (by omega)]
      intro e2
      exact (ho j hj (by omega)).2 r n' c' n c e2 e
    · rw [if_neg hik] at e
      by_cases hjk : j = k
      · rw [if_pos hjk]
        exact (ho i hi hik).2 r n c n' c' e
      · rw [if_neg hjk]
        exact h.sep i j hi hj hij r n c n' c' e
/-- The lists while a block is looked at: those of the kinds below k know it. -/
def entK (u : UUnit) (p : Nat → Bool) (b : Int) (i k j : Nat) : List Nat := if j < k then entL u p b j (i + 1) else entL u p b j i
theorem O3.stepF {B H : Hp} {v : Nat → CV} {u : UUnit} {p : Nat → Bool} {b : Int} {i k : Nat} (h : O3 B H v (entK u p b i k)) (hf : entT u p b k i = false) : O3 B H v (entK u p b i (k + 1)) := h.congr fun j hj => by
  simp only [entK]
  by_cases hj1 : j < k
  · rw [if_pos hj1, if_pos (by omega)]
  · by_cases hj2 : j = k
    · subst hj2; rw [if_neg (Nat.lt_irrefl _), if_pos (Nat.lt_succ_self _), entL_succ, if_neg (by simp [hf])]; simp
    · rw [if_neg hj1, if_neg (by omega)]
theorem O3.stepT {B H H5 : Hp} {v : Nat → CV} {u : UUnit} {p : Nat → Bool} {b : Int} {i k : Nat} {v' : CV} (h : O3 B H v (entK u p b i k)) (hk : k < 3) (hf : entT u p b k i = true) (how : Own B H5 v' 1 (ints (natL (entL u p b k i)) ++ [[.int .i64 (i : Int)]])) (kp : ∀ q o, H q = some o → (∀ n c, v k ≠ .ref q 0 n c) → H5 q = some o ∧ ∀ n c, v' ≠ .ref q 0 n c) : O3 B H5 (fun j => if j = k then v' else v j) (entK u p b i (k + 1)) := by
  have e9 : ints (natL (entK u p b i k k ++ [i])) = ints (natL (entL u p b k i)) ++ [[.int .i64 (i : Int)]] := by simp [entK, ints, natL]
  refine (h.put (x := i) hk (by rw [e9]; exact how) kp).congr fun j hj => ?_
  simp only [entK]
  by_cases hj2 : j = k
  · subst hj2; rw [if_pos rfl, if_neg (Nat.lt_irrefl _), if_pos (Nat.lt_succ_self _), entL_succ, if_pos hf]
  · rw [if_neg hj2]
    by_cases hj1 : j < k
    · rw [if_pos hj1, if_pos (by omega)]
    · rw [if_neg hj1, if_neg (by omega)]
structure reI (B : Hp) (u : UUnit) (p : Nat → Bool) (b q2 : Nat) (vt : CV) (d m : Nat) (s' : CA) (H' : Hp) : Prop where
  ex : ∃ (i i11 : Nat) (v : Nat → CV), m = u.blocks.length - i ∧ i ≤ u.blocks.length ∧ i11 + d = i ∧ s'.env 1 = .int .i64 b ∧ s'.env 2 = .ptr q2 0 ∧ s'.env 7 = vt ∧ s'.env 8 = v 0 ∧ s'.env 9 = v 1 ∧ s'.env 10 = v 2 ∧ s'.env 11 = .int .i64 i11 ∧ s'.ds = [] ∧ O3 B H' v (fun k => entL u p b k i)
structure reX (B : Hp) (u : UUnit) (p : Nat → Bool) (b : Nat) (s' : CA) (H' : Hp) : Prop where
  ex : ∃ v : Nat → CV, s'.env 8 = v 0 ∧ s'.env 9 = v 1 ∧ s'.env 10 = v 2 ∧ s'.ds = [] ∧ O3 B H' v (fun k => entL u p b k u.blocks.length)
/-- Within a round: kinds below k are done. -/
structure reM (B : Hp) (u : UUnit) (p : Nat → Bool) (b q2 q12 i k : Nat) (vt : CV) (s' : CA) (H' : Hp) : Prop where
  ex : ∃ v : Nat → CV, s'.env 1 = .int .i64 b ∧ s'.env 2 = .ptr q2 0 ∧ s'.env 7 = vt ∧ s'.env 8 = v 0 ∧ s'.env 9 = v 1 ∧ s'.env 10 = v 2 ∧ s'.env 11 = .int .i64 i ∧ s'.env 12 = .ptr q12 0 ∧ s'.ds = [] ∧ O3 B H' v (entK u p b i k)
structure reL (u : UUnit) (x : UBlk) (b q2 q12 i : Nat) (vt : CV) (v : Nat → CV) (HK : Hp) (d m : Nat) (s' : CA) (H' : Hp) : Prop where
  ex : ∃ (k k14 : Nat), m = x.ops.length - k ∧ k ≤ x.ops.length ∧ k14 + d = k ∧ s'.env 1 = .int .i64 b ∧ s'.env 2 = .ptr q2 0 ∧ s'.env 7 = vt ∧ s'.env 8 = v 0 ∧ s'.env 9 = v 1 ∧ s'.env 10 = v 2 ∧ s'.env 11 = .int .i64 i ∧ s'.env 12 = .ptr q12 0 ∧ s'.env 13 = .bool ((x.ops.take k).any fun o => decide (o.kind = 21) && decide (o.n = (b : Int))) ∧ s'.env 14 = .int .i64 k14 ∧ s'.ds = [] ∧ H' = HK
structure reN (B : Hp) (u : UUnit) (p : Nat → Bool) (b q2 q12 i : Nat) (vt : CV) (t : Bool) (s' : CA) (H' : Hp) : Prop where
  ex : ∃ v : Nat → CV, s'.env 1 = .int .i64 b ∧ s'.env 2 = .ptr q2 0 ∧ s'.env 7 = vt ∧ s'.env 8 = v 0 ∧ s'.env 9 = v 1 ∧ s'.env 10 = v 2 ∧ s'.env 11 = .int .i64 i ∧ s'.env 12 = .ptr q12 0 ∧ s'.env 13 = .bool t ∧ s'.ds = [] ∧ O3 B H' v (entK u p b i 1)
theorem goesL_mem {e : UEnd} {b : Int} : b ∈ goesL e ↔ ((e.kind = 1 ∨ e.kind = 2) ∧ e.to = b) ∨ (e.kind = 2 ∧ e.els = b) := by
  simp only [goesL]
  by_cases h1 : e.kind = 1
  · have h2 : ¬ e.kind = 2 := by omega
    simp [h1]
    exact ⟨fun h => h.symm, fun h => h.symm⟩
  · by_cases h2 : e.kind = 2
    · simp [h1, h2]
      exact ⟨fun h => h.imp Eq.symm Eq.symm, fun h => h.imp Eq.symm Eq.symm⟩
    · simp [h1, h2]
theorem exitsL_any {x : UBlk} {b : Int} : (x.ops.any fun o => decide (o.kind = 21) && decide (o.n = b)) = decide (b ∈ exitsL x) := by
  rw [Bool.eq_iff_iff, decide_eq_true_eq, exitsL, List.any_eq_true]
  constructor
  · rintro ⟨o, h1, h2⟩
    rw [Bool.and_eq_true, decide_eq_true_eq, decide_eq_true_eq] at h2
    exact List.mem_map.2 ⟨o, List.mem_filter.2 ⟨h1, by simp [h2.1]⟩, h2.2⟩
  · intro h
    obtain ⟨o, h1, h2⟩ := List.mem_map.1 h
    obtain ⟨h3, h4⟩ := List.mem_filter.1 h1
    exact ⟨o, h3, by rw [Bool.and_eq_true, decide_eq_true_eq, decide_eq_true_eq]; exact ⟨by simpa using h4, h2⟩⟩
theorem caughtL_mem {p : Nat → Bool} {x : UBlk} {b : Nat} : (b : Int) ∈ caughtL p x ↔ mayAny p x = true ∧ x.catch_ = b := by
  simp only [caughtL]
  split
  · rename_i h
    simp [h.2]
    exact ⟨fun h => h.symm, fun h => h.symm⟩
  · rename_i h
    simp
    intro h1 h2
    exact h ⟨by omega, h1⟩
theorem refEntries_c (hX : CxOk (cx W G)) {u : UUnit} (hu : wfU u = true) {k : Nat} (hk : k < u.blocks.length) (H : Hp) : CC Tryz.prog W 32 [.agg (unitC u), .int .i64 k] H fun x H' => ∃ v0 v1 v2 p c, x = .ret (.tuple [v0, v1, v2]) ∧ PLeast (opsOf u) p c ∧ SlF H' v0 (natL (entL u p k 0 u.blocks.length)) ∧ SlF H' v1 (natL (entL u p k 1 u.blocks.length)) ∧ SlF H' v2 (natL (entL u p k 2 u.blocks.length)) := by
  obtain ⟨f1, f2, f3, f4, f5, f6, f7, f8, f9, f10, f11⟩ := wfU_facts hu
  refine CC.of_cw hX Tryz.func32 rfl rfl (Nat.le_of_ble_eq_true rfl) ?_
  refine CW.walk hX mixed d32 rfl ?_
  simp
  intro q2 hq2
  have ht := throws39_c hX u hu (H.set q2 (.cells (unitC u)))
  have m2 : (H.set q2 (.cells (unitC u))) q2 = some (.cells (unitC u)) := set_at
  generalize H.set q2 _ = H1 at ht m2 ⊢
  simp only [unitC] at ht m2
  refine CW.walk hX mixed d32 rfl ?_
  simp [m2]
  refine ht.k ?_
  rintro x B ⟨vt, p, c, H0, rfl, hle0, hpl, hown⟩
  have hr0 := hown.isRef (fun h0 => by have := congrArg List.length h0; simp [thrL] at this; rw [this] at f7; simp at f7)
  obtain ⟨rt, ct, hvt⟩ := hr0
  have htl : (thrL p u.blocks).length = u.blocks.length := by simp [thrL]
  rw [htl] at hvt
  obtain ⟨cst, hrt, hth⟩ : ∃ cs, B rt = some (.cells cs) ∧ ∀ (i : Nat) x, u.blocks[i]? = some x → cs[i]? = some (.bool (mayAny p x)) := by
    obtain ⟨_, hz, hcs⟩ := hown
    rcases hcs with ⟨h, _⟩ | ⟨r, c', ex, h, _, hrt, _, _⟩
    · rw [hvt] at h; cases h
    · rw [hvt] at h
      injection h with h
      subst h
      exact ⟨_, hrt, fun i x hx => one_get hz (by simp only [thrL, List.getElem?_map, hx]; rfl)⟩
  have b2 := hown.le _ _ (hle0 _ _ m2)
  subst hvt
  simp
  refine CW.walk hX mixed d32 rfl ?_
  simp
  have hO0 : O3 B B (fun _ => .nilsl) (fun k' => entL u p k k' 0) := ⟨fun j hj => Own.nil (Le.refl _), fun i j hi hj hij r n c n' c' e => by cases e⟩
  refine CW.cut (reX B u p k) ?_ ?_
  · refine CW.walk hX mixed d32 rfl ?_
    simp
    refine CW.block ?_
    refine CW.loop (reI B u p k q2 (.ref rt 0 u.blocks.length ct) 0) ?_ (m := u.blocks.length) ⟨0, 0, fun _ => .nilsl, rfl, by omega, rfl, by simp, by simp, by simp, by simp, by simp, by simp, by simp, rfl, hO0⟩
    rintro m ⟨e, ds⟩ H5 ⟨i, i11, v, rfl, hi, hi11, e1, e2, e7, e8, e9, e10, e11, rfl, hO⟩
    obtain rfl : i11 = i := by omega
    dsimp only at e1 e2 e7 e8 e9 e10 e11
    have hB5 := (hO.own 0 (by omega)).1
    have m25 := hB5 _ _ b2
    by_cases hin : i11 < u.blocks.length
    rotate_left
    · obtain rfl : i11 = u.blocks.length := by omega
      refine CW.walk hX mixed d32 rfl ?_
      simp [e2, e11, m25]
      exact ⟨v, by simp [e8], by simp [e9], by simp [e10], rfl, hO⟩
    obtain ⟨x, hx⟩ : ∃ x, u.blocks[i11]? = some x := ⟨_, List.getElem?_eq_getElem hin⟩
    have hxe : u.blocks[i11] = x := by rw [List.getElem?_eq_getElem hin] at hx; injection hx
    have hent : ∀ j, entT u p k j i11 = decide ((k : Int) ∈ kindL p j x) := fun j => by simp [entT, hx]
    have hln : ∀ j, (entL u p k j i11).length ≤ 2000 := fun j => by have := entL_len (u := u) (p := p) (b := (k : Int)) (k := j) (m := i11); omega
    refine CW.walk hX mixed d32 rfl ?_
    simp [e2, e11, m25, hin]
    refine CW.cut (reI B u p k q2 (.ref rt 0 u.blocks.length ct) 1 (u.blocks.length - (i11 + 1))) ?_ ?_
    · refine CW.block ?_
      refine CW.walk hX mixed d32 rfl ?_
      simp [e2, e11, m25, hin, hxe, blkC]
      intro q12 hq12
      have hq12B : B q12 = none := hB5.none hq12
      have hO6 : O3 (B.set q12 (.cells (blkC x))) (H5.set q12 (.cells (blkC x))) v (entK u p k i11 0) := (hO.up hq12).congr fun j hj => by simp [entK]
      have hlB : Le B (B.set q12 (.cells (blkC x))) := Le.set_new hq12B
      have bq : (B.set q12 (.cells (blkC x))) q12 = some (.cells (blkC x)) := set_at
      simp only [blkC, blkT] at hO6 hlB bq
      generalize B.set q12 _ = B2 at hO6 hlB bq
      generalize H5.set q12 _ = H6 at hO6 ⊢
      have m12 := (hO6.own 0 (by omega)).1 _ _ bq
      have b2B := hlB _ _ hrt
      refine CW.cut (reM B2 u p k q2 q12 i11 1 (.ref rt 0 u.blocks.length ct)) ?_ ?_
      · have finF : ∀ en : Env, entT u p k 0 i11 = false → en 1 = .int .i64 k → en 2 = .ptr q2 0 → en 7 = .ref rt 0 u.blocks.length ct → en 8 = v 0 → en 9 = v 1 → en 10 = v 2 → en 11 = .int .i64 i11 → en 12 = .ptr q12 0 → reM B2 u p k q2 q12 i11 1 (.ref rt 0 u.blocks.length ct) ⟨en, []⟩ H6 := fun en hf g1 g2 g7 g8 g9 g10 g11 g12 => ⟨v, g1, g2, g7, g8, g9, g10, g11, g12, rfl, hO6.stepF hf⟩
        have hown := hO6.own 0 (by omega)
        have hl0 := hln 0
        simp only [entK, Nat.lt_irrefl, if_false] at hown
        have h0 := hent 0
        have hg : decide ((k : Int) ∈ kindL p 0 x) = decide (((x.en.kind = 1 ∨ x.en.kind = 2) ∧ x.en.to = k) ∨ (x.en.kind = 2 ∧ x.en.els = k)) := by rw [decide_eq_decide]; exact goesL_mem
        rw [hg] at h0
        refine CW.walk hX mixed d32 rfl ?_
        simp [m12]
        refine (endTo_c hX x.en.kind H6).k ?_
        rintro z H7 ⟨rfl, rfl⟩
        by_cases hk12 : x.en.kind = 1 ∨ x.en.kind = 2
        · have hd : (decide (x.en.kind = 1) || decide (x.en.kind = 2)) = true := by simpa using hk12
          rw [hd]
          by_cases hto : x.en.to = k
          · simp [m12, hto, e1]
            refine CW.condE hX (b := true) (by simp) (fun _ => ?_) (fun h => by cases h)
            refine CW.walk1 hX mixed d32 rfl ?_
            simp [e8, e11, cfill, -vcAppend]
            intro qx hqx
            refine (hown.more hqx).append2 (ys := [[.int .i64 (i11 : Int)]]) (by simp) (by simp [ints, natL]; omega) (src_one set_at rfl) fun v' H5 how5 kp => ?_
            simp
            exact ⟨_, by simp [e1], by simp [e2], by simp [e7], by simp, by simp [e9], by simp [e10], by simp [e11], by simp, rfl, (hO6.mono (Le.set_new hqx)).stepT (by omega) (by rw [h0, decide_eq_true_eq]; omega) how5 kp⟩
          · simp [m12, hto, e1]
            refine (endElse_c hX x.en.kind H7).k ?_
            rintro z H8 ⟨rfl, rfl⟩
            by_cases h2 : x.en.kind = 2
            · by_cases hel : x.en.els = k
              · simp [h2, m12, hel, e1]
                refine CW.condE hX (b := true) (by simp) (fun _ => ?_) (fun h => by cases h)
                refine CW.walk1 hX mixed d32 rfl ?_
                simp [e8, e11, cfill, -vcAppend]
                intro qx hqx
                refine (hown.more hqx).append2 (ys := [[.int .i64 (i11 : Int)]]) (by simp) (by simp [ints, natL]; omega) (src_one set_at rfl) fun v' H5 how5 kp => ?_
                simp
                exact ⟨_, by simp [e1], by simp [e2], by simp [e7], by simp, by simp [e9], by simp [e10], by simp [e11], by simp, rfl, (hO6.mono (Le.set_new hqx)).stepT (by omega) (by rw [h0, decide_eq_true_eq]; omega) how5 kp⟩
              · simp [h2, m12, hel, e1]
                refine CW.condE hX (b := false) (by simp [hel]) (fun h => by cases h) (fun _ => ?_)
                refine CW.walk1 hX mixed d32 rfl ?_
                simp
                exact finF _ (by rw [h0, decide_eq_false_iff_not]; omega) (by simp [e1]) (by simp [e2]) (by simp [e7]) (by simp [e8]) (by simp [e9]) (by simp [e10]) (by simp [e11]) (by simp)
            · simp [h2]
              refine CW.condE hX (b := false) (by simp) (fun h => by cases h) (fun _ => ?_)
              refine CW.walk1 hX mixed d32 rfl ?_
              simp
              exact finF _ (by rw [h0, decide_eq_false_iff_not]; omega) (by simp [e1]) (by simp [e2]) (by simp [e7]) (by simp [e8]) (by simp [e9]) (by simp [e10]) (by simp [e11]) (by simp)
        · have hd : (decide (x.en.kind = 1) || decide (x.en.kind = 2)) = false := by simpa using hk12
          rw [hd]
          simp [m12]
          refine (endElse_c hX x.en.kind H7).k ?_
          rintro z H8 ⟨rfl, rfl⟩
          have h2 : ¬ x.en.kind = 2 := fun e => hk12 (.inr e)
          simp [h2]
          refine CW.condE hX (b := false) (by simp) (fun h => by cases h) (fun _ => ?_)
          refine CW.walk1 hX mixed d32 rfl ?_
          simp
          exact finF _ (by rw [h0, decide_eq_false_iff_not]; omega) (by simp [e1]) (by simp [e2]) (by simp [e7]) (by simp [e8]) (by simp [e9]) (by simp [e10]) (by simp [e11]) (by simp)
      clear e1 e2 e7 e8 e9 e10 e11
      clear hO6 hO v
      rintro ⟨e, ds⟩ H7 ⟨v, e1, e2, e7, e8, e9, e10, e11, e12, rfl, hO⟩
      dsimp only at e1 e2 e7 e8 e9 e10 e11 e12
      have m127 : H7 q12 = some (.cells [.sl 7 (x.ops.map opC), ci x.en.kind, ci x.en.a, ci x.en.to, ci x.en.els, ci x.catch_]) := (hO.own 0 (by omega)).1 _ _ bq
      have hops := (wfB_facts hu hx).2.1
      refine CW.walk hX mixed d32 rfl ?_
      simp
      refine CW.cut (reN B2 u p k q2 q12 i11 (.ref rt 0 u.blocks.length ct) (decide ((k : Int) ∈ exitsL x))) ?_ ?_
      · refine CW.walk hX mixed d32 rfl ?_
        simp
        refine CW.block ?_
        refine CW.loop (reL u x k q2 q12 i11 (.ref rt 0 u.blocks.length ct) v H7 0) ?_ (m := x.ops.length) ⟨0, 0, rfl, by omega, rfl, by simp [e1], by simp [e2], by simp [e7], by simp [e8], by simp [e9], by simp [e10], by simp [e11], by simp [e12], by simp, by simp, rfl, rfl⟩
        clear e1 e2 e7 e8 e9 e10 e11 e12
        rintro m ⟨e, ds⟩ H8 ⟨j, j14, rfl, hj, hj14, e1, e2, e7, e8, e9, e10, e11, e12, e13, e14, rfl, rfl⟩
        obtain rfl : j14 = j := by omega
        dsimp only at e1 e2 e7 e8 e9 e10 e11 e12 e13 e14
        by_cases hjl : j14 < x.ops.length
        rotate_left
        · rw [List.take_of_length_le (by omega), exitsL_any] at e13
          obtain rfl : j14 = x.ops.length := by omega
          refine CW.walk hX mixed d32 rfl ?_
          simp [e12, e14, m127]
          exact ⟨v, by simp [e1], by simp [e2], by simp [e7], by simp [e8], by simp [e9], by simp [e10], by simp [e11], by simp [e12], by simp [e13], rfl, hO⟩
        obtain ⟨o, ho⟩ : ∃ o, x.ops[j14]? = some o := ⟨_, List.getElem?_eq_getElem hjl⟩
        have hoe : x.ops[j14] = o := by rw [List.getElem?_eq_getElem hjl] at ho; injection ho
        have htk : x.ops.take (j14 + 1) = x.ops.take j14 ++ [o] := by rw [List.take_succ_eq_append_getElem hjl, hoe]
        refine CW.walk hX mixed d32 rfl ?_
        simp [e12, e14, m127, hjl]
        refine CW.cut (reL u x k q2 q12 i11 (.ref rt 0 u.blocks.length ct) v H8 1 (x.ops.length - (j14 + 1))) ?_ ?_
        · have hany : ((x.ops.take (j14 + 1)).any fun o => decide (o.kind = 21) && decide (o.n = (k : Int))) = (((x.ops.take j14).any fun o => decide (o.kind = 21) && decide (o.n = (k : Int))) || (decide (o.kind = 21) && decide (o.n = (k : Int)))) := by rw [htk, List.any_append]; simp
          generalize hal : ((x.ops.take j14).any fun o => decide (o.kind = 21) && decide (o.n = (k : Int))) = al at e13 hany
          have fin : ∀ (en : Env) (t : Bool), t = (al || (decide (o.kind = 21) && decide (o.n = (k : Int)))) → en 1 = .int .i64 k → en 2 = .ptr q2 0 → en 7 = .ref rt 0 u.blocks.length ct → en 8 = v 0 → en 9 = v 1 → en 10 = v 2 → en 11 = .int .i64 i11 → en 12 = .ptr q12 0 → en 13 = .bool t → en 14 = .int .i64 j14 → reL u x k q2 q12 i11 (.ref rt 0 u.blocks.length ct) v H8 1 (x.ops.length - (j14 + 1)) ⟨en, []⟩ H8 := fun en t ht g1 g2 g7 g8 g9 g10 g11 g12 g13 g14 => ⟨j14 + 1, j14, rfl, by omega, rfl, g1, g2, g7, g8, g9, g10, g11, g12, by rw [hany, ← ht]; exact g13, g14, rfl, rfl⟩
          refine CW.block ?_
          refine CW.walk1 hX mixed d32 rfl ?_
          cases al with
          | true =>
            simp [d32, e13]
            exact fin _ true (by simp) (by simp [e1]) (by simp [e2]) (by simp [e7]) (by simp [e8]) (by simp [e9]) (by simp [e10]) (by simp [e11]) (by simp [e12]) (by simp) (by simp [e14])
          | false =>
            by_cases h21 : o.kind = 21
            · by_cases hnk : o.n = k
              · simp [d32, e1, e12, e13, e14, m127, hjl, hoe, opC, h21, hnk]
                exact fin _ true (by simp [h21, hnk]) (by simp [e1]) (by simp [e2]) (by simp [e7]) (by simp [e8]) (by simp [e9]) (by simp [e10]) (by simp [e11]) (by simp [e12]) (by simp) (by simp [e14])
              · simp [d32, e1, e12, e13, e14, m127, hjl, hoe, opC, h21, hnk]
                exact fin _ false (by simp [h21, hnk]) (by simp [e1]) (by simp [e2]) (by simp [e7]) (by simp [e8]) (by simp [e9]) (by simp [e10]) (by simp [e11]) (by simp [e12]) (by simp [hnk]) (by simp [e14])
            · simp [d32, e1, e12, e13, e14, m127, hjl, hoe, opC, h21]
              exact fin _ false (by simp [h21]) (by simp [e1]) (by simp [e2]) (by simp [e7]) (by simp [e8]) (by simp [e9]) (by simp [e10]) (by simp [e11]) (by simp [e12]) (by simp) (by simp [e14])
        clear e1 e2 e7 e8 e9 e10 e11 e12 e13 e14
        rintro ⟨e, ds⟩ H9 ⟨j, j14', hjj, hj, hj14, e1, e2, e7, e8, e9, e10, e11, e12, e13, e14, rfl, rfl⟩
        dsimp only at e1 e2 e7 e8 e9 e10 e11 e12 e13 e14
        obtain rfl : j = j14 + 1 := by omega
        obtain rfl : j14' = j14 := by omega
        refine CW.walk1 hX mixed d32 rfl ?_
        simp [e14]
        exact ⟨x.ops.length - (j14' + 1), by omega, j14' + 1, j14' + 1, rfl, hj, rfl, by simp [e1], by simp [e2], by simp [e7], by simp [e8], by simp [e9], by simp [e10], by simp [e11], by simp [e12], by simp [e13], by simp; exact wrapI (by omega) (by omega), rfl, rfl⟩
      clear e1 e2 e7 e8 e9 e10 e11 e12
      clear hO m127 v
      rintro ⟨e, ds⟩ H8 ⟨v, e1, e2, e7, e8, e9, e10, e11, e12, e13, rfl, hO⟩
      dsimp only at e1 e2 e7 e8 e9 e10 e11 e12 e13
      have h1 := hent 1
      have h1' : entT u p k 1 i11 = decide ((k : Int) ∈ exitsL x) := h1
      refine CW.cut (reM B2 u p k q2 q12 i11 2 (.ref rt 0 u.blocks.length ct)) ?_ ?_
      · have hown := hO.own 1 (by omega)
        have hl1 := hln 1
        simp only [entK, Nat.lt_irrefl, if_false] at hown
        rw [← h1'] at e13
        cases ht : entT u p k 1 i11 with
        | false =>
          rw [ht] at e13
          refine CW.walk hX mixed d32 rfl ?_
          simp [e13]
          refine CW.condE hX (b := false) (by simp) (fun h => by cases h) (fun _ => ?_)
          refine CW.walk1 hX mixed d32 rfl ?_
          simp
          exact ⟨v, by simp [e1], by simp [e2], by simp [e7], by simp [e8], by simp [e9], by simp [e10], by simp [e11], by simp [e12], rfl, hO.stepF ht⟩
        | true =>
          rw [ht] at e13
          refine CW.walk hX mixed d32 rfl ?_
          simp [e13]
          refine CW.condE hX (b := true) (by simp) (fun _ => ?_) (fun h => by cases h)
          refine CW.walk1 hX mixed d32 rfl ?_
          simp [e9, e11, cfill, -vcAppend]
          intro qx hqx
          refine (hown.more hqx).append2 (ys := [[.int .i64 (i11 : Int)]]) (by simp) (by simp [ints, natL]; omega) (src_one set_at rfl) fun v' H5 how5 kp => ?_
          simp
          exact ⟨_, by simp [e1], by simp [e2], by simp [e7], by simp [e8], by simp, by simp [e10], by simp [e11], by simp [e12], rfl, (hO.mono (Le.set_new hqx)).stepT (by omega) ht how5 kp⟩
      clear e1 e2 e7 e8 e9 e10 e11 e12 e13
      clear hO v
      rintro ⟨e, ds⟩ H9 ⟨v, e1, e2, e7, e8, e9, e10, e11, e12, rfl, hO⟩
      dsimp only at e1 e2 e7 e8 e9 e10 e11 e12
      have h2 : entT u p k 2 i11 = decide (mayAny p x = true ∧ x.catch_ = k) := by rw [hent 2, decide_eq_decide]; exact caughtL_mem
      have hBH := (hO.own 0 (by omega)).1
      have hown := hO.own 2 (by omega)
      have hl2 := hln 2
      simp only [entK, Nat.lt_irrefl, if_false] at hown
      have n12 := hBH _ _ bq
      have nrt := hBH _ _ b2B
      have nth := hth i11 x hx
      have hend : ∀ (en : Env) (v : Nat → CV) (H : Hp), O3 B2 H v (entK u p k i11 3) → en 1 = .int .i64 k → en 2 = .ptr q2 0 → en 7 = .ref rt 0 u.blocks.length ct → en 8 = v 0 → en 9 = v 1 → en 10 = v 2 → en 11 = .int .i64 i11 → reI B u p k q2 (.ref rt 0 u.blocks.length ct) 1 (u.blocks.length - (i11 + 1)) ⟨en, []⟩ H := fun en v H h g1 g2 g7 g8 g9 g10 g11 => ⟨i11 + 1, i11, v, rfl, by omega, rfl, g1, g2, g7, g8, g9, g10, g11, rfl, (h.down hlB).congr fun j hj => by simp only [entK]; rw [if_pos hj]⟩
      refine CW.walk hX mixed d32 rfl ?_
      cases hm : mayAny p x with
      | false =>
        rw [hm] at nth h2
        simp [d32, e7, e11, nrt, nth, hin]
        refine CW.condE hX (b := false) (by simp) (fun h => by cases h) (fun _ => ?_)
        refine CW.walk1 hX mixed d32 rfl ?_
        simp
        exact hend _ v _ (hO.stepF (by rw [h2]; simp)) (by simp [e1]) (by simp [e2]) (by simp [e7]) (by simp [e8]) (by simp [e9]) (by simp [e10]) (by simp [e11])
      | true =>
        rw [hm] at nth h2
        by_cases hck : x.catch_ = k
        · simp [d32, e1, e7, e11, e12, nrt, nth, hin, n12, hck]
          refine CW.condE hX (b := true) (by simp) (fun _ => ?_) (fun h => by cases h)
          refine CW.walk1 hX mixed d32 rfl ?_
          simp [e10, e11, cfill, -vcAppend]
          intro qx hqx
          refine (hown.more hqx).append2 (ys := [[.int .i64 (i11 : Int)]]) (by simp) (by simp [ints, natL]; omega) (src_one set_at rfl) fun v' H5 how5 kp => ?_
          simp
          exact hend _ _ _ ((hO.mono (Le.set_new hqx)).stepT (by omega) (by rw [h2]; simp [hck]) how5 kp) (by simp [e1]) (by simp [e2]) (by simp [e7]) (by simp [e8]) (by simp [e9]) (by simp) (by simp [e11])
        · simp [d32, e1, e7, e11, e12, nrt, nth, hin, n12, hck]
          refine CW.condE hX (b := false) (by simp [hck]) (fun h => by cases h) (fun _ => ?_)
          refine CW.walk1 hX mixed d32 rfl ?_
          simp
          exact hend _ v _ (hO.stepF (by rw [h2]; simp [hck])) (by simp [e1]) (by simp [e2]) (by simp [e7]) (by simp [e8]) (by simp [e9]) (by simp [e10]) (by simp [e11])
    clear e1 e2 e7 e8 e9 e10 e11
    rintro ⟨e, ds⟩ H6 ⟨i, i11', v', hii, hi, hi11, e1, e2, e7, e8, e9, e10, e11, rfl, hO2⟩
    dsimp only at e1 e2 e7 e8 e9 e10 e11
    obtain rfl : i = i11 + 1 := by omega
    obtain rfl : i11' = i11 := by omega
    refine CW.walk1 hX mixed d32 rfl ?_
    simp [e11]
    exact ⟨u.blocks.length - (i11' + 1), by omega, i11' + 1, i11' + 1, v', rfl, hi, rfl, by simp [e1], by simp [e2], by simp [e7], by simp [e8], by simp [e9], by simp [e10], by simp; exact wrapI (by omega) (by omega), rfl, hO2⟩
  rintro ⟨e, ds⟩ H5 ⟨v, e8, e9, e10, rfl, hO⟩
  dsimp only at e8 e9 e10
  refine CW.walk hX mixed d32 rfl ?_
  simp
  refine CW.walk1 hX mixed d32 rfl ?_
  simp [e8, e9, e10]
  exact ⟨_, _, _, ⟨rfl, rfl, rfl⟩, p, ⟨c, hpl⟩, Own.slF (hO.own 0 (by omega)), Own.slF (hO.own 1 (by omega)), Own.slF (hO.own 2 (by omega))⟩
theorem tup3_free {a b c : CV} (h1 : Free a) (h2 : Free b) (h3 : Free c) : FreeEnd (.ret (.tuple [a, b, c])) := by
  simp only [FreeEnd]
  refine .tuple _ fun i x hx => ?_
  rcases i with _|_|_|i
  · simp at hx; subst hx; exact h1
  · simp at hx; subst hx; exact h2
  · simp at hx; subst hx; exact h3
  · simp at hx
theorem tup4_free {a b c : CV} {n : Int} (h1 : Free a) (h2 : Free b) (h3 : Free c) : FreeEnd (.ret (.tuple [a, b, c, ci n])) := by
  simp only [FreeEnd]
  refine .tuple _ fun i x hx => ?_
  rcases i with _|_|_|_|i
  · simp at hx; subst hx; exact h1
  · simp at hx; subst hx; exact h2
  · simp at hx; subst hx; exact h3
  · simp at hx; subst hx; constructor
  · simp at hx
theorem refEntries_f (hX : CxOk (cx W G)) {u : UUnit} (hu : wfU u = true) {k : Nat} (hk : k < u.blocks.length) {H : Hp} {cs : List CV} (hf : Fz H (.agg cs) (.agg (unitC u))) : CC Tryz.prog W 32 [.agg cs, .int .i64 k] H fun x H' => ∃ v0 v1 v2 p c, x = .ret (.tuple [v0, v1, v2]) ∧ PLeast (opsOf u) p c ∧ Le H H' ∧ SlF H' v0 (natL (entL u p k 0 u.blocks.length)) ∧ SlF H' v1 (natL (entL u p k 1 u.blocks.length)) ∧ SlF H' v2 (natL (entL u p k 2 u.blocks.length)) := by
  refine (CC.freeze3 (args' := [.agg (unitC u), .int .i64 k]) (R := fun x H' => ∃ v0 v1 v2 p c, x = .ret (.tuple [v0, v1, v2]) ∧ PLeast (opsOf u) p c ∧ SlF H' v0 (natL (entL u p k 0 u.blocks.length)) ∧ SlF H' v1 (natL (entL u p k 1 u.blocks.length)) ∧ SlF H' v2 (natL (entL u p k 2 u.blocks.length))) (by rfl) (fz2' hf _) (by rintro x H' ⟨v0, v1, v2, p, c, rfl, _, h0, h1, h2⟩; exact tup3_free h0.free h1.free h2.free) fun w hw => ?_).mono ?_
  · exact refEntries_c (W := w) (CxOk.later hX hw) hu hk _
  · rintro x H2 ⟨H', ⟨v0, v1, v2, p, c, rfl, hp, h0, h1, h2⟩, h3, h4, _⟩
    exact ⟨v0, v1, v2, p, c, rfl, hp, h3, h0.wk.mono h4, h1.wk.mono h4, h2.wk.mono h4⟩
theorem EnA.free {u : UUnit} {b : Int} {x : CE} {H' : Hp} (h : EnA u b x H') : FreeEnd x := by
  by_cases he : errU u = 0
  · cases ho : outB u.blocks.length b with
    | true => rw [h.out he ho]; exact tup4_free .nilsl .nilsl .nilsl
    | false => obtain ⟨p, c, v0, v1, v2, _, rfl, h0, h1, h2⟩ := h.ok he ho; exact tup4_free h0.free h1.free h2.free
  · rw [h.er he]; exact tup4_free .nilsl .nilsl .nilsl
theorem EnA.wkm {u : UUnit} {b : Int} {x : CE} {H' H2 : Hp} (h : EnA u b x H') (hl : Le (wkH H') H2) : EnA u b x H2 :=
  ⟨h.er, h.out, fun he ho => by
    obtain ⟨p, c, v0, v1, v2, a1, a2, h0, h1, h2⟩ := h.ok he ho
    exact ⟨p, c, v0, v1, v2, a1, a2, h0.wk.mono hl, h1.wk.mono hl, h2.wk.mono hl⟩⟩
theorem entries_f (hX : CxOk (cx W G)) (hG : G 0 = .iptr formsC) {u : UUnit} (hu : UOk u) (b : Int) {H : Hp} {cs : List CV} (hf : Fz H (.agg cs) (.agg (unitC u))) : CC Tryz.prog W 31 [.agg cs, ci b] H fun x H' => EnA u b x H' ∧ Le H H' := by
  refine (CC.freeze3 (args' := [.agg (unitC u), ci b]) (R := EnA u b) (by rfl) (fz2' hf _) (fun x H' h => h.free) fun w hw => ?_).mono ?_
  · exact entries_c (W := w) (CxOk.later hX hw) hG u hu b _
  · rintro x H2 ⟨H', h1, h2, h3, _⟩
    exact ⟨h1.wkm h3, h2⟩
end Go.Cl.Gd
