/- DERIVED HERE. graph.Next, graph.Before; the reference's Next, Before. DERIVED HERE. graph.Entries. DERIVED HERE. The reference's Next, Before, Entries. -/
import Derived.Test.YtoophlkbngagcaaDoorHBx
import Derived.Test.YtoophlkbngagcaaDoorHC
set_option linter.unusedSimpArgs false
set_option linter.unusedVariables false
namespace Go.Cl.Gd
open Go.Proofs
variable {W : World} {G : Nat → CV}
set_option maxRecDepth 8000
set_option maxHeartbeats 1000000
/-- What graph.Next and graph.Before answer. -/
structure NxA (u : UUnit) (b : Int) (L : (Nat → Bool) → Nat → List Nat) (x : CE) (H' : Hp) : Prop where
  er : errU u ≠ 0 → x = .ret (.tuple [.nilsl, ci (errU u)])
  out : errU u = 0 → outB u.blocks.length b = true → x = .ret (.tuple [.nilsl, ci 2])
  ok : errU u = 0 → outB u.blocks.length b = false → ∃ p c v, PLeast (opsOf u) p c ∧ x = .ret (.tuple [v, ci 0]) ∧ SlF H' v (natL (L p b.toNat))
theorem NxA.free {u : UUnit} {b : Int} {L : (Nat → Bool) → Nat → List Nat} {x : CE} {H' : Hp} (h : NxA u b L x H') : FreeEnd x := by
  by_cases he : errU u = 0
  · cases ho : outB u.blocks.length b with
    | true => rw [h.out he ho]; exact tup2_free .nilsl
    | false => obtain ⟨p, c, v, _, rfl, h5⟩ := h.ok he ho; exact tup2_free h5.free
  · rw [h.er he]; exact tup2_free .nilsl
theorem NxA.wkm {u : UUnit} {b : Int} {L : (Nat → Bool) → Nat → List Nat} {x : CE} {H' H2 : Hp} (h : NxA u b L x H') (hl : Le (wkH H') H2) : NxA u b L x H2 :=
  ⟨h.er, h.out, fun he ho => by
    obtain ⟨p, c, v, a1, a4, a5⟩ := h.ok he ho
    exact ⟨p, c, v, a1, a4, a5.wk.mono hl⟩⟩
theorem next_c (hX : CxOk (cx W G)) (hG : G 0 = .iptr formsC) (u : UUnit) (hu : UOk u) (b : Int) (H : Hp) : CC Tryd.prog W 13 [.agg (unitC u), ci b] H fun x H' => NxA u b (fun p => nextN u p) x H' := by
  refine CC.of_cw hX Tryd.func13 rfl rfl (Nat.le_of_ble_eq_true rfl) ?_
  refine CW.walk hX mixed d13 rfl ?_
  simp
  intro q3 hq3
  have hat := fun (r : Nat) (H' : Hp) (h : H' r = some (.cells [ci b])) => at_c hX hG u hu (slF_of (l := [b]) h) (by simp)
  simp only [unitC] at hat
  refine CW.walk hX mixed d13 rfl ?_
  simp [unitC, cfill]
  intro r h1 h2 h3
  refine (hat r _ set_at).k ?_
  rintro x H2 hA
  by_cases he : errU u = 0
  rotate_left
  · obtain ⟨rfl, _⟩ := hA.er he
    simp
    refine CW.walk hX mixed d13 rfl ?_
    simp [he]
    exact ⟨fun _ => rfl, fun q => absurd q he, fun q => absurd q he⟩
  cases ho : outB u.blocks.length b with
  | true =>
    obtain ⟨rfl, _⟩ := hA.out he (by simpa using ho)
    simp
    refine CW.walk hX mixed d13 rfl ?_
    simp
    exact ⟨fun q => absurd he q, fun _ _ => rfl, fun _ q => by rw [ho] at q; cases q⟩
  | false =>
    obtain ⟨gp, p, c, rn, rb, ro, ri, rk, co, ns, bs, ex, I, rfl, hp, h⟩ := hA.ok he (by simpa using ho)
    obtain ⟨k, rfl, hk⟩ := outB_no.1 ho
    have mg := h.g
    have mn := h.n
    obtain ⟨w, hw, hsl⟩ := h.nn k hk
    simp
    refine CW.walk hX mixed d13 rfl ?_
    simp
    refine CW.walk1 hX mixed d13 rfl ?_
    simp [mg, mn, hk, hw]
    exact ⟨fun q => absurd he q, fun _ q => (by rw [ho] at q; cases q), fun _ _ => ⟨p, c, w, hp, rfl, hsl⟩⟩
theorem next_f (hX : CxOk (cx W G)) (hG : G 0 = .iptr formsC) {u : UUnit} (hu : UOk u) (b : Int) {H : Hp} {cs : List CV} (hf : Fz H (.agg cs) (.agg (unitC u))) : CC Tryd.prog W 13 [.agg cs, ci b] H fun x H' => NxA u b (fun p => nextN u p) x H' ∧ Le H H' := by
  refine (CC.freeze3 (args' := [.agg (unitC u), ci b]) (R := NxA u b fun p => nextN u p) (by rfl) (fz2' hf _) (fun x H' h => h.free) fun w hw => ?_).mono ?_
  · exact next_c (W := w) (CxOk.later hX hw) hG u hu b _
  · rintro x H2 ⟨H', h1, h2, h3, _⟩
    exact ⟨h1.wkm h3, h2⟩
end Go.Cl.Gd
set_option linter.unusedSimpArgs false
set_option linter.unusedVariables false
namespace Go.Cl.Gd
open Go.Proofs
variable {W : World} {G : Nat → CV}
set_option maxRecDepth 8000
set_option maxHeartbeats 1000000
structure ixI (H : Hp) (v : CV) (l : List Int) (b : Int) (d m : Nat) (s' : CA) (H' : Hp) : Prop where
  ex : ∃ k k8 : Nat, m = l.length - k ∧ k ≤ l.length ∧ k8 + d = k ∧ s'.env 0 = v ∧ s'.env 1 = ci b ∧ s'.env 7 = .int .i64 l.length ∧ s'.env 8 = .int .i64 k8 ∧ s'.ds = [] ∧ H' = H ∧ ∀ y ∈ l.take k, y ≠ b
/-- The blocks from which there is a way of a kind: by an End, by an Exit, by a trap. -/
def kindL (p : Nat → Bool) (k : Nat) (x : UBlk) : List Int := if k = 0 then goesL x.en else if k = 1 then exitsL x else caughtL p x
def entT (u : UUnit) (p : Nat → Bool) (b : Int) (k i : Nat) : Bool := match u.blocks[i]? with | some x => decide (b ∈ kindL p k x) | none => false
def entL (u : UUnit) (p : Nat → Bool) (b : Int) (k m : Nat) : List Nat := (List.range m).filter (entT u p b k)
theorem entL_succ {u : UUnit} {p : Nat → Bool} {b : Int} {k m : Nat} : entL u p b k (m + 1) = entL u p b k m ++ (if entT u p b k m = true then [m] else []) := by
  rw [entL, List.range_succ, List.filter_append]
  congr 1
  by_cases h : entT u p b k m = true
  · simp [h]
  · simp [h]
theorem entL_len {u : UUnit} {p : Nat → Bool} {b : Int} {k m : Nat} : (entL u p b k m).length ≤ m := by
  have := List.length_filter_le (entT u p b k) (List.range m)
  rwa [List.length_range] at this
theorem Own.kept {B H H5 : Hp} {v v' w : CV} {sz : Nat} {xs : List (List CV)} (h : Own B H w sz xs) (hB : Le B H5) (hs : ∀ r n c n' c', w = .ref r 0 n c → v ≠ .ref r 0 n' c') (kp : ∀ q o, H q = some o → (∀ n c, v ≠ .ref q 0 n c) → H5 q = some o ∧ ∀ n c, v' ≠ .ref q 0 n c) : Own B H5 w sz xs ∧ ∀ r n c n' c', w = .ref r 0 n c → v' ≠ .ref r 0 n' c' := by
  obtain ⟨h1, h2, h3⟩ := h
  rcases h3 with ⟨rfl, hx⟩ | ⟨r, c, ex, rfl, h4, h5, h6⟩
  · exact ⟨⟨hB, h2, .inl ⟨rfl, hx⟩⟩, fun r n c n' c' e => by cases e⟩
  · obtain ⟨k1, k2⟩ := kp r _ h5 fun n' c' => hs r _ _ n' c' rfl
    exact ⟨⟨hB, h2, .inr ⟨r, c, ex, rfl, h4, k1, h6⟩⟩, fun r' n c n' c' e => by injection e with e; subst e; exact k2 n' c'⟩
theorem Own.setQ {B H : Hp} {w : CV} {sz q : Nat} {xs : List (List CV)} {o : Ob} (h : Own B H w sz xs) (hq : B q = none) (hw : ∀ n c, w ≠ .ref q 0 n c) : Own B (H.set q o) w sz xs := by
  obtain ⟨h1, h2, h3⟩ := h
  refine ⟨h1.put hq, h2, ?_⟩
  rcases h3 with h3 | ⟨r, c, ex, rfl, h4, h5, h6⟩
  · exact .inl h3
  · refine .inr ⟨r, c, ex, rfl, h4, ?_, h6⟩
    rw [hset_ne]
    · exact h5
    · intro e; subst e; exact hw _ _ rfl
/-- Three lists that are being built, in an array's block. -/
structure E3 (B H : Hp) (q : Nat) (v : Nat → CV) (L : Nat → List Nat) : Prop where
  own : ∀ k, k < 3 → Own B H (v k) 1 (ints (natL (L k)))
  cell : H q = some (.cells [v 0, v 1, v 2])
  bq : B q = none
  nq : ∀ k, k < 3 → ∀ n c, v k ≠ .ref q 0 n c
  sep : ∀ i j, i < 3 → j < 3 → i ≠ j → ∀ r n c n' c', v i = .ref r 0 n c → v j ≠ .ref r 0 n' c'
theorem E3.mono {B H H' : Hp} {q : Nat} {v : Nat → CV} {L : Nat → List Nat} (h : E3 B H q v L) (hl : Le H H') : E3 B H' q v L := ⟨fun k hk => (h.own k hk).mono hl, hl _ _ h.cell, h.bq, h.nq, h.sep⟩
theorem E3.put {B H H5 : Hp} {q k x : Nat} {v : Nat → CV} {L : Nat → List Nat} {v' : CV} (h : E3 B H q v L) (hk : k < 3) (how : Own B H5 v' 1 (ints (natL (L k ++ [x])))) (kp : ∀ q o, H q = some o → (∀ n c, v k ≠ .ref q 0 n c) → H5 q = some o ∧ ∀ n c, v' ≠ .ref q 0 n c) :
    H5 q = some (.cells [v 0, v 1, v 2]) ∧ E3 B (H5.set q (.cells [if 0 = k then v' else v 0, if 1 = k then v' else v 1, if 2 = k then v' else v 2])) q (fun j => if j = k then v' else v j) (fun j => if j = k then L k ++ [x] else L j) := by
  have hq := kp q _ h.cell (h.nq k hk)
  have ho : ∀ j, j < 3 → j ≠ k → Own B H5 (v j) 1 (ints (natL (L j))) ∧ ∀ r n c n' c', v j = .ref r 0 n c → v' ≠ .ref r 0 n' c' := fun j hj hjk => Own.kept (h.own j hj) how.1 (fun r n c n' c' e => h.sep j k hj hk hjk r n c n' c' e) kp
  have hnq : ∀ j, j < 3 → ∀ n c, (if j = k then v' else v j) ≠ .ref q 0 n c := fun j hj n c => by
    by_cases hjk : j = k
    · rw [if_pos hjk]; exact hq.2 n c
    · rw [if_neg hjk]; exact h.nq j hj n c
  refine ⟨hq.1, fun j hj => ?_, set_at, h.bq, hnq, fun i j hi hj hij r n c n' c' e => ?_⟩
  · have := hnq j hj
    by_cases hjk : j = k
    · rw [if_pos hjk] at this
      rw [if_pos hjk, if_pos hjk]
      exact Own.setQ how h.bq this
    · rw [if_neg hjk] at this
      rw [if_neg hjk, if_neg hjk]
      exact Own.setQ (ho j hj hjk).1 h.bq this
  · by_cases hik : i = k
    · rw [if_pos hik] at e
      rw [if_neg (by omega)]
      intro e2
      exact (ho j hj (by omega)).2 r n' c' n c e2 e
    · rw [if_neg hik] at e
      by_cases hjk : j = k
      · rw [if_pos hjk]
        exact (ho i hi hik).2 r n c n' c' e
      · rw [if_neg hjk]
        exact h.sep i j hi hj hij r n c n' c' e
theorem E3.congr {B H : Hp} {q : Nat} {v : Nat → CV} {L L' : Nat → List Nat} (h : E3 B H q v L) (hl : ∀ k, k < 3 → L k = L' k) : E3 B H q v L' := ⟨fun k hk => by rw [← hl k hk]; exact h.own k hk, h.cell, h.bq, h.nq, h.sep⟩
theorem E3.down {B B9 H : Hp} {q : Nat} {v : Nat → CV} {L : Nat → List Nat} (h : E3 B9 H q v L) (hl : Le B B9) : E3 B H q v L := by
  refine ⟨fun k hk => ?_, h.cell, hl.none h.bq, h.nq, h.sep⟩
  obtain ⟨h1, h2, h3⟩ := h.own k hk
  refine ⟨hl.trans h1, h2, ?_⟩
  rcases h3 with h3 | ⟨r, c, ex, e, h4, h5⟩
  · exact .inl h3
  · exact .inr ⟨r, c, ex, e, hl.none h4, h5⟩
theorem E3.rebase {B H : Hp} {q : Nat} {v : Nat → CV} {L : Nat → List Nat} (h : E3 B H q v L) : ∃ B9, Le B B9 ∧ E3 B9 H q v L ∧ ∀ r o, H r = some o → r ≠ q → (∀ k, k < 3 → ∀ n c, v k ≠ .ref r 0 n c) → B9 r = some o := by
  classical
  have hB := (h.own 0 (by omega)).1
  refine ⟨fun r => if r = q ∨ ∃ k, k < 3 ∧ ∃ n c, v k = .ref r 0 n c then none else H r, fun r o hr => ?_, ⟨fun k hk => ?_, h.cell, ?_, h.nq, h.sep⟩, fun r o hr hq hv => ?_⟩
  · dsimp only
    rw [if_neg, hB _ _ hr]
    rintro (rfl | ⟨k, hk, n, c, e⟩)
    · rw [h.bq] at hr; cases hr
    · obtain ⟨_, _, h3⟩ := h.own k hk
      rcases h3 with ⟨h3, _⟩ | ⟨r', c', ex, e2, h4, _⟩
      · rw [e] at h3; cases h3
      · rw [e] at e2; injection e2 with e2; subst e2; rw [h4] at hr; cases hr
  · obtain ⟨h1, h2, h3⟩ := h.own k hk
    refine ⟨fun r o hr => ?_, h2, ?_⟩
    · dsimp only at hr
      split at hr
      · cases hr
      · exact hr
    · rcases h3 with h3 | ⟨r, c, ex, e, h4, h5⟩
      · exact .inl h3
      · exact .inr ⟨r, c, ex, e, if_pos (.inr ⟨k, hk, _, _, e⟩), h5⟩
  · exact if_pos (.inl rfl)
  · dsimp only
    rw [if_neg, hr]
    rintro (h | ⟨k, hk, n, c, e⟩)
    · exact hq h
    · exact hv k hk n c e
theorem E3.fresh {B H : Hp} {q r : Nat} {v : Nat → CV} {L : Nat → List Nat} (h : E3 B H q v L) (hr : H r = none) : r ≠ q ∧ ∀ k, k < 3 → ∀ n c, v k ≠ .ref r 0 n c := by
  refine ⟨fun e => (by subst e; rw [h.cell] at hr; cases hr), fun k hk n c e => ?_⟩
  obtain ⟨_, _, h3⟩ := h.own k hk
  rcases h3 with ⟨h3, _⟩ | ⟨r', c', ex, e2, _, h4, _⟩
  · rw [e] at h3; cases h3
  · rw [e] at e2; injection e2 with e2; subst e2; rw [h4] at hr; cases hr
theorem Own.fresh {B H : Hp} {w : CV} {sz r n c : Nat} {xs : List (List CV)} (h : Own B H w sz xs) (e : w = .ref r 0 n c) : B r = none := by
  rcases h.2.2 with ⟨h3, _⟩ | ⟨r', c', ex, e2, h4, _⟩
  · rw [e] at h3; cases h3
  · rw [e] at e2; injection e2 with e2; subst e2; exact h4
structure enJ (B : Hp) (u : UUnit) (p : Nat → Bool) (b q2 q10 q11 i : Nat) (w0 w1 w2 : CV) (d m : Nat) (s' : CA) (H' : Hp) : Prop where
  ex : ∃ (k k45 : Nat) (v : Nat → CV), m = 3 - k ∧ k ≤ 3 ∧ k45 + d = k ∧ s'.env 1 = .int .i64 b ∧ s'.env 2 = .ptr q2 0 ∧ s'.env 10 = .ptr q10 0 ∧ s'.env 11 = .ptr q11 0 ∧ s'.env 12 = .int .i64 i ∧ s'.env 29 = .sl 6 (u.blocks.map blkC) ∧ s'.env 30 = .int .i64 u.blocks.length ∧ s'.env 31 = .int .i64 i ∧ s'.env 44 = .agg [w0, w1, w2] ∧ s'.env 45 = .int .i64 k45 ∧ s'.ds = [] ∧ E3 B H' q10 v (fun j => if j < k then entL u p b j (i + 1) else entL u p b j i)
structure enI (B : Hp) (u : UUnit) (p : Nat → Bool) (b q2 q10 q11 : Nat) (d m : Nat) (s' : CA) (H' : Hp) : Prop where
  ex : ∃ (i i31 : Nat) (v : Nat → CV), m = u.blocks.length - i ∧ i ≤ u.blocks.length ∧ i31 + d = i ∧ s'.env 1 = .int .i64 b ∧ s'.env 2 = .ptr q2 0 ∧ s'.env 10 = .ptr q10 0 ∧ s'.env 11 = .ptr q11 0 ∧ s'.env 29 = .sl 6 (u.blocks.map blkC) ∧ s'.env 30 = .int .i64 u.blocks.length ∧ s'.env 31 = .int .i64 i31 ∧ s'.ds = [] ∧ E3 B H' q10 v (fun k => entL u p b k i)
structure enX (B : Hp) (u : UUnit) (p : Nat → Bool) (b q10 : Nat) (s' : CA) (H' : Hp) : Prop where
  ex : ∃ (v : Nat → CV), s'.env 10 = .ptr q10 0 ∧ s'.ds = [] ∧ E3 B H' q10 v (fun k => entL u p b k u.blocks.length)
/-- What graph.Entries answers. -/
structure EnA (u : UUnit) (b : Int) (x : CE) (H' : Hp) : Prop where
  er : errU u ≠ 0 → x = .ret (.tuple [.nilsl, .nilsl, .nilsl, ci (errU u)])
  out : errU u = 0 → outB u.blocks.length b = true → x = .ret (.tuple [.nilsl, .nilsl, .nilsl, ci 2])
  ok : errU u = 0 → outB u.blocks.length b = false → ∃ p c v0 v1 v2, PLeast (opsOf u) p c ∧ x = .ret (.tuple [v0, v1, v2, ci 0]) ∧ SlF H' v0 (natL (entL u p b 0 u.blocks.length)) ∧ SlF H' v1 (natL (entL u p b 1 u.blocks.length)) ∧ SlF H' v2 (natL (entL u p b 2 u.blocks.length))
end Go.Cl.Gd
set_option linter.unusedSimpArgs false
set_option linter.unusedVariables false
namespace Go.Cl.Gd
open Go.Proofs
variable {W : World} {G : Nat → CV}
set_option maxRecDepth 8000
set_option maxHeartbeats 1000000
structure rbI (B : Hp) (vn : CV) (rs n k q2 : Nat) (N : Nat → List Nat) (d m : Nat) (s' : CA) (H' : Hp) : Prop where
  ex : ∃ (i i6 : Nat) (v : CV), m = n - i ∧ i ≤ n ∧ i6 + d = i ∧ s'.env 1 = .int .i64 k ∧ s'.env 2 = .ptr q2 0 ∧ s'.env 5 = v ∧ s'.env 6 = .int .i64 i6 ∧ s'.ds = [] ∧ Own B H' v 1 (ints (natL (befL N i k)))
theorem befL_succ {N : Nat → List Nat} {i k : Nat} : befL N (i + 1) k = befL N i k ++ (if k ∈ N i then [i] else []) := by
  rw [befL, List.range_succ, List.filter_append]
  congr 1
  by_cases h : k ∈ N i <;> simp [h]
theorem befL_len {N : Nat → List Nat} {i k : Nat} : (befL N i k).length ≤ i := by
  have := List.length_filter_le (fun a => decide (k ∈ N a)) (List.range i)
  rwa [List.length_range] at this
/-- Three lists that are being built. -/
structure O3 (B H : Hp) (v : Nat → CV) (L : Nat → List Nat) : Prop where
  own : ∀ k, k < 3 → Own B H (v k) 1 (ints (natL (L k)))
  sep : ∀ i j, i < 3 → j < 3 → i ≠ j → ∀ r n c n' c', v i = .ref r 0 n c → v j ≠ .ref r 0 n' c'
theorem O3.mono {B H H' : Hp} {v : Nat → CV} {L : Nat → List Nat} (h : O3 B H v L) (hl : Le H H') : O3 B H' v L := ⟨fun k hk => (h.own k hk).mono hl, h.sep⟩
theorem O3.congr {B H : Hp} {v : Nat → CV} {L L' : Nat → List Nat} (h : O3 B H v L) (hl : ∀ k, k < 3 → L k = L' k) : O3 B H v L' := ⟨fun k hk => by rw [← hl k hk]; exact h.own k hk, h.sep⟩
theorem O3.up {B H : Hp} {v : Nat → CV} {L : Nat → List Nat} {q : Nat} {o : Ob} (h : O3 B H v L) (hq : H q = none) : O3 (B.set q o) (H.set q o) v L := by
  refine ⟨fun k hk => ?_, h.sep⟩
  obtain ⟨h1, h2, h3⟩ := h.own k hk
  refine ⟨Le.set h1, h2, ?_⟩
  rcases h3 with h3 | ⟨r, c, ex, e, h4, h5, h6⟩
  · exact .inl h3
  · have hne : r ≠ q := fun e => by subst e; rw [hq] at h5; cases h5
    exact .inr ⟨r, c, ex, e, by rw [hset_ne hne]; exact h4, by rw [hset_ne hne]; exact h5, h6⟩
theorem O3.down {B B9 H : Hp} {v : Nat → CV} {L : Nat → List Nat} (h : O3 B9 H v L) (hl : Le B B9) : O3 B H v L := by
  refine ⟨fun k hk => ?_, h.sep⟩
  obtain ⟨h1, h2, h3⟩ := h.own k hk
  refine ⟨hl.trans h1, h2, ?_⟩
  rcases h3 with h3 | ⟨r, c, ex, e, h4, h5⟩
  · exact .inl h3
  · exact .inr ⟨r, c, ex, e, hl.none h4, h5⟩
theorem O3.put {B H H5 : Hp} {k x : Nat} {v : Nat → CV} {L : Nat → List Nat} {v' : CV} (h : O3 B H v L) (hk : k < 3) (how : Own B H5 v' 1 (ints (natL (L k ++ [x])))) (kp : ∀ q o, H q = some o → (∀ n c, v k ≠ .ref q 0 n c) → H5 q = some o ∧ ∀ n c, v' ≠ .ref q 0 n c) :
    O3 B H5 (fun j => if j = k then v' else v j) (fun j => if j = k then L k ++ [x] else L j) := by
  have ho : ∀ j, j < 3 → j ≠ k → Own B H5 (v j) 1 (ints (natL (L j))) ∧ ∀ r n c n' c', v j = .ref r 0 n c → v' ≠ .ref r 0 n' c' := fun j hj hjk => Own.kept (h.own j hj) how.1 (fun r n c n' c' e => h.sep j k hj hk hjk r n c n' c' e) kp
  refine ⟨fun j hj => ?_, fun i j hi hj hij r n c n' c' e => ?_⟩
  · by_cases hjk : j = k
    · rw [if_pos hjk, if_pos hjk]; exact how
    · rw [if_neg hjk, if_neg hjk]; exact (ho j hj hjk).1
  · by_cases hik : i = k
    · rw [if_pos hik] at e
      rw [if_neg (by omega)]
      intro e2
      exact (ho j hj (by omega)).2 r n' c' n c e2 e
    · rw [if_neg hik] at e
      by_cases hjk : j = k
      · rw [if_pos hjk]
        exact (ho i hi hik).2 r n c n' c' e
      · rw [if_neg hjk]
        exact h.sep i j hi hj hij r n c n' c' e
/-- The lists while a block is looked at: those of the kinds below k know it. -/
def entK (u : UUnit) (p : Nat → Bool) (b : Int) (i k j : Nat) : List Nat := if j < k then entL u p b j (i + 1) else entL u p b j i
theorem O3.stepF {B H : Hp} {v : Nat → CV} {u : UUnit} {p : Nat → Bool} {b : Int} {i k : Nat} (h : O3 B H v (entK u p b i k)) (hf : entT u p b k i = false) : O3 B H v (entK u p b i (k + 1)) := h.congr fun j hj => by
  simp only [entK]
  by_cases hj1 : j < k
  · rw [if_pos hj1, if_pos (by omega)]
  · by_cases hj2 : j = k
    · subst hj2; rw [if_neg (Nat.lt_irrefl _), if_pos (Nat.lt_succ_self _), entL_succ, if_neg (by simp [hf])]; simp
    · rw [if_neg hj1, if_neg (by omega)]
theorem O3.stepT {B H H5 : Hp} {v : Nat → CV} {u : UUnit} {p : Nat → Bool} {b : Int} {i k : Nat} {v' : CV} (h : O3 B H v (entK u p b i k)) (hk : k < 3) (hf : entT u p b k i = true) (how : Own B H5 v' 1 (ints (natL (entL u p b k i)) ++ [[.int .i64 (i : Int)]])) (kp : ∀ q o, H q = some o → (∀ n c, v k ≠ .ref q 0 n c) → H5 q = some o ∧ ∀ n c, v' ≠ .ref q 0 n c) : O3 B H5 (fun j => if j = k then v' else v j) (entK u p b i (k + 1)) := by
  have e9 : ints (natL (entK u p b i k k ++ [i])) = ints (natL (entL u p b k i)) ++ [[.int .i64 (i : Int)]] := by simp [entK, ints, natL]
  refine (h.put (x := i) hk (by rw [e9]; exact how) kp).congr fun j hj => ?_
  simp only [entK]
  by_cases hj2 : j = k
  · subst hj2; rw [if_pos rfl, if_neg (Nat.lt_irrefl _), if_pos (Nat.lt_succ_self _), entL_succ, if_pos hf]
  · rw [if_neg hj2]
    by_cases hj1 : j < k
    · rw [if_pos hj1, if_pos (by omega)]
    · rw [if_neg hj1, if_neg (by omega)]
structure reI (B : Hp) (u : UUnit) (p : Nat → Bool) (b q2 : Nat) (vt : CV) (d m : Nat) (s' : CA) (H' : Hp) : Prop where
  ex : ∃ (i i11 : Nat) (v : Nat → CV), m = u.blocks.length - i ∧ i ≤ u.blocks.length ∧ i11 + d = i ∧ s'.env 1 = .int .i64 b ∧ s'.env 2 = .ptr q2 0 ∧ s'.env 7 = vt ∧ s'.env 8 = v 0 ∧ s'.env 9 = v 1 ∧ s'.env 10 = v 2 ∧ s'.env 11 = .int .i64 i11 ∧ s'.ds = [] ∧ O3 B H' v (fun k => entL u p b k i)
structure reX (B : Hp) (u : UUnit) (p : Nat → Bool) (b : Nat) (s' : CA) (H' : Hp) : Prop where
  ex : ∃ v : Nat → CV, s'.env 8 = v 0 ∧ s'.env 9 = v 1 ∧ s'.env 10 = v 2 ∧ s'.ds = [] ∧ O3 B H' v (fun k => entL u p b k u.blocks.length)
/-- Within a round: kinds below k are done. -/
structure reM (B : Hp) (u : UUnit) (p : Nat → Bool) (b q2 q12 i k : Nat) (vt : CV) (s' : CA) (H' : Hp) : Prop where
  ex : ∃ v : Nat → CV, s'.env 1 = .int .i64 b ∧ s'.env 2 = .ptr q2 0 ∧ s'.env 7 = vt ∧ s'.env 8 = v 0 ∧ s'.env 9 = v 1 ∧ s'.env 10 = v 2 ∧ s'.env 11 = .int .i64 i ∧ s'.env 12 = .ptr q12 0 ∧ s'.ds = [] ∧ O3 B H' v (entK u p b i k)
structure reL (u : UUnit) (x : UBlk) (b q2 q12 i : Nat) (vt : CV) (v : Nat → CV) (HK : Hp) (d m : Nat) (s' : CA) (H' : Hp) : Prop where
  ex : ∃ (k k14 : Nat), m = x.ops.length - k ∧ k ≤ x.ops.length ∧ k14 + d = k ∧ s'.env 1 = .int .i64 b ∧ s'.env 2 = .ptr q2 0 ∧ s'.env 7 = vt ∧ s'.env 8 = v 0 ∧ s'.env 9 = v 1 ∧ s'.env 10 = v 2 ∧ s'.env 11 = .int .i64 i ∧ s'.env 12 = .ptr q12 0 ∧ s'.env 13 = .bool ((x.ops.take k).any fun o => decide (o.kind = 21) && decide (o.n = (b : Int))) ∧ s'.env 14 = .int .i64 k14 ∧ s'.ds = [] ∧ H' = HK
structure reN (B : Hp) (u : UUnit) (p : Nat → Bool) (b q2 q12 i : Nat) (vt : CV) (t : Bool) (s' : CA) (H' : Hp) : Prop where
  ex : ∃ v : Nat → CV, s'.env 1 = .int .i64 b ∧ s'.env 2 = .ptr q2 0 ∧ s'.env 7 = vt ∧ s'.env 8 = v 0 ∧ s'.env 9 = v 1 ∧ s'.env 10 = v 2 ∧ s'.env 11 = .int .i64 i ∧ s'.env 12 = .ptr q12 0 ∧ s'.env 13 = .bool t ∧ s'.ds = [] ∧ O3 B H' v (entK u p b i 1)
theorem goesL_mem {e : UEnd} {b : Int} : b ∈ goesL e ↔ ((e.kind = 1 ∨ e.kind = 2) ∧ e.to = b) ∨ (e.kind = 2 ∧ e.els = b) := by
  simp only [goesL]
  by_cases h1 : e.kind = 1
  · have h2 : ¬ e.kind = 2 := by omega
    simp [h1]
    exact ⟨fun h => h.symm, fun h => h.symm⟩
  · by_cases h2 : e.kind = 2
    · simp [h1, h2]
      exact ⟨fun h => h.imp Eq.symm Eq.symm, fun h => h.imp Eq.symm Eq.symm⟩
    · simp [h1, h2]
theorem exitsL_any {x : UBlk} {b : Int} : (x.ops.any fun o => decide (o.kind = 21) && decide (o.n = b)) = decide (b ∈ exitsL x) := by
  rw [Bool.eq_iff_iff, decide_eq_true_eq, exitsL, List.any_eq_true]
  constructor
  · rintro ⟨o, h1, h2⟩
    rw [Bool.and_eq_true, decide_eq_true_eq, decide_eq_true_eq] at h2
    exact List.mem_map.2 ⟨o, List.mem_filter.2 ⟨h1, by simp [h2.1]⟩, h2.2⟩
  · intro h
    obtain ⟨o, h1, h2⟩ := List.mem_map.1 h
    obtain ⟨h3, h4⟩ := List.mem_filter.1 h1
    exact ⟨o, h3, by rw [Bool.and_eq_true, decide_eq_true_eq, decide_eq_true_eq]; exact ⟨by simpa using h4, h2⟩⟩
theorem caughtL_mem {p : Nat → Bool} {x : UBlk} {b : Nat} : (b : Int) ∈ caughtL p x ↔ mayAny p x = true ∧ x.catch_ = b := by
  simp only [caughtL]
  split
  · rename_i h
    simp [h.2]
    exact ⟨fun h => h.symm, fun h => h.symm⟩
  · rename_i h
    simp
    intro h1 h2
    exact h ⟨by omega, h1⟩
theorem tup3_free {a b c : CV} (h1 : Free a) (h2 : Free b) (h3 : Free c) : FreeEnd (.ret (.tuple [a, b, c])) := by
  simp only [FreeEnd]
  refine .tuple _ fun i x hx => ?_
  rcases i with _|_|_|i
  · simp at hx; subst hx; exact h1
  · simp at hx; subst hx; exact h2
  · simp at hx; subst hx; exact h3
  · simp at hx
theorem tup4_free {a b c : CV} {n : Int} (h1 : Free a) (h2 : Free b) (h3 : Free c) : FreeEnd (.ret (.tuple [a, b, c, ci n])) := by
  simp only [FreeEnd]
  refine .tuple _ fun i x hx => ?_
  rcases i with _|_|_|_|i
  · simp at hx; subst hx; exact h1
  · simp at hx; subst hx; exact h2
  · simp at hx; subst hx; exact h3
  · simp at hx; subst hx; constructor
  · simp at hx
theorem EnA.free {u : UUnit} {b : Int} {x : CE} {H' : Hp} (h : EnA u b x H') : FreeEnd x := by
  by_cases he : errU u = 0
  · cases ho : outB u.blocks.length b with
    | true => rw [h.out he ho]; exact tup4_free .nilsl .nilsl .nilsl
    | false => obtain ⟨p, c, v0, v1, v2, _, rfl, h0, h1, h2⟩ := h.ok he ho; exact tup4_free h0.free h1.free h2.free
  · rw [h.er he]; exact tup4_free .nilsl .nilsl .nilsl
theorem EnA.wkm {u : UUnit} {b : Int} {x : CE} {H' H2 : Hp} (h : EnA u b x H') (hl : Le (wkH H') H2) : EnA u b x H2 :=
  ⟨h.er, h.out, fun he ho => by
    obtain ⟨p, c, v0, v1, v2, a1, a2, h0, h1, h2⟩ := h.ok he ho
    exact ⟨p, c, v0, v1, v2, a1, a2, h0.wk.mono hl, h1.wk.mono hl, h2.wk.mono hl⟩⟩
end Go.Cl.Gd
