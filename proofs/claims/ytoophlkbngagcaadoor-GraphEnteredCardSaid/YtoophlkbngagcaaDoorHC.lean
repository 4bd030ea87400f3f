/- DERIVED HERE. The reference's graph: what dominates what, the nearest dominators. -/
import Derived.Test.YtoophlkbngagcaaDoorHA
set_option linter.unusedSimpArgs false
set_option linter.unusedVariables false
namespace Go.Cl.Gd
open Go.Proofs
variable {W : World} {G : Nat → CV}
set_option maxRecDepth 8000
set_option maxHeartbeats 1000000
theorem boolC_wkQ {n : Nat} {f : Nat → Bool} : (boolC n f).map wkC = boolC n f := by
  simp only [boolC, List.map_map]
  exact List.map_congr_left fun x _ => rfl
theorem RowsN.mono {H H' : Hp} {v : CV} {n : Nat} {N : Nat → List Nat} (h : RowsN H v n N) (hl : Le H H') : RowsN H' v n N := by
  obtain ⟨rn, cn, cs, h1, h2, h3, h4⟩ := h
  exact ⟨rn, cn, cs, h1, h2, hl _ _ h3, fun b hb => by obtain ⟨w, k1, k2⟩ := h4 b hb; exact ⟨w, k1, k2.mono hl⟩⟩
theorem RowsN.wk {H : Hp} {v : CV} {n : Nat} {N : Nat → List Nat} (h : RowsN H v n N) : RowsN (wkH H) v n N := by
  obtain ⟨rn, cn, cs, h1, h2, h3, h4⟩ := h
  exact ⟨rn, cn, _, h1, h2, wkH_at h3, fun b hb => by obtain ⟨w, k1, k2⟩ := h4 b hb; exact ⟨w, by rw [List.getElem?_map, k1]; simp [SlF.wkC k2], k2.wk⟩⟩
/-- The reference's graph, in blocks. -/
structure RGr (H : Hp) (vn : CV) (rs n : Nat) (N : Nat → List Nat) (s : Nat → Bool) : Prop where
  rows : RowsN H vn n N
  rs : H rs = some (.cells (boolC n s))
  s : ∀ x, s x = true ↔ Rch N 0 x
theorem RGr.mono {H H' : Hp} {vn : CV} {rs n : Nat} {N : Nat → List Nat} {s : Nat → Bool} (h : RGr H vn rs n N s) (hl : Le H H') : RGr H' vn rs n N s := ⟨h.rows.mono hl, hl _ _ h.rs, h.s⟩
noncomputable def domB (N : Nat → List Nat) (a b : Nat) : Bool := open Classical in decide (Dom N a b)
theorem domB_iff {N : Nat → List Nat} {a b : Nat} : domB N a b = true ↔ Dom N a b := by simp [domB]
/-- Rows of truths: a dominates b. -/
def DomsR (H : Hp) (v : CV) (n : Nat) (D : Nat → Nat → Bool) : Prop := ∃ r c cs, v = .ref r 0 n c ∧ H r = some (.cells cs) ∧ ∀ a, a < n → ∃ ra, cs[a]? = some (.ref ra 0 n n) ∧ H ra = some (.cells (boolC n (D a)))
theorem DomsR.mono {H H' : Hp} {v : CV} {n : Nat} {D : Nat → Nat → Bool} (h : DomsR H v n D) (hl : Le H H') : DomsR H' v n D := by
  obtain ⟨r, c, cs, h1, h2, h3⟩ := h
  exact ⟨r, c, cs, h1, hl _ _ h2, fun a ha => by obtain ⟨ra, k1, k2⟩ := h3 a ha; exact ⟨ra, k1, hl _ _ k2⟩⟩
/-- One value is left. -/
structure Sx (k : Nat) (P : CV → Hp → Prop) (s' : CA) (H' : Hp) : Prop where
  ex : ∃ v, s'.env k = v ∧ s'.ds = [] ∧ P v H'
/-- While they are built. -/
structure DmO (H0 H : Hp) (v : CV) (n i : Nat) (D : Nat → Nat → Bool) : Prop where
  ex : ∃ xs, Own H0 H v 1 xs ∧ xs.length = i ∧ ∀ a, a < i → ∃ ra, xs[a]? = some [.ref ra 0 n n] ∧ H ra = some (.cells (boolC n (D a))) ∧ ∀ n' c', v ≠ .ref ra 0 n' c'
theorem DmO.mono {H0 H H' : Hp} {v : CV} {n i : Nat} {D : Nat → Nat → Bool} (h : DmO H0 H v n i D) (hl : Le H H') : DmO H0 H' v n i D := by
  obtain ⟨xs, h1, h2, h3⟩ := h
  exact ⟨xs, h1.mono hl, h2, fun a ha => by obtain ⟨ra, k1, k2, k3⟩ := h3 a ha; exact ⟨ra, k1, hl _ _ k2, k3⟩⟩
theorem DmO.le {H0 H : Hp} {v : CV} {n i : Nat} {D : Nat → Nat → Bool} (h : DmO H0 H v n i D) : Le H0 H := by
  obtain ⟨xs, h1, _⟩ := h; exact h1.le
theorem one_get {v : CV} {xs : List (List CV)} {ex : List CV} (hz : ∀ e ∈ xs, e.length = 1) {a : Nat} (h : xs[a]? = some [v]) : (xs.flatten ++ ex)[a]? = some v := by
  have h1 := flat_take (ex := ex) hz h
  rw [Nat.mul_one] at h1
  have h2 : ((xs.flatten ++ ex).drop a)[0]? = some v := by
    have := congrArg (fun l : List CV => l[0]?) h1
    simpa using this
  simpa using h2
theorem DmO.doms {H0 H : Hp} {v : CV} {n : Nat} {D : Nat → Nat → Bool} (h0 : 0 < n) (h : DmO H0 H v n n D) : DomsR H v n D := by
  obtain ⟨xs, h1, h2, h3⟩ := h
  have hz := h1.len
  rcases h1.2.2 with ⟨_, rfl⟩ | ⟨r, c, ex, rfl, _, hr, _, _⟩
  · simp at h2; omega
  · exact ⟨r, c, _, by rw [h2], hr, fun a ha => by obtain ⟨ra, k1, k2, _⟩ := h3 a ha; exact ⟨ra, one_get hz k1, k2⟩⟩
structure dmI (H0 : Hp) (vn : CV) (rs q1 n : Nat) (D : Nat → Nat → Bool) (d m : Nat) (s' : CA) (H' : Hp) : Prop where
  ex : ∃ (i i4 : Nat) (v : CV), m = n - i ∧ i ≤ n ∧ i4 + d = i ∧ s'.env 1 = .ptr q1 0 ∧ s'.env 3 = v ∧ s'.env 4 = .int .i64 i4 ∧ s'.ds = [] ∧ DmO H0 H' v n i D
structure dmJ (K : Hp) (q1 n i ro rr : Nat) (v : CV) (D : Nat → Nat → Bool) (d m : Nat) (s' : CA) (H' : Hp) : Prop where
  ex : ∃ (j j7 : Nat), m = n - j ∧ j ≤ n ∧ j7 + d = j ∧ s'.env 1 = .ptr q1 0 ∧ s'.env 3 = v ∧ s'.env 4 = .int .i64 i ∧ s'.env 5 = .ref ro 0 n n ∧ s'.env 6 = .ref rr 0 n n ∧ s'.env 7 = .int .i64 j7 ∧ s'.ds = [] ∧ H' = K.set rr (.cells (boolC n fun x => decide (x < j) && D i x))
structure dmE (K : Hp) (q1 n i rr : Nat) (v : CV) (D : Nat → Nat → Bool) (s' : CA) (H' : Hp) : Prop where
  ex : s'.env 1 = .ptr q1 0 ∧ s'.env 3 = v ∧ s'.env 4 = .int .i64 i ∧ s'.env 6 = .ref rr 0 n n ∧ s'.ds = [] ∧ H' = K.set rr (.cells (boolC n (D i)))
end Go.Cl.Gd
