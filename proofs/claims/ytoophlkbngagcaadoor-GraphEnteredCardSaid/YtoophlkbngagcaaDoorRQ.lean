/- DERIVED HERE. The reference's graph: add. DERIVED HERE. The reference's graph: which blocks are reached. DERIVED HERE. The reference's graph: Of. DERIVED HERE. The reference's graph: Of. DERIVED HERE. The reference's Most. -/
import Derived.Test.YtoophlkbngagcaaDoorGR
import Derived.Test.YtoophlkbngagcaaDoorRB
import Derived.Test.YtoophlkbngagcaaDoorLRf
set_option linter.unusedSimpArgs false
set_option linter.unusedVariables false
namespace Go.Cl.Gd
open Go.Proofs
variable {W : World} {G : Nat → CV}
set_option maxRecDepth 8000
/-- A number is put into a rising list. -/
def addL (n : Int) : List Int → List Int
  | [] => [n]
  | x :: t => if n ≤ x then (if n < x then n :: x :: t else x :: t) else x :: addL n t
theorem addL_mem {n : Int} : ∀ {l : List Int} {x : Int}, x ∈ addL n l ↔ x = n ∨ x ∈ l
  | [], x => by simp [addL]
  | y :: t, x => by
    simp only [addL]
    split
    · split
      · simp
      · have : n = y := by omega
        subst this
        simp
    · simp only [List.mem_cons, addL_mem (l := t)]
      constructor
      · rintro (h | h | h) <;> simp [h]
      · rintro (h | h | h) <;> simp [h]
theorem addL_len {n : Int} : ∀ {l : List Int}, (addL n l).length ≤ l.length + 1
  | [] => by simp [addL]
  | y :: t => by
    simp only [addL]
    have := addL_len (n := n) (l := t)
    split
    · split <;> simp
    · simp; omega
/-- The list so far. -/
def AdI (n : Int) (l : List Int) (i : Nat) (done : Bool) (out : List Int) : Prop :=
  (done = true ∧ out ++ l.drop i = addL n l) ∨ (done = false ∧ out = l.take i ∧ l.take i ++ addL n (l.drop i) = addL n l)
theorem AdI.start {n : Int} {l : List Int} : AdI n l 0 false [] := .inr ⟨rfl, by simp, by simp⟩
theorem AdI.len {n : Int} {l : List Int} {i : Nat} {done : Bool} {out : List Int} (h : AdI n l i done out) : out.length ≤ l.length + 1 := by
  have := addL_len (n := n) (l := l)
  rcases h with ⟨_, h⟩ | ⟨_, h, _⟩
  · rw [← h, List.length_append] at this; omega
  · rw [h, List.length_take]; omega
theorem AdI.next {n : Int} {l : List Int} {i : Nat} {done : Bool} {out : List Int} {x : Int} (h : AdI n l i done out) (hx : l[i]? = some x) :
    (done = true → AdI n l (i + 1) true (out ++ [x])) ∧ (done = false → n < x → AdI n l (i + 1) true ((out ++ [n]) ++ [x])) ∧ (done = false → n = x → AdI n l (i + 1) true (out ++ [x])) ∧ (done = false → ¬ n ≤ x → AdI n l (i + 1) false (out ++ [x])) := by
  obtain ⟨hi, he⟩ := List.getElem?_eq_some_iff.1 hx
  have hd : l.drop i = x :: l.drop (i + 1) := by rw [List.drop_eq_getElem_cons hi, he]
  have ht : l.take (i + 1) = l.take i ++ [x] := by rw [List.take_succ_eq_append_getElem hi, he]
  rcases h with ⟨rfl, h⟩ | ⟨rfl, h1, h2⟩
  · refine ⟨fun _ => .inl ⟨rfl, ?_⟩, fun q => (by cases q), fun q => (by cases q), fun q => (by cases q)⟩
    rw [← h, hd]; simp
  · rw [hd] at h2
    simp only [addL] at h2
    refine ⟨fun q => (by cases q), fun _ q => .inl ⟨rfl, ?_⟩, fun _ q => .inl ⟨rfl, ?_⟩, fun _ q => .inr ⟨rfl, ?_, ?_⟩⟩
    · rw [if_pos (by omega), if_pos q] at h2
      rw [← h2, h1]; simp
    · rw [if_pos (by omega), if_neg (by omega)] at h2
      rw [← h2, h1]; simp
    · rw [ht, h1]
    · rw [if_neg q] at h2
      rw [← h2, ht]; simp
theorem AdI.done {n : Int} {l : List Int} {i : Nat} {out : List Int} (hi : l.length ≤ i) : (AdI n l i true out → out = addL n l) ∧ (AdI n l i false out → out ++ [n] = addL n l) := by
  have hd := List.drop_eq_nil_of_le hi
  constructor
  · rintro (⟨_, h⟩ | ⟨h, _⟩)
    · rw [← h, hd]; simp
    · cases h
  · rintro (⟨h, _⟩ | ⟨_, h1, h2⟩)
    · cases h
    · rw [hd] at h2
      rw [← h2, h1]
      simp [addL]
structure adI (H : Hp) (n : Int) (l : List Int) (vl : CV) (d : Nat) (m : Nat) (s' : CA) (H' : Hp) : Prop where
  ex : ∃ (i i7 : Nat) (done : Bool) (out : List Int) (v : CV), m = l.length - i ∧ i ≤ l.length ∧ s'.env 0 = vl ∧ s'.env 1 = ci n ∧ s'.env 5 = v ∧ s'.env 6 = .bool done ∧ s'.env 7 = .int .i64 i7 ∧ i7 + d = i ∧ s'.ds = [] ∧ AdI n l i done out ∧ Own H H' v 1 (ints out)
structure adX (H : Hp) (n : Int) (l : List Int) (s' : CA) (H' : Hp) : Prop where
  ex : ∃ (done : Bool) (out : List Int) (v : CV), s'.env 1 = ci n ∧ s'.env 5 = v ∧ s'.env 6 = .bool done ∧ s'.ds = [] ∧ AdI n l l.length done out ∧ Own H H' v 1 (ints out)
structure adM (H : Hp) (n : Int) (l : List Int) (vl : CV) (i : Nat) (x : Int) (s' : CA) (H' : Hp) : Prop where
  ex : ∃ (v2 : CV) (out2 : List Int) (done2 : Bool), s'.env 0 = vl ∧ s'.env 1 = ci n ∧ s'.env 5 = v2 ∧ s'.env 6 = .bool done2 ∧ s'.env 7 = .int .i64 i ∧ s'.ds = [] ∧ Own H H' v2 1 (ints out2) ∧ out2.length ≤ l.length + 2 ∧ AdI n l (i + 1) done2 (out2 ++ [x])
structure adN (H : Hp) (n : Int) (l : List Int) (vl : CV) (i : Nat) (x : Int) (s' : CA) (H' : Hp) : Prop where
  ex : ∃ (v2 : CV) (out2 : List Int), s'.env 0 = vl ∧ s'.env 1 = ci n ∧ s'.env 5 = v2 ∧ s'.env 7 = .int .i64 i ∧ s'.ds = [] ∧ Own H H' v2 1 (ints out2) ∧ out2.length ≤ l.length + 2 ∧ AdI n l (i + 1) true (out2 ++ [x])
end Go.Cl.Gd
set_option linter.unusedSimpArgs false
set_option linter.unusedVariables false
namespace Go.Cl.Gd
open Go.Proofs
variable {W : World} {G : Nat → CV}
set_option maxRecDepth 8000
/-- v is a queue of the numbers xs, in a block that the base doesn't know. -/
def QO (B H : Hp) (v : CV) (xs : List Int) : Prop := Le B H ∧ ∃ r o c cs, v = .ref r o xs.length c ∧ B r = none ∧ H r = some (.cells cs) ∧ (∀ (k : Nat) x, xs[k]? = some x → cs[o + k]? = some (ci x)) ∧ o + c ≤ cs.length ∧ xs.length ≤ c
theorem QO.mono {B H H' : Hp} {v : CV} {xs : List Int} (h : QO B H v xs) (hl : Le H H') : QO B H' v xs := by
  obtain ⟨h0, r, o, c, cs, h1, h2, h3, h4⟩ := h
  exact ⟨h0.trans hl, r, o, c, cs, h1, h2, hl _ _ h3, h4⟩
theorem QO.setBase {B H : Hp} {v : CV} {xs : List Int} {q : Nat} {ob : Ob} (h : QO B H v xs) (hq : B q ≠ none) : QO (B.set q ob) (H.set q ob) v xs := by
  obtain ⟨h0, r, o, c, cs, h1, h2, h3, h4⟩ := h
  have hne : r ≠ q := fun e => hq (e ▸ h2)
  exact ⟨Le.set h0, r, o, c, cs, h1, by rw [hset_ne hne]; exact h2, by rw [hset_ne hne]; exact h3, h4⟩
theorem QO.push {B H : Hp} {v : CV} {xs : List Int} {y : Int} {te : TI} {q c2 : Nat} {K : CV → Hp → Prop} (hte : te.size = 1) (htb : te.bytes = 8) (h : QO B H v xs) (hl : xs.length ≤ 1000000) (hq : H q = some (.cells [ci y])) (hK : ∀ v' H', QO B H' v' (xs ++ [y]) → K v' H') : vcAppend te v (.ref q 0 1 c2) H K := by
  obtain ⟨h0, r, o, c, cs, rfl, h2, h3, h4, h5, h6⟩ := h
  unfold vcAppend
  refine src_one (y := [ci y]) hq (by rw [hte]; rfl) _ ?_
  refine ⟨cs, h3, by rw [hte]; omega, h6, by rw [htb]; simp; omega, fun hfit => hK _ _ ⟨h0.put h2, r, o, c, _, by simp, h2, set_at, fun k x hk => ?_, ?_, by simpa using hfit⟩, fun hfit r' c' hr' hc' => hK _ _ ⟨h0.trans (Le.set_new hr'), r', 0, c', _, by simp, h0.none hr', set_at, fun k x hk => ?_, ?_, by simpa using hc'⟩⟩
  · simp only [hte, Nat.mul_one, List.flatten_cons, List.flatten_nil, List.append_nil, List.length_singleton]
    simp at hfit
    have hln : (cs.take (o + xs.length)).length = o + xs.length := by rw [List.length_take]; omega
    rcases Nat.lt_or_ge k xs.length with hk1 | hk1
    · rw [List.getElem?_append_left hk1] at hk
      rw [List.append_assoc, List.getElem?_append_left (by omega), List.getElem?_take_of_lt (by omega)]
      exact h4 k x hk
    · have hkk : k = xs.length := by
        have := (List.getElem?_eq_some_iff.1 hk).1
        simp at this; omega
      subst hkk
      rw [List.getElem?_append_right (by omega)] at hk
      simp at hk
      subst hk
      rw [List.append_assoc, List.getElem?_append_right (by omega), hln]
      simp
  · simp only [hte, Nat.mul_one, List.flatten_cons, List.flatten_nil, List.append_nil, List.length_singleton]
    simp at hfit
    simp
    omega
  · simp only [hte, Nat.mul_one, List.flatten_cons, List.flatten_nil, List.append_nil, Nat.zero_add]
    have hln : ((cs.drop o).take xs.length).length = xs.length := by rw [List.length_take, List.length_drop]; omega
    rcases Nat.lt_or_ge k xs.length with hk1 | hk1
    · rw [List.getElem?_append_left hk1] at hk
      rw [List.append_assoc, List.getElem?_append_left (by omega), List.getElem?_take_of_lt hk1, List.getElem?_drop]
      exact h4 k x hk
    · have hkk : k = xs.length := by
        have := (List.getElem?_eq_some_iff.1 hk).1
        simp at this; omega
      subst hkk
      rw [List.getElem?_append_right (by omega)] at hk
      simp at hk
      subst hk
      rw [List.append_assoc, List.getElem?_append_right (by omega), hln]
      simp
  · simp only [hte, Nat.mul_one, List.flatten_cons, List.flatten_nil, List.append_nil, List.length_singleton]
    simp [zeroCs]
    omega
theorem QO.pop {B H : Hp} {r o c : Nat} {n : Nat} {y : Int} {xs : List Int} (h : QO B H (.ref r o n c) (y :: xs)) : QO B H (.ref r (if c = 1 then o else o + 1) xs.length (c - 1)) xs := by
  obtain ⟨h0, r2, o2, c2, cs, h1, h2, h3, h4, h5, h6⟩ := h
  injection h1 with e1 e2 e3 e4
  subst e1; subst e2; subst e4
  simp at h6
  refine ⟨h0, r, _, c - 1, cs, rfl, h2, h3, fun k z hk => ?_, ?_, by omega⟩
  · have hk1 := (List.getElem?_eq_some_iff.1 hk).1
    rw [if_neg (by omega), show o + 1 + k = o + (k + 1) by omega]
    exact h4 (k + 1) z (by simpa using hk)
  · split <;> omega
/-- A way from a to x that doesn't go to the block w. -/
def RchW (N : Nat → List Nat) (w : Int) (a x : Nat) : Prop := Rch (fun b => (N b).filter fun k => decide ((k : Int) ≠ w)) a x
theorem rchW_none {N : Nat → List Nat} {a x : Nat} : RchW N (-1) a x ↔ Rch N a x := by
  have : (fun b => (N b).filter fun k : Nat => decide ((k : Int) ≠ -1)) = N := by
    funext b
    exact List.filter_eq_self.2 fun k _ => by simp <;> omega
  rw [RchW, this]
/-- What holds while the blocks are looked through. -/
structure FI (N : Nat → List Nat) (a : Nat) (w : Int) (n : Nat) (s : Nat → Bool) (todo : List Nat) : Prop where
  z : s a = true
  rch : ∀ x, s x = true → x < n ∧ RchW N w a x
  tod : ∀ x ∈ todo, s x = true
  cl : ∀ x, s x = true → x ∈ todo ∨ ∀ k ∈ N x, (k : Int) ≠ w → s k = true
structure FJ (N : Nat → List Nat) (a : Nat) (w : Int) (n b i : Nat) (s : Nat → Bool) (todo : List Nat) : Prop where
  z : s a = true
  rch : ∀ x, s x = true → x < n ∧ RchW N w a x
  tod : ∀ x ∈ todo, s x = true
  hb : s b = true
  cl : ∀ x, s x = true → x ∈ todo ∨ (x = b ∧ ∀ k ∈ (N b).take i, (k : Int) ≠ w → s k = true) ∨ ∀ k ∈ N x, (k : Int) ≠ w → s k = true
theorem FI.pop {N : Nat → List Nat} {a : Nat} {w : Int} {n b : Nat} {s : Nat → Bool} {todo : List Nat} (h : FI N a w n s (b :: todo)) : FJ N a w n b 0 s todo :=
  ⟨h.z, h.rch, fun x hx => h.tod x (List.mem_cons_of_mem _ hx), h.tod b (by simp), fun x hx => by
    rcases h.cl x hx with k | k
    · rcases List.mem_cons.1 k with rfl | k
      · exact .inr (.inl ⟨rfl, by simp⟩)
      · exact .inl k
    · exact .inr (.inr k)⟩
theorem FJ.done {N : Nat → List Nat} {a : Nat} {w : Int} {n b i : Nat} {s : Nat → Bool} {todo : List Nat} (h : FJ N a w n b i s todo) (hi : (N b).length ≤ i) : FI N a w n s todo :=
  ⟨h.z, h.rch, h.tod, fun x hx => by
    rcases h.cl x hx with k | ⟨rfl, k⟩ | k
    · exact .inl k
    · rw [List.take_of_length_le hi] at k; exact .inr k
    · exact .inr k⟩
theorem FJ.skip {N : Nat → List Nat} {a : Nat} {w : Int} {n b i k : Nat} {s : Nat → Bool} {todo : List Nat} (h : FJ N a w n b i s todo) (hk : (N b)[i]? = some k) (hs : (k : Int) ≠ w → s k = true) : FJ N a w n b (i + 1) s todo := by
  obtain ⟨hi, he⟩ := List.getElem?_eq_some_iff.1 hk
  refine ⟨h.z, h.rch, h.tod, h.hb, fun x hx => ?_⟩
  rcases h.cl x hx with q | ⟨rfl, q⟩ | q
  · exact .inl q
  · refine .inr (.inl ⟨rfl, fun y hy hyw => ?_⟩)
    rw [List.take_succ_eq_append_getElem hi, he] at hy
    rcases List.mem_append.1 hy with hy | hy
    · exact q y hy hyw
    · simp at hy; subst hy; exact hs hyw
  · exact .inr (.inr q)
theorem FJ.add {N : Nat → List Nat} {a : Nat} {w : Int} {n b i k : Nat} {s : Nat → Bool} {todo : List Nat} (h : FJ N a w n b i s todo) (hk : (N b)[i]? = some k) (hkn : k < n) (hkw : (k : Int) ≠ w) : FJ N a w n b (i + 1) (fun x => s x || x == k) (todo ++ [k]) := by
  obtain ⟨hi, he⟩ := List.getElem?_eq_some_iff.1 hk
  have hm := List.mem_of_getElem? hk
  refine ⟨by simp [h.z], fun x hx => ?_, fun x hx => ?_, by simp [h.hb], fun x hx => ?_⟩
  · simp at hx
    rcases hx with hx | rfl
    · exact h.rch x hx
    · exact ⟨hkn, .step (h.rch b h.hb).2 (List.mem_filter.2 ⟨hm, by simpa using hkw⟩)⟩
  · rcases List.mem_append.1 hx with hx | hx
    · simp [h.tod x hx]
    · simp at hx; simp [hx]
  · simp at hx
    rcases hx with hx | rfl
    · rcases h.cl x hx with q | ⟨rfl, q⟩ | q
      · exact .inl (by simp [q])
      · refine .inr (.inl ⟨rfl, fun y hy hyw => ?_⟩)
        rw [List.take_succ_eq_append_getElem hi, he] at hy
        rcases List.mem_append.1 hy with hy | hy
        · simp [q y hy hyw]
        · simp at hy; simp [hy]
      · exact .inr (.inr fun y hy hyw => by simp [q y hy hyw])
    · exact .inl (by simp)
theorem FI.fin {N : Nat → List Nat} {a : Nat} {w : Int} {n : Nat} {s : Nat → Bool} (h : FI N a w n s []) : ∀ x, s x = true ↔ RchW N w a x := by
  intro x
  refine ⟨fun hx => (h.rch x hx).2, fun hx => ?_⟩
  induction hx with
  | refl => exact h.z
  | step _ e ih =>
    obtain ⟨e1, e2⟩ := List.mem_filter.1 e
    exact ((h.cl _ ih).resolve_left (by simp)) _ e1 (by simpa using e2)
structure frI (B : Hp) (q3 rs n : Nat) (N : Nat → List Nat) (a : Nat) (w : Int) (m : Nat) (s' : CA) (H' : Hp) : Prop where
  ex : ∃ (s : Nat → Bool) (todo : List Nat) (v : CV), m = cnt n s + todo.length ∧ cnt n s + todo.length ≤ n ∧ s'.env 2 = .int .i64 w ∧ s'.env 3 = .ptr q3 0 ∧ s'.env 7 = .ref rs 0 n n ∧ s'.env 8 = v ∧ s'.ds = [] ∧ FI N a w n s todo ∧ QO (B.set rs (.cells (boolC n s))) H' v (natL todo)
structure frJ (B : Hp) (q3 rs n b M : Nat) (N : Nat → List Nat) (a : Nat) (w : Int) (d : Nat) (m : Nat) (s' : CA) (H' : Hp) : Prop where
  ex : ∃ (i i10 : Nat) (s : Nat → Bool) (todo : List Nat) (v : CV), m = (N b).length - i ∧ i ≤ (N b).length ∧ cnt n s + todo.length + 1 ≤ M ∧ s'.env 2 = .int .i64 w ∧ s'.env 3 = .ptr q3 0 ∧ s'.env 7 = .ref rs 0 n n ∧ s'.env 8 = v ∧ s'.env 9 = .int .i64 b ∧ s'.env 10 = .int .i64 i10 ∧ i10 + d = i ∧ s'.ds = [] ∧ FJ N a w n b i s todo ∧ QO (B.set rs (.cells (boolC n s))) H' v (natL todo)
structure frX (B : Hp) (rs n : Nat) (N : Nat → List Nat) (a : Nat) (w : Int) (s' : CA) (H' : Hp) : Prop where
  ex : ∃ (s : Nat → Bool), s'.env 7 = .ref rs 0 n n ∧ s'.ds = [] ∧ (∀ x, s x = true ↔ RchW N w a x) ∧ Le (B.set rs (.cells (boolC n s))) H'
end Go.Cl.Gd
set_option linter.unusedSimpArgs false
set_option linter.unusedVariables false
namespace Go.Cl.Gd
open Go.Proofs
variable {W : World} {G : Nat → CV}
set_option maxRecDepth 8000
/-- The list of a block's ways, as the reference makes it. -/
def refE (k : UBlk) (i : Nat) : List Int := (k.ops.take i).foldl (fun l o => if o.kind = 21 then addL o.n l else l) []
def refG (k : UBlk) (l : List Int) : List Int := if k.en.kind = 1 ∨ k.en.kind = 2 then addL k.en.to l else l
def refH (k : UBlk) (l : List Int) : List Int := if k.en.kind = 2 then addL k.en.els l else l
def refC (p : Nat → Bool) (k : UBlk) (l : List Int) : List Int := if mayAny p k = true ∧ 0 ≤ k.catch_ then addL k.catch_ l else l
def refL (p : Nat → Bool) (k : UBlk) : List Int := refC p k (refH k (refG k (refE k k.ops.length)))
theorem refE_succ {k : UBlk} {i : Nat} {o : UOp} (h : k.ops[i]? = some o) : refE k (i + 1) = if o.kind = 21 then addL o.n (refE k i) else refE k i := by
  obtain ⟨hi, he⟩ := List.getElem?_eq_some_iff.1 h
  simp only [refE]
  rw [List.take_succ_eq_append_getElem hi, he, List.foldl_append]
  rfl
theorem refE_mem {k : UBlk} {x : Int} : ∀ {i : Nat}, i ≤ k.ops.length → (x ∈ refE k i ↔ ∃ o ∈ k.ops.take i, o.kind = 21 ∧ o.n = x)
  | 0, _ => by simp [refE]
  | i + 1, hi => by
    have ho : k.ops[i]? = some k.ops[i] := List.getElem?_eq_getElem (by omega)
    have ht : k.ops.take (i + 1) = k.ops.take i ++ [k.ops[i]] := List.take_succ_eq_append_getElem (by omega)
    have ih := refE_mem (k := k) (x := x) (i := i) (by omega)
    rw [refE_succ ho]
    by_cases h : (k.ops[i]).kind = 21
    · rw [if_pos h, addL_mem, ih]
      constructor
      · rintro (e | ⟨o, h1, h2⟩)
        · exact ⟨k.ops[i], by rw [ht]; exact List.mem_append_right _ (List.mem_singleton.2 rfl), h, e.symm⟩
        · exact ⟨o, by rw [ht]; exact List.mem_append_left _ h1, h2⟩
      · rintro ⟨o, h1, h2, h3⟩
        rw [ht] at h1
        rcases List.mem_append.1 h1 with h1 | h1
        · exact .inr ⟨o, h1, h2, h3⟩
        · simp at h1; subst h1; exact .inl h3.symm
    · rw [if_neg h, ih]
      constructor
      · rintro ⟨o, h1, h2⟩; exact ⟨o, by rw [ht]; exact List.mem_append_left _ h1, h2⟩
      · rintro ⟨o, h1, h2, h3⟩
        rw [ht] at h1
        rcases List.mem_append.1 h1 with h1 | h1
        · exact ⟨o, h1, h2, h3⟩
        · simp at h1; subst h1; exact absurd h2 h
theorem refE_len {k : UBlk} : ∀ {i : Nat}, i ≤ k.ops.length → (refE k i).length ≤ i
  | 0, _ => by simp [refE]
  | i + 1, hi => by
    have ho : k.ops[i]? = some k.ops[i] := List.getElem?_eq_getElem (by omega)
    have ih := refE_len (k := k) (i := i) (by omega)
    rw [refE_succ ho]
    split
    · have := addL_len (n := (k.ops[i]).n) (l := refE k i); omega
    · omega
theorem refG_len {k : UBlk} {l : List Int} : (refG k l).length ≤ l.length + 1 := by
  simp only [refG]; split
  · exact addL_len
  · omega
theorem refH_len {k : UBlk} {l : List Int} : (refH k l).length ≤ l.length + 1 := by
  simp only [refH]; split
  · exact addL_len
  · omega
theorem refL_mem {p : Nat → Bool} {k : UBlk} {x : Int} : x ∈ refL p k ↔ x ∈ waysL p k := by
  have h1 : ∀ l, x ∈ refC p k l ↔ x ∈ caughtL p k ∨ x ∈ l := fun l => by
    simp only [refC, caughtL]
    by_cases h : mayAny p k = true ∧ 0 ≤ k.catch_
    · rw [if_pos h, if_pos ⟨h.2, h.1⟩, addL_mem]; simp
    · rw [if_neg h, if_neg (fun q => h ⟨q.2, q.1⟩)]; simp
  have h2 : ∀ l, x ∈ refH k (refG k l) ↔ x ∈ goesL k.en ∨ x ∈ l := fun l => by
    simp only [refH, refG, goesL]
    by_cases e1 : k.en.kind = 1
    · simp [e1, addL_mem]
    · by_cases e2 : k.en.kind = 2
      · simp [e2, addL_mem]
        constructor
        · rintro (h | h | h) <;> simp [h]
        · rintro ((h | h) | h) <;> simp [h]
      · simp [e1, e2]
  simp only [refL, waysL, List.mem_append]
  rw [h1, h2, refE_mem (Nat.le_refl _), List.take_length]
  have h3 : x ∈ exitsL k ↔ ∃ o ∈ k.ops, o.kind = 21 ∧ o.n = x := by
    simp only [exitsL, List.mem_map, List.mem_filter, decide_eq_true_eq]
    constructor
    · rintro ⟨o, ⟨a, b⟩, c⟩; exact ⟨o, a, b, c⟩
    · rintro ⟨o, a, b, c⟩; exact ⟨o, ⟨a, b⟩, c⟩
  rw [h3]
  constructor
  · rintro (h | h | h) <;> simp [h]
  · rintro (h | h | h) <;> simp [h]
theorem addL_rise {n : Int} : ∀ {l : List Int}, l.Pairwise (· < ·) → (addL n l).Pairwise (· < ·)
  | [], _ => by simp [addL]
  | x :: t, h => by
    obtain ⟨hx, ht⟩ := List.pairwise_cons.1 h
    simp only [addL]
    split
    · split
      · rename_i h1 h2
        exact List.pairwise_cons.2 ⟨fun y hy => by rcases List.mem_cons.1 hy with rfl | hy; exact h2; exact Int.lt_trans h2 (hx _ hy), h⟩
      · exact h
    · rename_i h1
      refine List.pairwise_cons.2 ⟨fun y hy => ?_, addL_rise ht⟩
      rcases addL_mem.1 hy with rfl | hy
      · omega
      · exact hx _ hy
theorem refL_rise {p : Nat → Bool} {k : UBlk} : (refL p k).Pairwise (· < ·) := by
  have h1 : ∀ {l : List Int}, l.Pairwise (· < ·) → (refG k l).Pairwise (· < ·) := fun h => by simp only [refG]; split; exact addL_rise h; exact h
  have h2 : ∀ {l : List Int}, l.Pairwise (· < ·) → (refH k l).Pairwise (· < ·) := fun h => by simp only [refH]; split; exact addL_rise h; exact h
  have h3 : ∀ {l : List Int}, l.Pairwise (· < ·) → (refC p k l).Pairwise (· < ·) := fun h => by simp only [refC]; split; exact addL_rise h; exact h
  have h0 : ∀ (l : List UOp) (a : List Int), a.Pairwise (· < ·) → (l.foldl (fun l o => if o.kind = 21 then addL o.n l else l) a).Pairwise (· < ·) := by
    intro l
    induction l with
    | nil => exact fun a h => h
    | cons o l ih =>
      intro a h
      simp only [List.foldl_cons]
      split
      · exact ih _ (addL_rise h)
      · exact ih _ h
  exact h3 (h2 (h1 (h0 _ _ List.Pairwise.nil)))
theorem natL_toNat : ∀ {l : List Int}, (∀ x ∈ l, 0 ≤ x) → natL (l.map Int.toNat) = l
  | [], _ => rfl
  | x :: l, h => by
    have h1 := h x (by simp)
    have h2 := natL_toNat (l := l) fun y hy => h y (by simp [hy])
    simp only [natL, List.map_cons] at h2 ⊢
    rw [h2]
    congr 1
    omega
def refN (u : UUnit) (p : Nat → Bool) (b : Nat) : List Nat := match u.blocks[b]? with
  | some k => (refL p k).map Int.toNat
  | none => []
theorem refN_mem {u : UUnit} (hu : wfU u = true) {p : Nat → Bool} {b x : Nat} : x ∈ refN u p b ↔ x ∈ nextN u p b := by
  simp only [refN, nextN]
  cases hk : u.blocks[b]? with
  | none => simp
  | some k =>
    simp only [List.mem_map, List.mem_filter, List.mem_range]
    constructor
    · rintro ⟨y, h1, rfl⟩
      rw [refL_mem] at h1
      have h2 := ways_lt hu hk y h1
      refine ⟨by omega, ?_⟩
      rw [← ways_mem (u := u), show (y.toNat : Int) = y by omega]
      exact h1
    · rintro ⟨h1, h2⟩
      exact ⟨x, refL_mem.2 (ways_mem.2 h2), by simp⟩
theorem natL_inj : ∀ {l m : List Nat}, natL l = natL m → l = m
  | [], [], _ => rfl
  | [], y :: m, h => by simp [natL] at h
  | x :: l, [], h => by simp [natL] at h
  | x :: l, y :: m, h => by
    simp only [natL, List.map_cons, List.cons.injEq] at h
    rw [natL_inj (l := l) (m := m) h.2]
    congr 1
    exact Int.ofNat.inj h.1
theorem refN_eq {u : UUnit} (hu : wfU u = true) {p : Nat → Bool} : refN u p = nextN u p := by
  funext b
  refine natL_inj (rise_ext ?_ ?_ fun x => ?_)
  · cases hk : u.blocks[b]? with
    | none => simp [refN, hk, natL]
    | some k =>
      have : natL (refN u p b) = refL p k := by
        simp only [refN, hk]
        exact natL_toNat fun x hx => (ways_lt hu hk x (refL_mem.1 hx)).1
      rw [this]
      exact refL_rise
  · cases hk : u.blocks[b]? with
    | none => simp [nextN, hk, natL]
    | some k =>
      simp only [nextN, hk, natL]
      rw [List.pairwise_map]
      exact (List.pairwise_lt_range.filter _).imp fun h => Int.ofNat_lt.2 h
  · simp only [natL, List.mem_map]
    constructor
    · rintro ⟨y, h, rfl⟩; exact ⟨y, (refN_mem hu).1 h, rfl⟩
    · rintro ⟨y, h, rfl⟩; exact ⟨y, (refN_mem hu).2 h, rfl⟩
theorem Rch.congr {N M : Nat → List Nat} {a b : Nat} (h : ∀ b x, x ∈ N b → x ∈ M b) (k : Rch N a b) : Rch M a b := by
  induction k with
  | refl => exact .refl
  | step _ e ih => exact .step ih (h _ _ e)
theorem refN_lt {u : UUnit} (hu : wfU u = true) {p : Nat → Bool} : ∀ b, b < u.blocks.length → ∀ k ∈ refN u p b, k < u.blocks.length := fun b hb k hk => nextN_lt b hb k ((refN_mem hu).1 hk)
theorem refL_len {p : Nat → Bool} {k : UBlk} : (refL p k).length ≤ k.ops.length + 3 := by
  have h1 := refE_len (k := k) (Nat.le_refl _)
  have h2 := refG_len (k := k) (l := refE k k.ops.length)
  have h3 := refH_len (k := k) (l := refG k (refE k k.ops.length))
  simp only [refL, refC]
  split
  · have := addL_len (n := k.catch_) (l := refH k (refG k (refE k k.ops.length))); omega
  · omega
end Go.Cl.Gd
set_option linter.unusedSimpArgs false
set_option linter.unusedVariables false
namespace Go.Cl.Gd
open Go.Proofs
variable {W : World} {G : Nat → CV}
set_option maxRecDepth 8000
set_option maxHeartbeats 2000000
/-- The graph on the way: X lies still; the lists' table grows. -/
structure RW (X H : Hp) (q4 i : Nat) (N : Nat → List Nat) (vN : CV) (vs : List CV) : Prop where
  xq : X q4 = none
  vl : vs.length = i
  nx : ∀ b, b < i → ∃ v, vs[b]? = some v ∧ SlF X v (natL (N b))
  ow : Own (X.set q4 (.cells [vN, .nilsl])) H vN 1 (vs.map fun v => [v])
structure RX (X H0 : Hp) (u : UUnit) (p : Nat → Bool) (q1 q2 : Nat) (vt : CV) : Prop where
  le : Le H0 X
  uu : X q1 = some (.cells (unitC u))
  m2 : X q2 = some (.cells [.nilsl, .nilsl])
  z2 : H0 q2 = none
  th : ∃ r c cs, vt = .ref r 0 u.blocks.length c ∧ X r = some (.cells cs) ∧ ∀ (b : Nat) (k : UBlk), u.blocks[b]? = some k → cs[b]? = some (.bool (mayAny p k))
theorem RX.more {X X' H0 : Hp} {u : UUnit} {p : Nat → Bool} {q1 q2 : Nat} {vt : CV} (h : RX X H0 u p q1 q2 vt) (hl : Le X X') : RX X' H0 u p q1 q2 vt := by
  obtain ⟨r, c, cs, h1, h2, h3⟩ := h.th
  exact ⟨h.le.trans hl, hl _ _ h.uu, hl _ _ h.m2, h.z2, r, c, cs, h1, hl _ _ h2, h3⟩
theorem RW.le {X H : Hp} {q4 i : Nat} {N : Nat → List Nat} {vN : CV} {vs : List CV} (h : RW X H q4 i N vN vs) : Le X H := (Le.set_new h.xq).trans h.ow.le
structure roI (H0 : Hp) (u : UUnit) (p : Nat → Bool) (q1 q2 q4 : Nat) (vt : CV) (d : Nat) (m : Nat) (s' : CA) (H' : Hp) : Prop where
  ex : ∃ (i i5 : Nat) (X : Hp) (vN : CV) (vs : List CV), m = u.blocks.length - i ∧ i ≤ u.blocks.length ∧ s'.env 1 = .ptr q1 0 ∧ s'.env 2 = .ptr q2 0 ∧ s'.env 3 = vt ∧ s'.env 4 = .ptr q4 0 ∧ s'.env 5 = .int .i64 i5 ∧ i5 + d = i ∧ s'.ds = [] ∧ RX X H0 u p q1 q2 vt ∧ RW X H' q4 i (refN u p) vN vs
structure roE (H0 : Hp) (u : UUnit) (p : Nat → Bool) (q1 q2 q4 : Nat) (vt : CV) (s' : CA) (H' : Hp) : Prop where
  ex : ∃ (X : Hp) (vN : CV) (vs : List CV), s'.env 2 = .ptr q2 0 ∧ s'.env 4 = .ptr q4 0 ∧ s'.ds = [] ∧ RX X H0 u p q1 q2 vt ∧ RW X H' q4 u.blocks.length (refN u p) vN vs
structure roS (q1 q2 q4 q6 i : Nat) (vt : CV) (Hs : Hp) (l : List Int) (s' : CA) (H' : Hp) : Prop where
  ex : ∃ v, s'.env 1 = .ptr q1 0 ∧ s'.env 2 = .ptr q2 0 ∧ s'.env 3 = vt ∧ s'.env 4 = .ptr q4 0 ∧ s'.env 5 = .int .i64 i ∧ s'.env 6 = .ptr q6 0 ∧ s'.env 7 = v ∧ s'.ds = [] ∧ Own Hs H' v 1 (ints l)
structure roJ (q1 q2 q4 q6 i : Nat) (vt : CV) (Hs : Hp) (k : UBlk) (d : Nat) (m : Nat) (s' : CA) (H' : Hp) : Prop where
  ex : ∃ (j j8 : Nat), m = k.ops.length - j ∧ j ≤ k.ops.length ∧ s'.env 8 = .int .i64 j8 ∧ j8 + d = j ∧ roS q1 q2 q4 q6 i vt Hs (refE k j) s' H'
theorem one_flat : ∀ vs : List CV, (vs.map fun v => [v]).flatten = vs
  | [] => rfl
  | x :: l => by rw [List.map_cons, List.flatten_cons, one_flat l]; rfl
/-- Rows of numbers: the ways from each block. -/
def RowsN (H : Hp) (v : CV) (n : Nat) (N : Nat → List Nat) : Prop := ∃ rn cn cs, v = .ref rn 0 n cn ∧ n ≤ cn ∧ H rn = some (.cells cs) ∧ ∀ b, b < n → ∃ w, cs[b]? = some w ∧ SlF H w (natL (N b))
theorem SlF.putNil {H : Hp} {v : CV} {l : List Int} {q : Nat} {t cs : List CV} (h : SlF H v l) (hq : H q = some (.cells (.nilsl :: t))) : SlF (H.set q (.cells cs)) v l := by
  rcases h with h | ⟨r, c, ds, h1, h2, h3⟩
  · exact .inl h
  · by_cases e : r = q
    · subst e
      rw [hq] at h2
      injection h2 with h2
      injection h2 with h2
      subst h2
      cases l with
      | nil => exact .inr ⟨r, c, cs, h1, set_at, fun k x hk => by simp at hk⟩
      | cons y l => have := h3 0 y rfl; simp at this
    · exact .inr ⟨r, c, ds, h1, by rw [hset_ne e]; exact h2, h3⟩
end Go.Cl.Gd
set_option linter.unusedSimpArgs false
set_option linter.unusedVariables false
namespace Go.Cl.Gd
open Go.Proofs
variable {W : World} {G : Nat → CV}
set_option maxRecDepth 8000
set_option maxHeartbeats 2000000
def refMB (u : UUnit) (p : Nat → Bool) (I : Nat → Nat → Bool) (k : UBlk) (j : Nat) : List Nat := (List.range j).map fun t => (upto (beforeP u p I k (k.ops.drop t)) u.regs.toNat).length
def refM1 (u : UUnit) (p : Nat → Bool) (I : Nat → Nat → Bool) (s : Nat → Bool) (b : Nat) : List Nat := match u.blocks[b]? with
  | some k => if s b then refMB u p I k (k.ops.length + 1) else []
  | none => []
def refML (u : UUnit) (p : Nat → Bool) (I : Nat → Nat → Bool) (s : Nat → Bool) (i : Nat) : List Nat := (List.range i).flatMap (refM1 u p I s)
theorem refML_succ {u : UUnit} {p : Nat → Bool} {I : Nat → Nat → Bool} {s : Nat → Bool} {i : Nat} : refML u p I s (i + 1) = refML u p I s i ++ refM1 u p I s i := by simp [refML, List.range_succ]
theorem refMB_succ {u : UUnit} {p : Nat → Bool} {I : Nat → Nat → Bool} {k : UBlk} {j : Nat} : refMB u p I k (j + 1) = refMB u p I k j ++ [(upto (beforeP u p I k (k.ops.drop j)) u.regs.toNat).length] := by simp [refMB, List.range_succ]
structure RMB (B : Hp) (u : UUnit) (p : Nat → Bool) (I : Nat → Nat → Bool) (s : Nat → Bool) (q1 lp rs : Nat) : Prop where
  uu : B q1 = some (.cells (unitC u))
  rs : B rs = some (.cells (boolC u.blocks.length s))
  lr : ∃ rp ri ci σ ex, LR B lp rp ri ci σ ex u p I
structure rmI (B : Hp) (u : UUnit) (p : Nat → Bool) (I : Nat → Nat → Bool) (s : Nat → Bool) (q1 lp rs : Nat) (d : Nat) (m : Nat) (s' : CA) (H' : Hp) : Prop where
  ex : ∃ (i i6 : Nat), m = u.blocks.length - i ∧ i ≤ u.blocks.length ∧ s'.env 1 = .ptr q1 0 ∧ s'.env 3 = .ptr lp 0 ∧ s'.env 4 = .ref rs 0 u.blocks.length u.blocks.length ∧ s'.env 5 = .int .i64 (maxL (refML u p I s i)) ∧ s'.env 6 = .int .i64 i6 ∧ i6 + d = i ∧ s'.ds = [] ∧ Le B H'
structure rmJ (B : Hp) (u : UUnit) (p : Nat → Bool) (I : Nat → Nat → Bool) (s : Nat → Bool) (q1 lp rs i : Nat) (k : UBlk) (d : Nat) (m : Nat) (s' : CA) (H' : Hp) : Prop where
  ex : ∃ (j j7 : Nat), m = k.ops.length + 1 - j ∧ j ≤ k.ops.length + 1 ∧ (0 < j → s i = true) ∧ s'.env 1 = .ptr q1 0 ∧ s'.env 3 = .ptr lp 0 ∧ s'.env 4 = .ref rs 0 u.blocks.length u.blocks.length ∧ s'.env 5 = .int .i64 (maxL (refML u p I s i ++ refMB u p I k j)) ∧ s'.env 6 = .int .i64 i ∧ s'.env 7 = .int .i64 j7 ∧ j7 + d = j ∧ s'.ds = [] ∧ Le B H'
end Go.Cl.Gd
