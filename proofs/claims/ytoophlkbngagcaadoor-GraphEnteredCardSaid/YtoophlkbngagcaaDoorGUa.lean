/- DERIVED HERE. The program's Copy of a unit that lies in blocks. DERIVED HERE. code.Copy: the copied blocks lie apart from the copied sizes. DERIVED HERE. The graph's New, where the unit lies in blocks: its order alone. DERIVED HERE. The reference's walk and its order. DERIVED HERE. Plain: the shapes of branches, and who is alone after whom. DERIVED HERE. Plain: what is done again and again, and why it ends. DERIVED HERE. Plain: the chapter's example of guards. DERIVED HERE. The guard's open: how often blocks are gone to. DERIVED HERE. The guard's alone. -/
import Derived.Test.YtoophlkbngagcaaDoorCP
import Derived.Test.YtoophlkbngagcaaDoorGR
import Derived.Test.YtoophlkbngagcaaDoorTAq
import Derived.Test.YtoophlkbngagcaaDoorRQ
set_option linter.unusedSimpArgs false
set_option linter.unusedVariables false
namespace Go.Cl.Gu
open Go.Proofs Go.Cl.Gd
variable {W : World} {G : Nat → CV}
set_option maxRecDepth 8000
theorem flat_take_all {sz : Nat} {xs : List (List CV)} {ex : List CV} (h : ∀ e ∈ xs, e.length = sz) : ((xs.flatten ++ ex).drop 0).take (xs.length * sz) = xs.flatten := by
  rw [List.drop_zero, ← flat_len h, List.take_append_of_le_length (Nat.le_refl _), List.take_length]
theorem cloneI_o (hX : CxOk (cx W G)) {l : List Int} {v : CV} (hl : l.length ≤ 1000000) {B H : Hp} (h : Own B H v 1 (ints l)) : CC Tryd.prog W 44 [v] H fun x H' => ∃ v', x = .ret v' ∧ Own H H' v' 1 (ints l) := by
  obtain ⟨_, hz, ⟨rfl, h0⟩ | ⟨r, c, ex, rfl, _, hr, _, _⟩⟩ := h
  · obtain rfl : l = [] := by simpa [ints] using h0
    exact (cloneI_nil hX H).mono fun x H' ⟨h1, h2⟩ => ⟨_, h1, by rw [h2]; exact Own.nil (Le.refl _)⟩
  · rw [ints_flat] at hr
    rw [show (ints l).length = l.length by simp [ints]]
    exact cloneI_c hX l r c ex hl H hr
/-- Rows of blocks; the operations of the first i lie in memory that H0 doesn't know, each apart; the others' lie in H0. -/
structure RowsB (H0 H : Hp) (cs : List CV) (bs : List UBlk) (i : Nat) : Prop where
  row : ∀ (j : Nat) k, bs[j]? = some k → ∃ x0, (cs.drop (j * 6)).take 6 = x0 :: blkT k ∧ (j < i → Own H0 H x0 7 (k.ops.map opC)) ∧ (i ≤ j → Own E0 H0 x0 7 (k.ops.map opC))
  ap : ∀ (j j' r o n c r' o' n' c' : Nat), j < j' → j' < i → cs[j * 6]? = some (.ref r o n c) → cs[j' * 6]? = some (.ref r' o' n' c') → r ≠ r'
/-- Blocks in fresh memory. -/
def BlkN (H0 H : Hp) (v : CV) (bs : List UBlk) : Prop := (v = .nilsl ∧ bs = []) ∨ ∃ r c cs, v = .ref r 0 bs.length c ∧ bs.length ≤ c ∧ H0 r = none ∧ H r = some (.cells cs) ∧ RowsB H0 (hole H r) cs bs bs.length
theorem BlkN.r {H0 H : Hp} {v : CV} {bs : List UBlk} (h : BlkN H0 H v bs) : BlkR H v bs := by
  rcases h with h | ⟨r, c, cs, h1, _, _, h2, h3⟩
  · exact .inl h
  · exact .inr ⟨r, c, cs, h1, h2, fun j k hk => by obtain ⟨x0, a, b, _⟩ := h3.row j k hk; exact ⟨x0, a, ((b (List.getElem?_eq_some_iff.1 hk).1).mono hole_le).bare⟩⟩
theorem rows_flat {cs : List CV} : ∀ {n : Nat}, n * 6 ≤ cs.length → ∃ ex, cs = ((List.range n).map fun j => (cs.drop (j * 6)).take 6).flatten ++ ex := by
  intro n
  induction n with
  | zero => exact fun _ => ⟨cs, rfl⟩
  | succ n ih =>
    intro h
    obtain ⟨ex, he⟩ := ih (by omega)
    refine ⟨cs.drop ((n + 1) * 6), ?_⟩
    rw [List.range_succ, List.map_append, List.flatten_append]
    simp only [List.map_cons, List.map_nil, List.flatten_cons, List.flatten_nil, List.append_nil]
    have hlen : (((List.range n).map fun j => (cs.drop (j * 6)).take 6).flatten).length = n * 6 := by
      rw [flat_len (sz := 6) (fun e he => by
        simp only [List.mem_map, List.mem_range] at he
        obtain ⟨j, hj, rfl⟩ := he
        simp
        omega)]
      simp
    have hex : ex = cs.drop (n * 6) := by
      have h2 : ((((List.range n).map fun j => (cs.drop (j * 6)).take 6).flatten) ++ ex).drop (((List.range n).map fun j => (cs.drop (j * 6)).take 6).flatten).length = ex := List.drop_left
      rw [← he, hlen] at h2
      exact h2.symm
    rw [List.append_assoc, show cs.drop ((n + 1) * 6) = (cs.drop (n * 6)).drop 6 by rw [List.drop_drop]; congr 1; omega, List.take_append_drop, ← hex]
    exact he
theorem put_set {cs : List CV} {m : Nat} {x : CV} (h : m < cs.length) : cs.take m ++ x :: cs.drop (m + 1) = cs.set m x := by
  rw [List.set_eq_take_append_cons_drop, if_pos h]
theorem row_other {cs : List CV} {i j : Nat} {x : CV} (h : j ≠ i) : ((cs.set (i * 6) x).drop (j * 6)).take 6 = (cs.drop (j * 6)).take 6 := by
  apply List.ext_getElem?
  intro t
  simp only [List.getElem?_take, List.getElem?_drop, List.getElem?_set]
  split
  · rw [if_neg (by omega)]
  · rfl
theorem row_same {cs : List CV} {i : Nat} {x y : CV} {l : List CV} (hl : i * 6 < cs.length) (h : (cs.drop (i * 6)).take 6 = y :: l) : ((cs.set (i * 6) x).drop (i * 6)).take 6 = x :: l := by
  apply List.ext_getElem?
  intro t
  have ht := congrArg (fun l : List CV => l[t]?) h
  simp only [List.getElem?_take, List.getElem?_drop, List.getElem?_set] at ht ⊢
  cases t with
  | zero => simp [hl]
  | succ t =>
    rw [List.getElem?_cons_succ] at ht ⊢
    rw [← ht]
    by_cases h6 : t + 1 < 6
    · simp only [h6, if_true]
      rw [if_neg (by omega)]
    · simp only [h6, if_false]
theorem row_head {cs l : List CV} {j : Nat} {x0 : CV} (h : (cs.drop (j * 6)).take 6 = x0 :: l) : cs[j * 6]? = some x0 := by
  have := congrArg (fun l : List CV => l[0]?) h
  simpa [List.getElem?_take, List.getElem?_drop] using this
/-- One row's operations, cloned. -/
theorem RowsB.step {H0 H H' : Hp} {r : Nat} {cs : List CV} {bs : List UBlk} {i : Nat} {k : UBlk} {x : CV} (h : RowsB H0 (hole H r) cs bs i) (hk : bs[i]? = some k) (hl : bs.length * 6 ≤ cs.length) (hle : Le H H') (h0 : Le H0 H) (hr0 : H0 r = none) (hr : H r ≠ none) (hx : Own H H' x 7 (k.ops.map opC)) :
    RowsB H0 (hole H' r) (cs.set (i * 6) x) bs (i + 1) := by
  have hi := (List.getElem?_eq_some_iff.1 hk).1
  have hhole : Le (hole H r) (hole H' r) := fun y o hy => by
    by_cases e : y = r
    · simp [hole, e] at hy
    · simp only [hole, if_neg e] at hy ⊢
      exact hle _ _ hy
  have hx' : Own H0 (hole H' r) x 7 (k.ops.map opC) := by
    obtain ⟨a, b, c⟩ := hx
    refine ⟨le_hole (h0.trans hle) hr0, b, ?_⟩
    rcases c with c | ⟨q, n, ex, e1, e2, e3, e4⟩
    · exact .inl c
    · have hqr : q ≠ r := fun e => hr (by rw [← e]; exact e2)
      exact .inr ⟨q, n, ex, e1, h0.none e2, by simp only [hole, if_neg hqr]; exact e3, e4⟩
  refine ⟨fun j k' hk' => ?_, fun j j' ra o n c ra' o' n' c' h1 h2 h3 h4 => ?_⟩
  · obtain ⟨x0, a, b, c⟩ := h.row j k' hk'
    by_cases e : j = i
    · subst e
      rw [hk] at hk'
      injection hk' with hk'
      subst hk'
      exact ⟨x, row_same (by omega) a, fun _ => hx', fun q => by omega⟩
    · exact ⟨x0, by rw [row_other e]; exact a, fun q => (b (by omega)).mono hhole, fun q => c (by omega)⟩
  · have hj : j < i := by omega
    rw [List.getElem?_set, if_neg (by omega)] at h3
    by_cases e : j' = i
    · subst e
      rw [List.getElem?_set, if_pos rfl, if_pos (by omega)] at h4
      injection h4 with h4
      subst h4
      obtain ⟨x0, a, b, _⟩ := h.row j bs[j] (List.getElem?_eq_getElem (by omega))
      rw [row_head a] at h3
      injection h3 with h3
      subst h3
      obtain ⟨_, _, ⟨hc, _⟩ | ⟨q, n2, ex, e1, e2, e3, _⟩⟩ := b hj
      · cases hc
      obtain ⟨_, _, ⟨hc, _⟩ | ⟨q', n3, ex', e1', e2', _⟩⟩ := hx
      · cases hc
      injection e1 with e1 _ _ _
      injection e1' with e1' _ _ _
      subst e1
      subst e1'
      intro e
      subst e
      simp only [hole] at e3
      split at e3
      · cases e3
      · rw [e2'] at e3; cases e3
    · rw [List.getElem?_set, if_neg (by omega)] at h4
      exact h.ap j j' ra o n c ra' o' n' c' h1 (by omega) h3 h4
theorem hole_set_le {H : Hp} {r q : Nat} {o : Ob} (h : q ≠ r) : Le ((hole H r).set q o) (hole (H.set q o) r) := fun x ob hx => by
  by_cases e : x = q
  · subst e
    rw [set_at] at hx
    simp only [hole, if_neg h]
    rw [set_at]
    exact hx
  · rw [hset_ne e] at hx
    by_cases e2 : x = r
    · simp [hole, e2] at hx
    · simp only [hole, if_neg e2] at hx ⊢
      rw [hset_ne e]
      exact hx
theorem hole_set_self {H : Hp} {r : Nat} {o : Ob} : hole (H.set r o) r = hole H r := by
  funext x
  by_cases e : x = r
  · simp [hole, e]
  · simp only [hole, if_neg e]
    exact hset_ne e
theorem hole_mono {H H' : Hp} {r : Nat} (h : Le H H') : Le (hole H r) (hole H' r) := fun y o hy => by
  by_cases e : y = r
  · simp [hole, e] at hy
  · simp only [hole, if_neg e] at hy ⊢
    exact h _ _ hy
end Go.Cl.Gu
set_option linter.unusedSimpArgs false
set_option linter.unusedVariables false
namespace Go.Cl.Gu
open Go.Proofs Go.Cl.Gd
variable {W : World} {G : Nat → CV}
set_option maxRecDepth 8000
set_option maxHeartbeats 1000000
theorem _root_.Go.Cl.Own.ne_base {H0 H : Hp} {v : CV} {sz : Nat} {xs : List (List CV)} (h : Own H0 H v sz xs) {q : Nat} (hq : H0 q ≠ none) : ∀ n c, v ≠ .ref q 0 n c := by
  intro n c e
  obtain ⟨_, _, ⟨rfl, _⟩ | ⟨r, c', ex, rfl, h2, _⟩⟩ := h
  · cases e
  · injection e with e; subst e; exact hq h2
structure cqI (H0 : Hp) (u : UUnit) (q1 q2 r c : Nat) (v0 : CV) (d m : Nat) (s' : CA) (H' : Hp) : Prop where
  ex : ∃ (i i15 : Nat) (ds : List CV), m = u.blocks.length - i ∧ i ≤ u.blocks.length ∧ s'.env 1 = .ptr q1 0 ∧ s'.env 2 = .ptr q2 0 ∧ s'.env 14 = .int .i64 u.blocks.length ∧ s'.env 15 = .int .i64 i15 ∧ i15 + d = i ∧ s'.ds = [] ∧ Le H0 H' ∧
    H' q1 = some (.cells [v0, ci u.params, ci u.regs, ci u.code, ci u.spill, .ref r 0 u.blocks.length c]) ∧ H' q2 = some (.cells [.nilsl, .int .i64 0, .int .i64 0, .int .i64 0, .int .i64 0, .nilsl]) ∧ H' r = some (.cells ds) ∧ u.blocks.length * 6 ≤ ds.length ∧ RowsB H0 (hole H' r) ds u.blocks i
structure cqX (H0 : Hp) (u : UUnit) (q1 q2 r c : Nat) (v0 : CV) (s' : CA) (H' : Hp) : Prop where
  ex : ∃ (ds : List CV), s'.env 1 = .ptr q1 0 ∧ s'.env 2 = .ptr q2 0 ∧ s'.ds = [] ∧ Le H0 H' ∧ H' q1 = some (.cells [v0, ci u.params, ci u.regs, ci u.code, ci u.spill, .ref r 0 u.blocks.length c]) ∧ H' q2 = some (.cells [.nilsl, .int .i64 0, .int .i64 0, .int .i64 0, .int .i64 0, .nilsl]) ∧ H' r = some (.cells ds) ∧ RowsB H0 (hole H' r) ds u.blocks u.blocks.length
end Go.Cl.Gu
set_option linter.unusedSimpArgs false
set_option linter.unusedVariables false
namespace Go.Cl.Gd
open Go.Proofs
variable {W : World} {G : Nat → CV}
set_option maxRecDepth 8000
/-- What New answers: a graph whose order is known. -/
def NewR (u : UUnit) (x : CE) (H' : Hp) : Prop := ∃ gp cs ro co p c, x = .ret (.ptr gp 0) ∧ PLeast (opsOf u) p c ∧ H' gp = some (.cells cs) ∧ cs.length = 5 ∧ cs[2]? = some (.ref ro 0 (ordL (nextN u p) u.blocks.length).length co) ∧ SlF H' (.ref ro 0 (ordL (nextN u p) u.blocks.length).length co) (natL (ordL (nextN u p) u.blocks.length))
theorem gnew_f (hX : CxOk (cx W G)) (hG : G 0 = .iptr formsC) {u : UUnit} (hu : wfU u = true) {H : Hp} {cs : List CV} (hf : Fz H (.agg cs) (.agg (unitC u))) : CC Tryd.prog W 26 [.agg cs] H fun x H' => (∃ gp cs ro co p c, x = .ret (.ptr gp 0) ∧ PLeast (opsOf u) p c ∧ H' gp = some (.cells cs) ∧ cs.length = 5 ∧ cs[2]? = some (.ref ro 0 (ordL (nextN u p) u.blocks.length).length co) ∧ SlF H' (.ref ro 0 (ordL (nextN u p) u.blocks.length).length co) (natL (ordL (nextN u p) u.blocks.length)) ∧ H ro = none) ∧ Le H H' := by
  refine (CC.freeze3 (args' := [.agg (unitC u)]) (R := NewR u) (by rfl) (fz1 hf) (by rintro x H' ⟨gp, cs, ro, co, p, c, rfl, _⟩; exact .ptr _ _) fun w hw => ?_).mono ?_
  · refine (gnew_c (W := w) (CxOk.later hX hw) hG u hu _).mono ?_
    rintro x H' ⟨gp, p, c, rn, rb, ro, ri, rk, co, ns, bs, ex, I, rfl, hp, h⟩
    refine ⟨gp, _, ro, co, p, c, rfl, hp, h.g, rfl, rfl, ?_⟩
    have := nums_slF (r := ro) (c := co) (by rw [natL_len]; exact h.co) h.o
    rwa [natL_len] at this
  · rintro x H2 ⟨H', ⟨gp, cs, ro, co, p, c, rfl, h1, h2, h3, h4, h5⟩, h7, h8, h9⟩
    exact ⟨⟨gp, _, ro, co, p, c, rfl, h1, h8 _ _ (wkH_at h2), by simpa using h3, by rw [List.getElem?_map, h4]; rfl, h5.wk.mono h8, h9 ro (by
      rcases h5 with ⟨h, _⟩ | ⟨r, c', ds, h, hr, _⟩
      · cases h
      · injection h with h
        subst h
        rw [wkH_at hr]
        simp)⟩, h7⟩
end Go.Cl.Gd
set_option linter.unusedSimpArgs false
set_option linter.unusedVariables false
namespace Go.Cl.Gd
open Go.Proofs
variable {W : World} {G : Nat → CV}
set_option maxRecDepth 8000
/-- The ways from each block, frozen. -/
def gN (n : Nat) (N : Nat → List Nat) : CV := .sl 1 ((List.range n).map fun b => [CV.sl 1 (ints (natL (N b)))])
theorem RowsN.fz {H : Hp} {v : CV} {n : Nat} {N : Nat → List Nat} (h : RowsN H v n N) : Fz H v (gN n N) := by
  obtain ⟨rn, cn, cs, rfl, hc, hr, hb⟩ := h
  refine .ref rn 0 n cn 1 cs _ hr (by simp) hc (fun i e he => ?_) (fun i _ => cs.getD i .any) (fun i j hi hj => ?_) (fun i j e x he hx => ?_)
  · obtain ⟨k, _, rfl⟩ := List.mem_map.1 (List.mem_of_getElem? he); rfl
  · obtain rfl : j = 0 := by omega
    obtain ⟨w, h1, _⟩ := hb i hi
    rw [show 0 + (i * 1 + 0) = i by omega, h1, List.getD_eq_getElem?_getD, h1]
    rfl
  · have hi : i < n := by have := (List.getElem?_eq_some_iff.1 he).1; simpa using this
    rw [List.getElem?_map, List.getElem?_range hi] at he
    injection he with he
    subst he
    obtain ⟨w, h1, h2⟩ := hb i hi
    rw [List.getD_eq_getElem?_getD, h1]
    cases j with
    | zero => simp at hx; subst hx; exact h2.fz
    | succ j => simp at hx
structure wrI (B : Hp) (n q q4 b : Nat) (N : Nat → List Nat) (f : Nat) (l : List Nat) (s1 : Nat → Bool) (out : List Nat) (d m : Nat) (s' : CA) (H' : Hp) : Prop where
  ex : ∃ (i i9 : Nat) (v : CV), m = l.length - i ∧ i ≤ l.length ∧ s'.env 1 = .int .i64 b ∧ s'.env 2 = .ref q 0 n n ∧ s'.env 3 = v ∧ s'.env 4 = .ptr q4 0 ∧ s'.env 9 = .int .i64 i9 ∧ i9 + d = i ∧ s'.ds = [] ∧ Own (B.set q (.cells (boolC n (visL N f (l.take i) (s1, out)).1))) H' v 1 (ints (natL (visL N f (l.take i) (s1, out)).2))
structure wrX (B : Hp) (n q b : Nat) (N : Nat → List Nat) (f : Nat) (l : List Nat) (s1 : Nat → Bool) (out : List Nat) (s' : CA) (H' : Hp) : Prop where
  ex : ∃ v, s'.env 1 = .int .i64 b ∧ s'.env 3 = v ∧ s'.ds = [] ∧ Own (B.set q (.cells (boolC n (visL N f l (s1, out)).1))) H' v 1 (ints (natL (visL N f l (s1, out)).2))
structure orI (H1 : Hp) (d : List Nat) (dv : CV) (dd m : Nat) (s' : CA) (H' : Hp) : Prop where
  ex : ∃ (t t5 : Nat) (v : CV), m = d.length - t ∧ t ≤ d.length ∧ s'.env 3 = dv ∧ s'.env 4 = v ∧ s'.env 5 = .int .i64 ((d.length : Int) - 1 - t5) ∧ t5 + dd = t ∧ s'.ds = [] ∧ Own H1 H' v 1 (ints (natL (d.reverse.take t)))
structure orX (H1 : Hp) (d : List Nat) (s' : CA) (H' : Hp) : Prop where
  ex : ∃ (v : CV), s'.env 4 = v ∧ s'.ds = [] ∧ Own H1 H' v 1 (ints (natL d.reverse))
end Go.Cl.Gd
set_option linter.unusedSimpArgs false
set_option linter.unusedVariables false
namespace Go.Cl.Gu
open Go.Cl.Gd
/-- Where a block goes: by Exits, its End, its Catch. -/
def goN (k : UBlk) : List Nat := ((k.ops.filter fun o => decide (o.kind = 21)).map fun o => o.n.toNat) ++ (goesL k.en).map Int.toNat ++ (if 0 ≤ k.catch_ then [k.catch_.toNat] else [])
/-- How often a block is gone to by the blocks of a list. -/
def waysN (u : UUnit) (ord : List Nat) (t : Nat) : Nat := (ord.flatMap fun i => goN (blkAt u i)).count t
def aloneB (u : UUnit) (ord : List Nat) (t x : Nat) : Bool := decide (x ∈ ord) && (decide (t ≠ 0) && (decide (t ≠ x) && (decide (waysN u ord t = 1) && decide ((blkAt u t).catch_ = (blkAt u x).catch_))))
theorem flat_count {ord : List Nat} {f : Nat → List Nat} {x : Nat} (hn : ord.Nodup) (hx : x ∈ ord) (t : Nat) : (ord.flatMap f).count t = (f x).count t + ((ord.erase x).flatMap f).count t := by
  have h := (List.perm_cons_erase hx).flatMap_right f
  rw [h.count_eq]
  simp [List.count_append]
theorem ways_one {u : UUnit} {ord : List Nat} {t x : Nat} (hn : ord.Nodup) (hx : x ∈ ord) (ht : t ∈ goN (blkAt u x)) : waysN u ord t = 1 ↔ (∀ i ∈ ord, i ≠ x → t ∉ goN (blkAt u i)) ∧ (goN (blkAt u x)).count t = 1 := by
  have hc : 0 < (goN (blkAt u x)).count t := List.count_pos_iff.2 ht
  rw [waysN, flat_count hn hx]
  constructor
  · intro h
    have h0 : ((ord.erase x).flatMap fun i => goN (blkAt u i)).count t = 0 := by omega
    refine ⟨fun i hi hix hti => ?_, by omega⟩
    rw [List.count_eq_zero] at h0
    exact h0 (List.mem_flatMap.2 ⟨i, (hn.mem_erase_iff).2 ⟨hix, hi⟩, hti⟩)
  · rintro ⟨h1, h2⟩
    have h0 : ((ord.erase x).flatMap fun i => goN (blkAt u i)).count t = 0 := by
      rw [List.count_eq_zero]
      intro h
      obtain ⟨i, hi, hti⟩ := List.mem_flatMap.1 h
      obtain ⟨hix, hi⟩ := (hn.mem_erase_iff).1 hi
      exact h1 i hi hix hti
    omega
/-- The reference's. -/
def refAloneB (u : UUnit) (ord : List Nat) (t x : Nat) : Bool := decide (t ≠ 0 ∧ t ≠ x ∧ (blkAt u t).catch_ = (blkAt u x).catch_ ∧ x ∈ ord ∧ (∀ i ∈ ord, i ≠ x → t ∉ goN (blkAt u i)) ∧ (goN (blkAt u x)).count t = 1 ∧ t ∈ (goesL (blkAt u x).en).map Int.toNat)
theorem alone_eq {u : UUnit} {ord : List Nat} {t x : Nat} (hn : ord.Nodup) (ht : t ∈ (goesL (blkAt u x).en).map Int.toNat) : refAloneB u ord t x = aloneB u ord t x := by
  have ht2 : t ∈ goN (blkAt u x) := by
    simp only [goN, List.mem_append]
    exact .inl (.inr ht)
  rw [Bool.eq_iff_iff]
  simp only [refAloneB, aloneB, Bool.and_eq_true, decide_eq_true_eq]
  constructor
  · rintro ⟨h1, h2, h3, h4, h5, h6, _⟩
    exact ⟨h4, h1, h2, (ways_one hn h4 ht2).2 ⟨h5, h6⟩, h3⟩
  · rintro ⟨h4, h1, h2, h5, h3⟩
    obtain ⟨h5, h6⟩ := (ways_one hn h4 ht2).1 h5
    exact ⟨h1, h2, h3, h4, h5, h6, ht⟩
/-- The shape at a block: its kind, its sides, the meeting. -/
structure Shp where
  kind : Int
  to : Int
  or_ : Int
  meet : Int
  deriving DecidableEq
def noShp : Shp := ⟨0, -1, -1, -1⟩
def shapeP (u : UUnit) (ord : List Nat) (x : Nat) : Shp :=
  let e := (blkAt u x).en
  if e.kind ≠ 2 ∨ e.to = e.els then noShp else
  let a := (blkAt u e.to.toNat).en
  let b := (blkAt u e.els.toNat).en
  let f := aloneB u ord e.to.toNat x && decide (a.kind = 1)
  let s := aloneB u ord e.els.toNat x && decide (b.kind = 1)
  if f = true ∧ s = true ∧ a.to = b.to then ⟨1, e.to, e.els, a.to⟩
  else if f = true ∧ a.to = e.els then ⟨2, e.to, -1, e.els⟩
  else if s = true ∧ b.to = e.to then ⟨3, -1, e.els, e.to⟩
  else noShp
/-- The operations of a side. -/
def sideOps (u : UUnit) (t : Int) : List UOp := if t < 0 then [] else (blkAt u t.toNat).ops
def sizeP (u : UUnit) (ord : List Nat) (x : Nat) : Nat := (sideOps u (shapeP u ord x).to).length + (sideOps u (shapeP u ord x).or_).length
/-- A side's operations, guarded; the number of registers then. -/
def sideP (guard zero : Int) : List UOp → Int → List UOp × Int
  | [], regs => ([], regs)
  | o :: l, regs => if o.guard = -1 then let r := sideP guard zero l regs; ({ o with guard := guard } :: r.1, r.2)
    else let r := sideP guard zero l (regs + 1); (⟨12, regs, guard, o.guard, zero, 0, -1⟩ :: { o with guard := regs } :: r.1, r.2)
def fourOps (a regs : Int) : List UOp := [⟨22, 0, a, 0, 0, 0, -1⟩, ⟨2, regs, a, 0, 0, 0, -1⟩, ⟨1, regs + 1, 0, 0, 0, 0, -1⟩, ⟨11, regs + 2, regs, regs + 1, 0, 0, -1⟩]
/-- The unit with the guarded form of a block. -/
def convP (u : UUnit) (ord : List Nat) (x : Nat) : UUnit :=
  let s := shapeP u ord x
  let k := blkAt u x
  let r1 := sideP u.regs (u.regs + 1) (sideOps u s.to) (u.regs + 3)
  let r2 := sideP (u.regs + 2) (u.regs + 1) (sideOps u s.or_) r1.2
  { u with regs := r2.2, blocks := u.blocks.set x ⟨k.ops ++ fourOps k.en.a u.regs ++ r1.1 ++ r2.1, ⟨1, 0, s.meet, 0⟩, k.catch_⟩ }
/-- The block after another one, with it. -/
def follB (u : UUnit) (ord : List Nat) (x : Nat) : Bool := decide ((blkAt u x).en.kind = 1) && aloneB u ord (blkAt u x).en.to.toNat x
def joinP (u : UUnit) (x : Nat) : UUnit :=
  let k := blkAt u x
  let t := blkAt u k.en.to.toNat
  { u with blocks := u.blocks.set x ⟨k.ops ++ t.ops, t.en, k.catch_⟩ }
end Go.Cl.Gu
set_option linter.unusedSimpArgs false
set_option linter.unusedVariables false
namespace Go.Cl.Gu
open Go.Cl.Gd
/-- The order of a unit's reached blocks. -/
noncomputable def ordC (u : UUnit) : List Nat := open Classical in if h : ∃ p c, PLeast (opsOf u) p c then ordL (nextN u h.choose) u.blocks.length else []
theorem ordC_eq {u : UUnit} {p c : Nat → Bool} (h : PLeast (opsOf u) p c) : ordL (nextN u p) u.blocks.length = ordC u := by
  have h' : ∃ p c, PLeast (opsOf u) p c := ⟨p, c, h⟩
  rw [ordC, dif_pos h']
  obtain ⟨c', hc⟩ := h'.choose_spec
  rw [(h.unique hc).1]
theorem pleast_ex (ops : List UOp) : ∃ p c, PLeast ops p c := by
  classical
  refine ⟨fun r => decide (∀ p' c', PCl ops p' c' → p' r = true), fun r => decide (∀ p' c', PCl ops p' c' → c' r = true), fun o ho => ?_, fun p' c' hc => ⟨fun r h => by simp only [decide_eq_true_eq] at h; exact h p' c' hc, fun r h => by simp only [decide_eq_true_eq] at h; exact h p' c' hc⟩⟩
  simp only [spreadN, Bool.and_eq_false_iff, Bool.not_eq_false']
  by_cases hb : badP o (fun r => decide (∀ p' c', PCl ops p' c' → p' r = true)) (fun r => decide (∀ p' c', PCl ops p' c' → c' r = true)) = true
  · refine .inr ?_
    have key : ∀ p' c', PCl ops p' c' → (if o.kind = 19 then c' o.n.toNat else p' o.dst.toNat) = true := fun p' c' hc => by
      have h1 := badP_mono (o := o) (p' := p') (c' := c') (fun r h => by simp only [decide_eq_true_eq] at h; exact h p' c' hc) (fun r h => by simp only [decide_eq_true_eq] at h; exact h p' c' hc) hb
      have h2 := hc o ho
      simp only [spreadN, h1, Bool.true_and, Bool.not_eq_false'] at h2
      exact h2
    split
    · rename_i hk
      simp only [hk, if_true] at key
      exact decide_eq_true key
    · rename_i hk
      simp only [hk, if_false] at key
      exact decide_eq_true key
  · exact .inl (by simpa using hb)
theorem ordC_r {u : UUnit} (hw : 0 < u.blocks.length) {p c : Nat → Bool} (h : PLeast (opsOf u) p c) : (ordC u).Nodup ∧ (∀ b ∈ ordC u, b < u.blocks.length) ∧ ∀ b, b ∈ ordC u ↔ Rch (nextN u p) 0 b := by
  have hO := ord_of (N := nextN u p) hw nextN_lt (f := u.blocks.length) (Nat.le_refl _)
  rw [← ordC_eq h]
  exact ⟨hO.nd, hO.lt, hO.mem⟩
/-- The first step that a unit lets. -/
def firstS (f : UUnit → Nat → Option UUnit) (u : UUnit) : Option UUnit := (List.range u.blocks.length).findSome? (f u)
inductive AgR (f : UUnit → Nat → Option UUnit) : UUnit → UUnit → Prop
  | stop {u : UUnit} (h : firstS f u = none) : AgR f u u
  | go {u v w : UUnit} (h : firstS f u = some v) (k : AgR f v w) : AgR f u w
theorem AgR.det {f : UUnit → Nat → Option UUnit} {u v w : UUnit} (h : AgR f u v) (k : AgR f u w) : v = w := by
  induction h with
  | stop h => cases k with
    | stop => rfl
    | go h' _ => rw [h] at h'; cases h'
  | go h _ ih => cases k with
    | stop h' => rw [h] at h'; cases h'
    | go h' k => rw [h] at h'; injection h' with e; subst e; exact ih k
theorem AgR.stop_eq {f : UUnit → Nat → Option UUnit} {u v : UUnit} (h : AgR f u v) : firstS f v = none := by
  induction h with
  | stop h => exact h
  | go _ _ ih => exact ih
/-- A way to u from which it goes on. -/
theorem AgR.back {f : UUnit → Nat → Option UUnit} {u v : UUnit} (P : ∀ w, AgR f v w → AgR f u w) {x : UUnit} (h : firstS f v = some x) : ∀ w, AgR f x w → AgR f u w := fun w k => P w (.go h k)
noncomputable def stepAll (size : Int) (u : UUnit) (x : Nat) : Option UUnit := if (shapeP u (ordC u) x).kind ≠ 0 ∧ (sizeP u (ordC u) x : Int) ≤ size ∧ errU (convP u (ordC u) x) = 0 then some (convP u (ordC u) x) else none
noncomputable def stepJoin (u : UUnit) (x : Nat) : Option UUnit := if follB u (ordC u) x = true ∧ errU (joinP u x) = 0 then some (joinP u x) else none
theorem first_some {f : UUnit → Nat → Option UUnit} {u v : UUnit} (h : firstS f u = some v) : ∃ x, x < u.blocks.length ∧ f u x = some v := by
  obtain ⟨x, hx, h⟩ := List.exists_of_findSome?_eq_some h
  exact ⟨x, by simpa using hx, h⟩
/-- What has been looked at: no step before n. -/
theorem first_at {f : UUnit → Nat → Option UUnit} {u v : UUnit} {n : Nat} (hn : n < u.blocks.length) (h0 : ∀ x, x < n → f u x = none) (h : f u n = some v) : firstS f u = some v := by
  obtain ⟨k, hk⟩ : ∃ k, u.blocks.length = n + (k + 1) := ⟨u.blocks.length - n - 1, by omega⟩
  have e1 : ((List.range n).findSome? (f u)) = none := by
    rw [List.findSome?_eq_none_iff]
    exact fun x hx => h0 x (by simpa using hx)
  rw [firstS, hk, List.range_add, List.findSome?_append, e1, List.range_succ_eq_map]
  simp [h]
theorem first_none {f : UUnit → Nat → Option UUnit} {u : UUnit} (h0 : ∀ x, x < u.blocks.length → f u x = none) : firstS f u = none := by
  rw [firstS, List.findSome?_eq_none_iff]
  exact fun x hx => h0 x (by simpa using hx)
/-! ### Convert takes a branch away -/
def brN (u : UUnit) : Nat := u.blocks.countP fun k => decide (k.en.kind = 2)
theorem blkAt_get {u : UUnit} {x : Nat} (hx : x < u.blocks.length) : u.blocks[x]? = some (blkAt u x) := by rw [blkAt, List.getD_eq_getElem?_getD, List.getElem?_eq_getElem hx]; rfl
theorem countP_set {α : Type} {p : α → Bool} {l : List α} {x : Nat} {a b : α} (h : l[x]? = some a) (ha : p a = true) (hb : p b = false) : (l.set x b).countP p + 1 = l.countP p := by
  induction l generalizing x with
  | nil => simp at h
  | cons c l ih =>
    cases x with
    | zero => simp at h; subst h; simp [List.countP_cons, ha, hb]
    | succ x =>
      simp at h
      have := ih h
      simp only [List.set_cons_succ, List.countP_cons]
      omega
theorem conv_br {u : UUnit} {ord : List Nat} {x : Nat} (hx : x < u.blocks.length) (hk : (blkAt u x).en.kind = 2) : brN (convP u ord x) + 1 = brN u := by
  simp only [brN, convP]
  exact countP_set (blkAt_get hx) (by simp [hk]) (by simp)
theorem shape_br {u : UUnit} {ord : List Nat} {x : Nat} (h : (shapeP u ord x).kind ≠ 0) : (blkAt u x).en.kind = 2 := by
  refine Decidable.byContradiction fun hn => h ?_
  simp [shapeP, hn, noShp]
theorem all_falls {size : Int} {u v : UUnit} (h : firstS (stepAll size) u = some v) : brN v + 1 = brN u ∧ errU v = 0 ∧ v.sizes = u.sizes ∧ v.blocks.length = u.blocks.length := by
  obtain ⟨x, hx, h⟩ := first_some h
  simp only [stepAll] at h
  split at h
  · rename_i hc
    injection h with h
    subst h
    exact ⟨conv_br hx (shape_br hc.1), hc.2.2, rfl, by simp [convP]⟩
  · cases h
/-! ### Join takes a reached block away -/
theorem joinP_blk {u : UUnit} {x b : Nat} (hx : x < u.blocks.length) : blkAt (joinP u x) b = if b = x then ⟨(blkAt u x).ops ++ (blkAt u (blkAt u x).en.to.toNat).ops, (blkAt u (blkAt u x).en.to.toNat).en, (blkAt u x).catch_⟩ else blkAt u b := by
  simp only [joinP]
  generalize hN : (⟨(blkAt u x).ops ++ (blkAt u (blkAt u x).en.to.toNat).ops, (blkAt u (blkAt u x).en.to.toNat).en, (blkAt u x).catch_⟩ : UBlk) = N
  rw [blkAt, List.getD_eq_getElem?_getD, List.getElem?_set]
  split
  · rename_i h; subst h; simp [hx]
  · rename_i h; rw [if_neg (Ne.symm h), blkAt, List.getD_eq_getElem?_getD]
theorem mem_ops {u : UUnit} {o : UOp} : o ∈ opsOf u ↔ ∃ b, b < u.blocks.length ∧ o ∈ (blkAt u b).ops := by
  simp only [opsOf, List.mem_flatMap]
  constructor
  · rintro ⟨k, hk, ho⟩
    obtain ⟨b, hb⟩ := List.getElem?_of_mem hk
    have hl := (List.getElem?_eq_some_iff.1 hb).1
    rw [blkAt_get hl] at hb
    injection hb with hb
    exact ⟨b, hl, by rw [hb]; exact ho⟩
  · rintro ⟨b, hb, ho⟩
    exact ⟨_, List.mem_of_getElem? (blkAt_get hb), ho⟩
theorem join_ops {u : UUnit} {x : Nat} (hx : x < u.blocks.length) (ht : (blkAt u x).en.to.toNat < u.blocks.length) (o : UOp) : o ∈ opsOf (joinP u x) ↔ o ∈ opsOf u := by
  rw [mem_ops, mem_ops]
  have hl : (joinP u x).blocks.length = u.blocks.length := by simp [joinP]
  rw [hl]
  constructor
  · rintro ⟨b, hb, ho⟩
    rw [joinP_blk hx] at ho
    split at ho
    · rcases List.mem_append.1 ho with h | h
      · exact ⟨x, hx, h⟩
      · exact ⟨_, ht, h⟩
    · exact ⟨b, hb, ho⟩
  · rintro ⟨b, hb, ho⟩
    by_cases e : b = x
    · subst e
      exact ⟨b, hb, by rw [joinP_blk hx, if_pos rfl]; exact List.mem_append_left _ ho⟩
    · exact ⟨b, hb, by rw [joinP_blk hx, if_neg e]; exact ho⟩
theorem pleast_ops {l l' : List UOp} {p c : Nat → Bool} (h : PLeast l p c) (he : ∀ o, o ∈ l' ↔ o ∈ l) : PLeast l' p c :=
  ⟨fun o ho => h.1 o ((he o).1 ho), fun p' c' hc => h.2 p' c' fun o ho => hc o ((he o).2 ho)⟩
theorem mem_next {u : UUnit} {p : Nat → Bool} {b t : Nat} (hb : b < u.blocks.length) : t ∈ nextN u p b ↔ t < u.blocks.length ∧ (t : Int) ∈ Gd.waysL p (blkAt u b) := by
  rw [nextN, blkAt_get hb]
  simp only [List.mem_filter, List.mem_range]
  rw [ways_mem (u := u)]
/-- The ways with an error are those of goN. -/
theorem ways_goN {p : Nat → Bool} {k : UBlk} {t : Nat} (h : (t : Int) ∈ Gd.waysL p k) : t ∈ goN k := by
  simp only [Gd.waysL, List.mem_append] at h
  simp only [goN, List.mem_append]
  rcases h with h | h | h
  · refine .inl (.inl ?_)
    simp only [exitsL, List.mem_map] at h ⊢
    obtain ⟨o, ho, e⟩ := h
    exact ⟨o, ho, by rw [e]; rfl⟩
  · exact .inl (.inr (List.mem_map.2 ⟨_, h, rfl⟩))
  · refine .inr ?_
    simp only [caughtL] at h
    split at h
    · rename_i hc
      simp at h
      rw [if_pos hc.1]
      simp [← h]
    · simp at h
theorem may_app {p : Nat → Bool} {a b : List UOp} {e e' : UEnd} {c c' : Int} (he : e.kind = 1) : mayAny p ⟨a ++ b, e', c⟩ = (mayAny p ⟨a, e, c⟩ || mayAny p ⟨b, e', c'⟩) := by
  have : mayEnd p e = false := by simp [mayEnd, he]
  simp only [mayAny, this, List.any_append, Bool.false_or]
  cases mayEnd p e' <;> cases a.any (mayTrap p) <;> cases b.any (mayTrap p) <;> rfl
structure JnF (u : UUnit) (x t : Nat) : Prop where
  lx : x < u.blocks.length
  lt : t < u.blocks.length
  k : (blkAt u x).en.kind = 1
  to : (blkAt u x).en.to = t
  xo : x ∈ ordC u
  t0 : t ≠ 0
  tx : t ≠ x
  only : ∀ i ∈ ordC u, i ≠ x → t ∉ goN (blkAt u i)
  one : (goN (blkAt u x)).count t = 1
  ct : (blkAt u t).catch_ = (blkAt u x).catch_
theorem jnF_of {u : UUnit} (hu : wfU u = true) {p c : Nat → Bool} (hp : PLeast (opsOf u) p c) {x : Nat} (hx : x < u.blocks.length) (hf : follB u (ordC u) x = true) : JnF u x (blkAt u x).en.to.toNat := by
  obtain ⟨f1, f2, f3, f4, f5, f6, f7, f8, f9, f10, f11⟩ := wfU_facts hu
  obtain ⟨hn, hlt, hm⟩ := ordC_r (by omega) hp
  simp only [follB, Bool.and_eq_true, decide_eq_true_eq] at hf
  obtain ⟨hk, ha⟩ := hf
  obtain ⟨g1, g2, g3, g4⟩ := wfB_facts hu (blkAt_get hx)
  have w4 := (wfE_facts g4).2.2.2.1 (.inl hk)
  have hg : (blkAt u x).en.to.toNat ∈ (goesL (blkAt u x).en).map Int.toNat := by simp [goesL, hk]
  rw [← alone_eq hn hg] at ha
  simp only [refAloneB, decide_eq_true_eq] at ha
  obtain ⟨a1, a2, a3, a4, a5, a6, _⟩ := ha
  exact ⟨hx, by omega, hk, by omega, a4, a1, a2, a5, a6, a3⟩
theorem JnF.last {u : UUnit} {x t : Nat} (h : JnF u x t) : t ∉ ((blkAt u x).ops.filter fun o => decide (o.kind = 21)).map fun o => o.n.toNat := by
  have h1 := h.one
  have hg : (goesL (blkAt u x).en).map Int.toNat = [t] := by simp [goesL, h.k, h.to]
  rw [goN, hg, List.count_append, List.count_append] at h1
  simp at h1
  have h2 : List.count t (((blkAt u x).ops.filter fun o => decide (o.kind = 21)).map fun o => o.n.toNat) = 0 := by omega
  exact List.count_eq_zero.1 h2
theorem JnF.way {u : UUnit} {x t : Nat} (h : JnF u x t) (p : Nat → Bool) : (t : Int) ∈ Gd.waysL p (blkAt u x) := by
  simp [Gd.waysL, goesL, h.k, h.to]
theorem nodup_sub : ∀ {l m : List Nat}, l.Nodup → l ⊆ m → l.length ≤ m.length
  | [], _, _, _ => Nat.zero_le _
  | a :: l, m, hn, hs => by
    obtain ⟨h1, h2⟩ := List.nodup_cons.1 hn
    have ha := hs (List.mem_cons_self ..)
    have h3 := nodup_sub (m := m.erase a) h2 fun x hx => (List.mem_erase_of_ne (fun e => h1 (by rw [← e]; exact hx))).2 (hs (List.mem_cons_of_mem _ hx))
    have h4 := List.length_erase_of_mem ha
    have h5 := List.length_pos_of_mem ha
    simp only [List.length_cons]
    omega
theorem JnF.catch {u : UUnit} {x t : Nat} (h : JnF u x t) : ¬((blkAt u x).catch_ = t) := by
  have h1 := h.one
  have hg : (goesL (blkAt u x).en).map Int.toNat = [t] := by simp [goesL, h.k, h.to]
  rw [goN, hg, List.count_append, List.count_append] at h1
  intro hc
  simp [hc] at h1
/-- Where the joined block goes: where the two went, but not to the second. -/
theorem JnF.ways {u : UUnit} {x t : Nat} (h : JnF u x t) (hu : wfU u = true) (p : Nat → Bool) (y : Nat) : (y : Int) ∈ Gd.waysL p ⟨(blkAt u x).ops ++ (blkAt u t).ops, (blkAt u t).en, (blkAt u x).catch_⟩ ↔ ((y : Int) ∈ Gd.waysL p (blkAt u x) ∧ y ≠ t) ∨ (y : Int) ∈ Gd.waysL p (blkAt u t) := by
  obtain ⟨g1, g2, g3, g4⟩ := wfB_facts hu (blkAt_get h.lx)
  have f3 := (wfU_facts hu).2.2.1
  have hl := h.last
  have hc := h.catch
  simp only [Gd.waysL, List.mem_append]
  have e1 : (y : Int) ∈ exitsL ⟨(blkAt u x).ops ++ (blkAt u t).ops, (blkAt u t).en, (blkAt u x).catch_⟩ ↔ (y : Int) ∈ exitsL (blkAt u x) ∨ (y : Int) ∈ exitsL (blkAt u t) := by
    simp [exitsL, or_and_right, exists_or]
  have e2 : (y : Int) ∈ goesL (blkAt u x).en ↔ y = t := by
    simp only [goesL, h.k, if_true, List.mem_singleton, h.to]
    omega
  have e3 : (y : Int) ∈ caughtL p ⟨(blkAt u x).ops ++ (blkAt u t).ops, (blkAt u t).en, (blkAt u x).catch_⟩ ↔ (y : Int) ∈ caughtL p (blkAt u x) ∨ (y : Int) ∈ caughtL p (blkAt u t) := by
    have hm := may_app (p := p) (a := (blkAt u x).ops) (b := (blkAt u t).ops) (e := (blkAt u x).en) (e' := (blkAt u t).en) (c := (blkAt u x).catch_) (c' := (blkAt u t).catch_) h.k
    have e1 : (⟨(blkAt u x).ops, (blkAt u x).en, (blkAt u x).catch_⟩ : UBlk) = blkAt u x := rfl
    have e2 : (⟨(blkAt u t).ops, (blkAt u t).en, (blkAt u t).catch_⟩ : UBlk) = blkAt u t := rfl
    rw [e1, e2] at hm
    simp only [caughtL, hm, Bool.or_eq_true, h.ct]
    by_cases h0 : 0 ≤ (blkAt u x).catch_
    · cases mayAny p (blkAt u x) <;> cases mayAny p (blkAt u t) <;> simp [h0]
    · simp [h0]
  have e4 : (y : Int) ∈ exitsL (blkAt u x) → y ≠ t := by
    rintro hy rfl
    apply hl
    simp only [exitsL, List.mem_map] at hy ⊢
    obtain ⟨o, ho, e⟩ := hy
    exact ⟨o, ho, by rw [e]; rfl⟩
  have e5 : (y : Int) ∈ caughtL p (blkAt u x) → y ≠ t := by
    rintro hy rfl
    apply hc
    simp only [caughtL] at hy
    split at hy
    · simp at hy; exact hy.symm
    · simp at hy
  rw [e1, e3, e2]
  constructor
  · rintro ((a | a) | a | a | a)
    · exact .inl ⟨.inl a, e4 a⟩
    · exact .inr (.inl a)
    · exact .inr (.inr (.inl a))
    · exact .inl ⟨.inr (.inr a), e5 a⟩
    · exact .inr (.inr (.inr a))
  · rintro (⟨a | a | a, b⟩ | a | a | a)
    · exact .inl (.inl a)
    · exact absurd a b
    · exact .inr (.inr (.inl a))
    · exact .inl (.inr a)
    · exact .inr (.inl a)
    · exact .inr (.inr (.inr a))
/-- Joined, the same blocks are reached but for the second. -/
theorem join_reach {u : UUnit} (hu : wfU u = true) {p c : Nat → Bool} (hp : PLeast (opsOf u) p c) {x t : Nat} (h : JnF u x t) : PLeast (opsOf (joinP u x)) p c ∧ ∀ b, b ∈ ordC (joinP u x) ↔ b ∈ ordC u ∧ b ≠ t := by
  obtain ⟨f1, f2, f3, f4, f5, f6, f7, f8, f9, f10, f11⟩ := wfU_facts hu
  obtain ⟨hn, hlt, hm⟩ := ordC_r (by omega) hp
  have hto : (blkAt u x).en.to.toNat = t := by rw [h.to]; rfl
  have hp' : PLeast (opsOf (joinP u x)) p c := pleast_ops hp (join_ops h.lx (by rw [hto]; exact h.lt))
  have hl : (joinP u x).blocks.length = u.blocks.length := by simp [joinP]
  obtain ⟨hn', hlt', hm'⟩ := ordC_r (u := joinP u x) (by omega) hp'
  have hblk : ∀ b, blkAt (joinP u x) b = if b = x then ⟨(blkAt u x).ops ++ (blkAt u t).ops, (blkAt u t).en, (blkAt u x).catch_⟩ else blkAt u b := fun b => by rw [joinP_blk h.lx, hto]
  have htr : t ∈ ordC u := (hm t).2 (.step ((hm x).1 h.xo) ((mem_next h.lx).2 ⟨h.lt, h.way p⟩))
  have hnt : ∀ b ∈ ordC u, b ≠ x → (t : Int) ∉ Gd.waysL p (blkAt u b) := fun b hb hbx hw => h.only b hb hbx (ways_goN hw)
  have hw := h.ways hu p
  refine ⟨hp', fun b => ⟨fun hb => ?_, fun ⟨hb, hbt⟩ => ?_⟩⟩
  · have hb := (hm' b).1 hb
    induction hb with
    | refl => exact ⟨(hm 0).2 .refl, Ne.symm h.t0⟩
    | step hy k ih =>
      rename_i y z
      obtain ⟨iy, it⟩ := ih ((hm' y).2 hy)
      have hyl := hlt y iy
      obtain ⟨hzl, hz⟩ := (mem_next (u := joinP u x) (by omega)).1 k
      rw [hl] at hzl
      rw [hblk] at hz
      split at hz
      · rename_i e
        subst e
        rcases (hw z).1 hz with ⟨a, b⟩ | a
        · exact ⟨(hm z).2 (.step ((hm y).1 iy) ((mem_next hyl).2 ⟨hzl, a⟩)), b⟩
        · exact ⟨(hm z).2 (.step ((hm t).1 htr) ((mem_next h.lt).2 ⟨hzl, a⟩)), fun e => by rw [e] at a; exact hnt t htr h.tx a⟩
      · rename_i e
        exact ⟨(hm z).2 (.step ((hm y).1 iy) ((mem_next hyl).2 ⟨hzl, hz⟩)), fun e' => by rw [e'] at hz; exact hnt y iy e hz⟩
  · have hb := (hm b).1 hb
    have key : ∀ b, Rch (nextN u p) 0 b → (b ≠ t → Rch (nextN (joinP u x) p) 0 b) ∧ (b = t → Rch (nextN (joinP u x) p) 0 x) := by
      intro b hb
      induction hb with
      | refl => exact ⟨fun _ => .refl, fun e => absurd e (Ne.symm h.t0)⟩
      | step hy k ih =>
        rename_i y z
        have iy := (hm y).2 hy
        have hyl := hlt y iy
        obtain ⟨hzl, hz⟩ := (mem_next hyl).1 k
        constructor
        · intro hzt
          by_cases e : y = t
          · refine .step (ih.2 e) ((mem_next (u := joinP u x) (by rw [hl]; exact h.lx)).2 ⟨by rw [hl]; exact hzl, ?_⟩)
            rw [hblk, if_pos rfl]
            exact (hw z).2 (.inr (by rw [← e]; exact hz))
          · refine .step (ih.1 e) ((mem_next (u := joinP u x) (by rw [hl]; exact hyl)).2 ⟨by rw [hl]; exact hzl, ?_⟩)
            rw [hblk]
            split
            · rename_i e2
              exact (hw z).2 (.inl ⟨by rw [← e2]; exact hz, hzt⟩)
            · exact hz
        · rintro rfl
          by_cases e : y = x
          · have h9 := ih.1 (by rw [e]; exact Ne.symm h.tx)
            rw [e] at h9
            exact h9
          · exact absurd hz (hnt y iy e)
    exact (hm' b).2 ((key b hb).1 hbt)
theorem join_falls {u v : UUnit} (hu : wfU u = true) {p c : Nat → Bool} (hp : PLeast (opsOf u) p c) (h : firstS stepJoin u = some v) : (ordC v).length < (ordC u).length ∧ errU v = 0 ∧ v.sizes = u.sizes ∧ v.blocks.length = u.blocks.length := by
  obtain ⟨f1, f2, f3, f4, f5, f6, f7, f8, f9, f10, f11⟩ := wfU_facts hu
  obtain ⟨x, hx, h⟩ := first_some h
  simp only [stepJoin] at h
  split at h
  · rename_i hc
    injection h with h
    subst h
    have hJ := jnF_of hu hp hx hc.1
    obtain ⟨hp', hr⟩ := join_reach hu hp hJ
    obtain ⟨hn, hlt, hm⟩ := ordC_r (by omega) hp
    obtain ⟨hn', _, _⟩ := ordC_r (u := joinP u x) (by simp [joinP]; omega) hp'
    refine ⟨?_, hc.2, rfl, by simp [joinP]⟩
    have hto : (blkAt u x).en.to.toNat ∈ ordC u := (hm _).2 (.step ((hm x).1 hJ.xo) ((mem_next hx).2 ⟨hJ.lt, hJ.way p⟩))
    have hsub : ordC (joinP u x) ⊆ (ordC u).erase (blkAt u x).en.to.toNat := fun b hb => by
      obtain ⟨h1, h2⟩ := (hr b).1 hb
      exact (hn.mem_erase_iff).2 ⟨h2, h1⟩
    have h1 := nodup_sub hn' hsub
    have h2 := List.length_erase_of_mem hto
    have h3 := List.length_pos_of_mem hto
    omega
  · cases h
end Go.Cl.Gu
set_option linter.unusedSimpArgs false
set_option linter.unusedVariables false
namespace Go.Cl.Gu
open Go.Cl.Gd
def exU : UUnit := ⟨[], 2, 2, 0, 0, [⟨[], ⟨2, 0, 1, 2⟩, -1⟩, ⟨[⟨3, 1, 1, 0, 0, 0, -1⟩], ⟨1, 0, 3, 0⟩, -1⟩, ⟨[], ⟨1, 0, 3, 0⟩, -1⟩, ⟨[], ⟨3, 1, 0, 0⟩, -1⟩]⟩
def exV : UUnit := ⟨[], 2, 5, 0, 0, [⟨[⟨22, 0, 0, 0, 0, 0, -1⟩, ⟨2, 2, 0, 0, 0, 0, -1⟩, ⟨1, 3, 0, 0, 0, 0, -1⟩, ⟨11, 4, 2, 3, 0, 0, -1⟩, ⟨3, 1, 1, 0, 0, 0, 2⟩], ⟨1, 0, 3, 0⟩, -1⟩, ⟨[⟨3, 1, 1, 0, 0, 0, -1⟩], ⟨1, 0, 3, 0⟩, -1⟩, ⟨[], ⟨1, 0, 3, 0⟩, -1⟩, ⟨[], ⟨3, 1, 0, 0⟩, -1⟩]⟩
def exW : UUnit := { exV with blocks := exV.blocks.set 0 ⟨[⟨22, 0, 0, 0, 0, 0, -1⟩, ⟨2, 2, 0, 0, 0, 0, -1⟩, ⟨1, 3, 0, 0, 0, 0, -1⟩, ⟨11, 4, 2, 3, 0, 0, -1⟩, ⟨3, 1, 1, 0, 0, 0, 2⟩], ⟨3, 1, 0, 0⟩, -1⟩ }
theorem least_none {ops : List UOp} (h : ops.all (fun o => !spreadN o (fun _ => false) (fun _ => false)) = true) : PLeast ops (fun _ => false) (fun _ => false) :=
  ⟨fun o ho => by simpa using List.all_eq_true.1 h o ho, PLow.empty _⟩
theorem exU_ord : ordC exU = [0, 2, 1, 3] := by
  rw [← ordC_eq (least_none (by decide))]
  decide
theorem exV_ord : ordC exV = [0, 3] := by
  rw [← ordC_eq (least_none (by decide))]
  decide
theorem exW_ord : ordC exW = [0] := by
  rw [← ordC_eq (least_none (by decide))]
  decide
theorem exU_err : errU exU = 0 := by decide
theorem exV_err : errU exV = 0 := by decide
end Go.Cl.Gu
set_option linter.unusedSimpArgs false
set_option linter.unusedVariables false
namespace Go.Cl.Gu
open Go.Proofs Go.Cl.Gd
variable {W : World} {G : Nat → CV}
set_option maxRecDepth 8000
set_option maxHeartbeats 1000000
theorem genC_congr {n : Nat} {f g : Nat → Int} (h : ∀ x, x < n → f x = g x) : genC n f = genC n g := by
  simp only [genC]
  exact List.map_congr_left fun x hx => by rw [h x (List.mem_range.1 hx)]
/-- What lies still while blocks are counted. -/
structure OpB (B : Hp) (u : UUnit) (q1 xp rw rr ro co : Nat) (ord : List Nat) (w0 w5 v0 v5 : CV) : Prop where
  m1 : B q1 = some (.cells [w0, ci u.params, ci u.regs, ci u.code, ci u.spill, w5])
  mx : B xp = some (.cells [v0, ci u.params, ci u.regs, ci u.code, ci u.spill, v5, .ref rw 0 u.blocks.length u.blocks.length, .ref rr 0 u.blocks.length u.blocks.length])
  bk : BlkR B w5 u.blocks
  o : SlF B (.ref ro 0 ord.length co) (natL ord)
  zw : B rw = none
  zr : B rr = none
theorem OpB.more {B B' : Hp} {u : UUnit} {q1 xp rw rr ro co : Nat} {ord : List Nat} {w0 w5 v0 v5 : CV} (h : OpB B u q1 xp rw rr ro co ord w0 w5 v0 v5) (hl : Le B B') (hw : B' rw = none) (hr : B' rr = none) : OpB B' u q1 xp rw rr ro co ord w0 w5 v0 v5 :=
  ⟨hl _ _ h.m1, hl _ _ h.mx, h.bk.mono hl, h.o.mono hl, hw, hr⟩
/-- The counts, and what is reached. -/
structure OpH (B : Hp) (n rw rr : Nat) (F : Nat → Nat) (S : Nat → Bool) (H' : Hp) : Prop where
  le : Le B H'
  w : H' rw = some (.cells (genC n fun t => (F t : Int)))
  r : H' rr = some (.cells (boolC n S))
theorem OpH.mono {B H H' : Hp} {n rw rr : Nat} {F : Nat → Nat} {S : Nat → Bool} (h : OpH B n rw rr F S H) (hl : Le H H') : OpH B n rw rr F S H' := ⟨h.le.trans hl, hl _ _ h.w, hl _ _ h.r⟩
theorem OpH.bump {B H : Hp} {n rw rr t : Nat} {F : Nat → Nat} {S : Nat → Bool} (h : OpH B n rw rr F S H) (hne : rw ≠ rr) (hz : B rw = none) (ht : t < n) : OpH B n rw rr (fun x => F x + if x = t then 1 else 0) S (H.set rw (.cells ((genC n fun t => (F t : Int)).take t ++ ci ((F t : Int) + 1) :: (genC n fun t => (F t : Int)).drop (t + 1)))) := by
  refine ⟨h.le.put hz, ?_, by rw [hset_ne (Ne.symm hne)]; exact h.r⟩
  rw [set_at, genC_put ht]
  congr 2
  refine genC_congr fun x _ => ?_
  split
  · rename_i e; subst e; simp
  · simp
theorem OpH.hit {B H : Hp} {n rw rr t : Nat} {F : Nat → Nat} {S : Nat → Bool} (h : OpH B n rw rr F S H) (hne : rw ≠ rr) (hz : B rr = none) (ht : t < n) : OpH B n rw rr F (fun x => S x || x == t) (H.set rr (.cells ((boolC n S).take t ++ .bool true :: (boolC n S).drop (t + 1)))) := by
  refine ⟨h.le.put hz, by rw [hset_ne hne]; exact h.w, ?_⟩
  rw [set_at, boolC_set ht]
theorem OpH.same {B H : Hp} {n rw rr : Nat} {F F' : Nat → Nat} {S S' : Nat → Bool} (h : OpH B n rw rr F S H) (hF : ∀ x, F x = F' x) (hS : ∀ x, S x = S' x) : OpH B n rw rr F' S' H := by
  obtain rfl : F = F' := funext hF
  obtain rfl : S = S' := funext hS
  exact h
/-- A heap without two blocks. -/
def hole2 (H : Hp) (a b : Nat) : Hp := hole (hole H a) b
theorem hole2_le {H : Hp} {a b : Nat} : Le (hole2 H a b) H := hole_le.trans hole_le
theorem le_hole2 {A H : Hp} {a b : Nat} (h : Le A H) (ha : A a = none) (hb : A b = none) : Le A (hole2 H a b) := le_hole (le_hole h ha) hb
theorem hole2_at {H : Hp} {a b r : Nat} (ha : r ≠ a) (hb : r ≠ b) : hole2 H a b r = H r := by simp [hole2, hole, ha, hb]
theorem hole2_a {H : Hp} {a b : Nat} : hole2 H a b a = none := by simp only [hole2, hole]; split <;> simp
theorem hole2_b {H : Hp} {a b : Nat} : hole2 H a b b = none := by simp [hole2, hole]
theorem waysN_snoc {u : UUnit} {l : List Nat} {b t : Nat} : waysN u (l ++ [b]) t = waysN u l t + (goN (blkAt u b)).count t := by simp [waysN, List.count_append]
theorem goN_len {u : UUnit} (hu : wfU u = true) {b : Nat} (hb : b < u.blocks.length) : (goN (blkAt u b)).length ≤ 403 := by
  have hk : u.blocks[b]? = some u.blocks[b] := List.getElem?_eq_getElem hb
  have hbk : blkAt u b = u.blocks[b] := by rw [blkAt, List.getD_eq_getElem?_getD, hk]; rfl
  have h1 := (wfB_facts hu hk).2.1
  have h2 := List.length_filter_le (fun o : UOp => decide (o.kind = 21)) u.blocks[b].ops
  have h3 : (goesL u.blocks[b].en).length ≤ 2 := by simp only [goesL]; split; simp; split <;> simp
  have h4 : (if 0 ≤ u.blocks[b].catch_ then [u.blocks[b].catch_.toNat] else []).length ≤ 1 := by split <;> simp
  rw [hbk]
  simp only [goN, List.length_append, List.length_map]
  omega
theorem waysN_le {u : UUnit} (hu : wfU u = true) : ∀ {l : List Nat} (t : Nat), (∀ b ∈ l, b < u.blocks.length) → waysN u l t ≤ l.length * 403
  | [], t, _ => by simp [waysN]
  | b :: l, t, h => by
    have h1 := waysN_le hu (l := l) t fun x hx => h x (List.mem_cons_of_mem _ hx)
    have h2 := goN_len hu (h b (List.mem_cons_self ..))
    have h3 := List.count_le_length (a := t) (l := goN (blkAt u b))
    simp only [waysN, List.flatMap_cons, List.count_append, List.length_cons] at h1 ⊢
    omega
structure opS (B : Hp) (u : UUnit) (q1 xp rw rr ro co n i : Nat) (F : Nat → Nat) (S : Nat → Bool) (s' : CA) (H' : Hp) : Prop where
  e1 : s'.env 1 = .ptr q1 0
  e3 : s'.env 3 = .ptr xp 0
  e27 : s'.env 27 = .ref ro 0 n co
  e28 : s'.env 28 = .int .i64 n
  e29 : s'.env 29 = .int .i64 i
  ds : s'.ds = []
  hp : OpH B u.blocks.length rw rr F S H'
structure opI (B : Hp) (u : UUnit) (q1 xp rw rr ro co : Nat) (ord : List Nat) (d m : Nat) (s' : CA) (H' : Hp) : Prop where
  ex : ∃ i i29 : Nat, m = ord.length - i ∧ i ≤ ord.length ∧ i29 + d = i ∧ opS B u q1 xp rw rr ro co ord.length i29 (waysN u (ord.take i)) (fun t => decide (t ∈ ord.take i)) s' H'
/-- What open answers. -/
structure OpR (H H' : Hp) (u : UUnit) (xp rw rr : Nat) (v0 v5 : CV) (ord : List Nat) : Prop where
  le : Le H H'
  mx : H' xp = some (.cells [v0, ci u.params, ci u.regs, ci u.code, ci u.spill, v5, .ref rw 0 u.blocks.length u.blocks.length, .ref rr 0 u.blocks.length u.blocks.length])
  w0 : Own E0 H' v0 1 (ints u.sizes)
  b5 : BlkR H' v5 u.blocks
  c5 : ∀ r n c, v5 = .ref r 0 n c → n ≤ c
  w : H' rw = some (.cells (genC u.blocks.length fun t => (waysN u ord t : Int)))
  r : H' rr = some (.cells (boolC u.blocks.length fun t => decide (t ∈ ord)))
def exN (l : List UOp) : List Nat := (l.filter fun o => decide (o.kind = 21)).map fun o => o.n.toNat
structure opJ (B : Hp) (u : UUnit) (q1 xp rw rr ro co n i q6 : Nat) (k : UBlk) (x0 : CV) (F : Nat → Nat) (S : Nat → Bool) (d m : Nat) (s' : CA) (H' : Hp) : Prop where
  ex : ∃ j j47 : Nat, m = k.ops.length - j ∧ j ≤ k.ops.length ∧ j47 + d = j ∧ s'.env 6 = .ptr q6 0 ∧ s'.env 45 = x0 ∧ s'.env 46 = .int .i64 k.ops.length ∧ s'.env 47 = .int .i64 j47 ∧ opS B u q1 xp rw rr ro co n i (fun t => F t + (exN (k.ops.take j)).count t) S s' H'
structure opE (B : Hp) (u : UUnit) (q1 xp rw rr ro co n i q6 : Nat) (F : Nat → Nat) (S : Nat → Bool) (s' : CA) (H' : Hp) : Prop where
  e6 : s'.env 6 = .ptr q6 0
  st : opS B u q1 xp rw rr ro co n i F S s' H'
structure opK (B : Hp) (u : UUnit) (q1 xp rw rr ro co n i q6 : Nat) (l : List Nat) (v : CV) (F : Nat → Nat) (S : Nat → Bool) (d m : Nat) (s' : CA) (H' : Hp) : Prop where
  ex : ∃ j j69 : Nat, m = l.length - j ∧ j ≤ l.length ∧ j69 + d = j ∧ s'.env 6 = .ptr q6 0 ∧ s'.env 67 = v ∧ s'.env 68 = .int .i64 l.length ∧ s'.env 69 = .int .i64 j69 ∧ opS B u q1 xp rw rr ro co n i (fun t => F t + (l.take j).count t) S s' H'
structure opY (H : Hp) (u : UUnit) (xp rw rr : Nat) (v0 v5 : CV) (s' : CA) (H' : Hp) : Prop where
  ex : ∃ p c, PLeast (opsOf u) p c ∧ s'.env 3 = .ptr xp 0 ∧ s'.ds = [] ∧ OpR H H' u xp rw rr v0 v5 (ordL (nextN u p) u.blocks.length)
end Go.Cl.Gu
set_option linter.unusedSimpArgs false
set_option linter.unusedVariables false
namespace Go.Cl.Gu
open Go.Proofs Go.Cl.Gd
variable {W : World} {G : Nat → CV}
set_option maxRecDepth 8000
set_option maxHeartbeats 1000000
def waysL (u : UUnit) (ord : List Nat) : List Int := (List.range u.blocks.length).map fun t => (waysN u ord t : Int)
/-- A unit with its counts, frozen. -/
def openC (u : UUnit) (ord : List Nat) : List CV := unitC u ++ [.sl 1 (ints (waysL u ord)), .sl 1 (boolS u.blocks.length fun t => decide (t ∈ ord))]
theorem waysL_get {u : UUnit} {ord : List Nat} {t : Nat} (h : t < u.blocks.length) : (ints (waysL u ord))[t]? = some [ci (waysN u ord t : Int)] := by
  simp [ints, waysL, List.getElem?_map, List.getElem?_range h]
theorem waysL_len {u : UUnit} {ord : List Nat} : (ints (waysL u ord)).length = u.blocks.length := by simp [ints, waysL]
theorem boolS_get {n : Nat} {p : Nat → Bool} {i : Nat} (h : i < n) : (boolS n p)[i]? = some [.bool (p i)] := by simp [boolS, List.getElem?_map, List.getElem?_range h]
theorem boolS_len {n : Nat} {p : Nat → Bool} : (boolS n p).length = n := by simp [boolS]
theorem OpR.fz {H H' : Hp} {u : UUnit} {xp rw rr : Nat} {v0 v5 : CV} {ord : List Nat} (h : OpR H H' u xp rw rr v0 v5 ord) : Fz H' (.ptr xp 0) (.iptr (openC u ord)) := by
  have hw : Fz H' (.ref rw 0 u.blocks.length u.blocks.length) (.sl 1 (ints (waysL u ord))) := by
    have hg : (genC u.blocks.length fun t => (waysN u ord t : Int)) = nums (waysL u ord) [] := by simp [genC, nums, waysL]
    have hll : (waysL u ord).length = u.blocks.length := by simp [waysL]
    have h1 := h.w
    rw [hg] at h1
    have := nums_slF (l := waysL u ord) (by rw [hll]; exact Nat.le_refl u.blocks.length) h1
    rw [hll] at this
    exact this.fz
  refine .ptr xp 0 _ (openC u ord) h.mx (fun j => [v0, ci u.params, ci u.regs, ci u.code, ci u.spill, v5, .ref rw 0 u.blocks.length u.blocks.length, .ref rr 0 u.blocks.length u.blocks.length].getD j .any) (fun j hj => ?_) (fun j x hx => ?_)
  · rw [Nat.zero_add]
    rcases j with _|_|_|_|_|_|_|_|j <;> first | rfl | (simp [openC, unitC] at hj; omega)
  · rcases j with _|_|_|_|_|_|_|_|j <;> simp [openC, unitC] at hx ⊢ <;> subst hx
    · exact h.w0.fz
    · exact .same _
    · exact .same _
    · exact .same _
    · exact .same _
    · exact h.b5.fz h.c5
    · exact hw
    · exact fz_bool h.r (Nat.le_refl _)
end Go.Cl.Gu
