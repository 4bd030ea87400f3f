/- DERIVED HERE. Plain: what dominates what, by the nearest dominators and by the blocks that are reached without one. DERIVED HERE. Plain: the blocks of a loop, as they are looked for from its tails. DERIVED HERE. Plain: two loops lie apart or one within the other; a loop is entered at its head. DERIVED HERE. Plain: a set of numbers kept as a map; its keys in the order in which a range meets them. -/
import Derived.Test.YtoophlkbngagcaaGreatDoorRQ
set_option linter.unusedSimpArgs false
set_option linter.unusedVariables false
namespace Go.Cl.Gd
/-- The graph's ways as a test. -/
def nxB (N : Nat → List Nat) (a x : Nat) : Bool := decide (x ∈ N a)
theorem byp_iff {N : Nat → List Nat} {a b : Nat} : Byp (nxB N) a b ↔ (0 : Int) ≠ (a : Int) ∧ RchW N a 0 b := by
  constructor
  · intro h
    induction h with
    | zero h => exact ⟨by omega, .refl⟩
    | step _ hn hb ih => exact ⟨ih.1, .step ih.2 (List.mem_filter.2 ⟨by simpa [nxB] using hn, by simp; omega⟩)⟩
  · rintro ⟨h0, h⟩
    induction h with
    | refl => exact .zero (by omega)
    | step _ e ih =>
      obtain ⟨e1, e2⟩ := List.mem_filter.1 e
      exact .step ih (by simpa [nxB] using e1) (by simp at e2; omega)
/-- a dominates b: both are reached, and b isn't reached without a. -/
def Dom (N : Nat → List Nat) (a b : Nat) : Prop := Rch N 0 a ∧ Rch N 0 b ∧ ¬ ((0 : Int) ≠ (a : Int) ∧ RchW N a 0 b)
/-- What the graph's pointers are, once they lie still. -/
structure DomI (N : Nat → List Nat) (order : List Nat) (rk : Nat → Int) (I : Nat → Option Nat) : Prop where
  di : DI (nxB N) order rk 1 I
  fx : Fx (nxB N) order order.length I
  h0 : order[0]? = some 0
  mem : ∀ b, b ∈ order ↔ Rch N 0 b
section
variable {N : Nat → List Nat} {order : List Nat} {rk : Nat → Int} {I : Nat → Option Nat}
theorem DomI.dom (h : DomI N order rk I) {a b : Nat} : Dom N a b ↔ b ∈ order ∧ Anc I a b := by
  constructor
  · rintro ⟨_, hb, hd⟩
    have hbo := (h.mem b).2 hb
    exact ⟨hbo, (h.di.dom h.fx h.h0 (fun f b hf hn => (h.mem b).2 (.step ((h.mem f).1 hf) (by simpa [nxB] using hn))) hbo).2 fun k => hd (byp_iff.1 k)⟩
  · rintro ⟨hbo, k⟩
    have hao := h.di.mem k hbo
    exact ⟨(h.mem a).1 hao, (h.mem b).1 hbo, fun k2 => (h.di.dom h.fx h.h0 (fun f b hf hn => (h.mem b).2 (.step ((h.mem f).1 hf) (by simpa [nxB] using hn))) hbo).1 k (byp_iff.2 k2)⟩
theorem DomI.refl (h : DomI N order rk I) {b : Nat} (hb : b ∈ order) : Dom N b b := h.dom.2 ⟨hb, .refl⟩
theorem DomI.none (h : DomI N order rk I) {b : Nat} (e : I b = none) : b = 0 ∨ b ∉ order := by
  by_cases hb : b ∈ order
  · obtain ⟨j, hj⟩ := List.mem_iff_getElem?.1 hb
    rcases Nat.eq_zero_or_pos j with e2 | e2
    · subst e2; rw [h.h0] at hj; injection hj with hj; exact .inl hj.symm
    · obtain ⟨q, hq, _⟩ := h.fx j b hj e2 (List.getElem?_eq_some_iff.1 hj).1
      rw [hq] at e; cases e
  · exact .inr hb
/-- The nearest of the others that dominate it: all others that dominate it dominate that one. -/
theorem DomI.idom (h : DomI N order rk I) {a b : Nat} : I b = some a ↔ a ≠ b ∧ Dom N a b ∧ ∀ c, c ≠ b → Dom N c b → Dom N c a := by
  have hlt := h.di.lt
  constructor
  · intro e
    obtain ⟨h1, h2, h3, _⟩ := h.di.c b a e
    refine ⟨fun q => by subst q; omega, h.dom.2 ⟨h1, .step e .refl⟩, fun c hc hd => ?_⟩
    have k := (h.dom.1 hd).2
    cases k with
    | refl => exact absurd rfl hc
    | step e2 k =>
      rw [e] at e2
      injection e2 with e2
      subst e2
      exact h.dom.2 ⟨h2, k⟩
  · rintro ⟨hne, hd, hall⟩
    obtain ⟨hbo, k⟩ := h.dom.1 hd
    cases k with
    | refl => exact absurd rfl hne
    | step e k =>
      rename_i q
      obtain ⟨h1, h2, h3, _⟩ := h.di.c b q e
      have hq := (h.dom.1 (hall q (fun e2 => by subst e2; omega) (h.dom.2 ⟨h1, .step e .refl⟩))).2
      rcases k.rkLt hlt with e2 | e2
      · rw [e2]; exact e
      · have := hq.le hlt; omega
end
/-- The last number below n for which p holds, or -1. -/
def lastP (p : Nat → Bool) : Nat → Int
  | 0 => -1
  | n + 1 => if p n = true then (n : Int) else lastP p n
theorem lastP_none {p : Nat → Bool} : ∀ {n : Nat}, (∀ a, a < n → p a = false) → lastP p n = -1
  | 0, _ => rfl
  | n + 1, h => by rw [lastP, h n (by omega)]; simp; exact lastP_none fun a ha => h a (by omega)
theorem lastP_one {p : Nat → Bool} {q : Nat} : ∀ {n : Nat}, q < n → (∀ a, a < n → (p a = true ↔ a = q)) → lastP p n = q
  | 0, h, _ => by omega
  | n + 1, h, k => by
    rw [lastP]
    by_cases e : n = q
    · subst e; rw [if_pos ((k n (by omega)).2 rfl)]
    · rw [if_neg (fun e2 => e ((k n (by omega)).1 e2))]
      exact lastP_one (by omega) fun a ha => k a (by omega)
/-- The reference's choice: the last block, other than b, that dominates it and that all others that do dominate. -/
def idB (D : Nat → Nat → Bool) (n b a : Nat) : Bool := a != b && D a b && (List.range n).all fun c => c == b || !D c b || D c a
theorem DomI.idB {N : Nat → List Nat} {order : List Nat} {rk : Nat → Int} {I : Nat → Option Nat} (h : DomI N order rk I) {D : Nat → Nat → Bool} {n : Nat} (hn : ∀ b, b ∈ order → b < n) (hD : ∀ a b, a < n → b < n → (D a b = true ↔ Dom N a b)) {b : Nat} (hb : b < n) : lastP (Gd.idB D n b) n = oI (I b) := by
  have key : ∀ a, a < n → (Gd.idB D n b a = true ↔ I b = some a) := fun a ha => by
    rw [h.idom]
    simp only [Gd.idB, Bool.and_eq_true, bne_iff_ne, ne_eq, List.all_eq_true, List.mem_range, Bool.or_eq_true, beq_iff_eq, Bool.not_eq_true', hD a b ha hb, and_assoc]
    refine and_congr_right fun h1 => and_congr_right fun h2 => ⟨fun k c hc hd => ?_, fun k c hc => ?_⟩
    · have hcn := hn c ((h.mem c).2 hd.1)
      rcases k c hcn with (k | k) | k
      · exact absurd k hc
      · rw [(hD c b hcn hb).2 hd] at k; cases k
      · exact (hD c a hcn ha).1 k
    · by_cases e : c = b
      · exact .inl (.inl e)
      · cases e2 : D c b with
        | false => exact .inl (.inr rfl)
        | true => exact .inr ((hD c a hc ha).2 (k c e ((hD c b hc hb).1 e2)))
  cases e : I b with
  | none =>
    rw [lastP_none fun a ha => ?_]
    · rfl
    · cases e2 : Gd.idB D n b a with
      | false => rfl
      | true => rw [key a ha, e] at e2; cases e2
  | some q =>
    have hq := hn q (h.di.c b q e).2.1
    rw [lastP_one hq fun a ha => ?_]
    · rfl
    · rw [key a ha, e]
      constructor
      · intro k; injection k with k; exact k.symm
      · intro k; rw [k]
end Go.Cl.Gd
set_option linter.unusedSimpArgs false
set_option linter.unusedVariables false
namespace Go.Cl.Gd
/-- A block of the loop with the head h and these tails: the head, or a reached block with a way to a tail that doesn't go to the head. -/
def InL (N : Nat → List Nat) (h : Nat) (tails : List Nat) (b : Nat) : Prop := b = h ∨ (b ≠ h ∧ Rch N 0 b ∧ ∃ t ∈ tails, RchW N h b t)
theorem Rch.front {N : Nat → List Nat} {a b c : Nat} (e : b ∈ N a) (h : Rch N b c) : Rch N a c := by
  induction h with
  | refl => exact .step .refl e
  | step _ e2 ih => exact .step ih e2
theorem RchW.rch {N : Nat → List Nat} {w : Int} {a b : Nat} (h : RchW N w a b) : Rch N a b := by
  induction h with
  | refl => exact .refl
  | step _ e ih => exact .step ih (List.mem_filter.1 e).1
theorem RchW.front {N : Nat → List Nat} {w : Int} {a b c : Nat} (e : b ∈ N a) (hb : (b : Int) ≠ w) (h : RchW N w b c) : RchW N w a c := Rch.front (List.mem_filter.2 ⟨e, by simpa using hb⟩) h
/-- What holds while the loop's blocks are looked for: s those that are in, todo those to be looked at. -/
structure LI (N : Nat → List Nat) (n h : Nat) (tails : List Nat) (s : Nat → Bool) (todo : List Nat) : Prop where
  z : s h = true
  inl : ∀ x, s x = true → x < n ∧ InL N h tails x
  tod : ∀ x ∈ todo, x < n ∧ (x ≠ h → ∃ t ∈ tails, RchW N h x t)
  cl : ∀ x, s x = true → x ≠ h → ∀ k, x ∈ N k → Rch N 0 k → k ∈ todo ∨ s k = true
  tl : ∀ t ∈ tails, Rch N 0 t → t ∈ todo ∨ s t = true
section
variable {N : Nat → List Nat} {n h : Nat} {tails : List Nat} {s : Nat → Bool} {todo : List Nat}
theorem LI.start (hh : h < n) (ht : ∀ t ∈ tails, t < n) : LI N n h tails (fun x => x == h) tails :=
  ⟨by simp, fun x hx => by simp at hx; subst hx; exact ⟨hh, .inl rfl⟩, fun x hx => ⟨ht x hx, fun _ => ⟨x, hx, .refl⟩⟩, fun x hx hne => absurd (by simpa using hx) hne, fun t ht _ => .inl ht⟩
/-- The last one is taken off: it is in already, or isn't reached. -/
theorem LI.skip {b : Nat} (hL : LI N n h tails s (todo ++ [b])) (hs : s b = true ∨ ¬ Rch N 0 b) : LI N n h tails s todo := by
  refine ⟨hL.z, hL.inl, fun x hx => hL.tod x (by simp [hx]), fun x hx hne k hk hr => ?_, fun t ht hr => ?_⟩
  · rcases hL.cl x hx hne k hk hr with e | e
    · rcases List.mem_append.1 e with e | e
      · exact .inl e
      · simp at e; subst e; exact .inr (hs.resolve_right (fun q => q hr))
    · exact .inr e
  · rcases hL.tl t ht hr with e | e
    · rcases List.mem_append.1 e with e | e
      · exact .inl e
      · simp at e; subst e; exact .inr (hs.resolve_right (fun q => q hr))
    · exact .inr e
/-- It is put in, and all ahead of it are to be looked at. -/
theorem LI.add {b : Nat} {P : List Nat} (hL : LI N n h tails s (todo ++ [b])) (hs : s b = false) (hr : Rch N 0 b) (hP : ∀ k, k ∈ P ↔ k < n ∧ b ∈ N k) (hN : ∀ k, Rch N 0 k → k < n) : LI N n h tails (fun x => s x || x == b) (todo ++ P) := by
  have hbh : b ≠ h := fun e => by rw [e, hL.z] at hs; cases hs
  obtain ⟨hbn, hbt⟩ := hL.tod b (by simp)
  obtain ⟨t, ht, hw⟩ := hbt hbh
  refine ⟨by simp [hL.z], fun x hx => ?_, fun x hx => ?_, fun x hx hne k hk hkr => ?_, fun t ht hr => ?_⟩
  · simp at hx
    rcases hx with hx | rfl
    · exact hL.inl x hx
    · exact ⟨hbn, .inr ⟨hbh, hr, t, ht, hw⟩⟩
  · rcases List.mem_append.1 hx with e | e
    · exact hL.tod x (by simp [e])
    · obtain ⟨e1, e2⟩ := (hP x).1 e
      exact ⟨e1, fun _ => ⟨t, ht, RchW.front e2 (by omega) hw⟩⟩
  · simp at hx
    rcases hx with hx | rfl
    · rcases hL.cl x hx hne k hk hkr with e | e
      · rcases List.mem_append.1 e with e | e
        · exact .inl (by simp [e])
        · simp at e; subst e; exact .inr (by simp)
      · exact .inr (by simp [e])
    · exact .inl (by simp [(hP k).2 ⟨hN k hkr, hk⟩])
  · rcases hL.tl t ht hr with e | e
    · rcases List.mem_append.1 e with e | e
      · exact .inl (by simp [e])
      · simp at e; subst e; exact .inr (by simp)
    · exact .inr (by simp [e])
theorem LI.fin (hL : LI N n h tails s []) : ∀ x, s x = true ↔ InL N h tails x := by
  refine fun x => ⟨fun hx => (hL.inl x hx).2, fun hx => ?_⟩
  rcases hx with rfl | ⟨hne, hr, t, ht, hw⟩
  · exact hL.z
  · have key : ∀ y, RchW N h x y → (y = x ∨ y ≠ h) ∧ Rch N 0 y := fun y hy => by
      refine ⟨?_, hr.trans hy.rch⟩
      cases hy with
      | refl => exact .inl rfl
      | step _ e => have := (List.mem_filter.1 e).2; simp at this; exact .inr (by omega)
    have back : ∀ y, RchW N h x y → s y = true → s x = true := fun y hy => by
      induction hy with
      | refl => exact id
      | step k e ih =>
        rename_i b c
        intro hs
        obtain ⟨e1, e2⟩ := List.mem_filter.1 e
        exact ih (((hL.cl c hs (by simp at e2; omega) b e1 (key b k).2)).resolve_left (by simp))
    exact back t hw ((hL.tl t ht (key t hw).2).resolve_left (by simp))
/-- A set of numbers below n, as a rising list. -/
theorem perm_upto {s : Nat → Bool} {n : Nat} {L : List Nat} (hp : L.Nodup) (hm : ∀ x, x ∈ L ↔ x < n ∧ s x = true) (hs : L.Pairwise (· ≤ ·)) : L = (List.range n).filter s := by
  have h2 : ((List.range n).filter s).Pairwise (· < ·) := by
    exact List.Pairwise.filter _ List.pairwise_lt_range
  have h1 : L.Pairwise (· < ·) := by
    have := List.Pairwise.and hs hp
    exact this.imp fun {a b} h => by omega
  refine List.Perm.eq_of_pairwise (le := (· < ·)) (fun a b _ _ h1 h2 => by omega) h1 h2 ?_
  rw [List.perm_ext_iff_of_nodup hp (h2.imp fun {a b} h => by omega)]
  intro x
  rw [hm]
  simp
end
end Go.Cl.Gd
set_option linter.unusedSimpArgs false
set_option linter.unusedVariables false
namespace Go.Cl.Gd
section
variable {N : Nat → List Nat}
theorem RchW.ne {w : Int} {a x : Nat} (h : RchW N w a x) : x = a ∨ (x : Int) ≠ w := by
  cases h with
  | refl => exact .inl rfl
  | step _ e => exact .inr (by have := (List.mem_filter.1 e).2; simpa using this)
theorem RchW.trans {w : Int} {a b c : Nat} (h : RchW N w a b) (k : RchW N w b c) : RchW N w a c := Rch.trans h k
/-- Its tails: from each there is a way to the head, which dominates them. -/
def TailOk (N : Nat → List Nat) (h : Nat) (T : List Nat) : Prop := ∀ t ∈ T, h ∈ N t ∧ Dom N h t
theorem InL.dom {h b : Nat} {T : List Nat} (hT : TailOk N h T) (hr : Rch N 0 h) (hb : InL N h T b) : Dom N h b := by
  rcases hb with rfl | ⟨hne, hb, t, ht, hw⟩
  · refine ⟨hr, hr, fun k => ?_⟩
    rcases k.2.ne with e | e
    · exact k.1 (by omega)
    · exact e rfl
  · exact ⟨hr, hb, fun k => (hT t ht).2.2.2 ⟨k.1, k.2.trans hw⟩⟩
/-- A way goes into a loop from outside at its head alone. -/
theorem InL.enter {h b n : Nat} {T : List Nat} (hb : Rch N 0 b) (hin : ¬ InL N h T b) (e : n ∈ N b) (hn : InL N h T n) : n = h := by
  rcases hn with rfl | ⟨hne, _, t, ht, hw⟩
  · rfl
  · refine absurd (.inr ⟨fun e2 => hin (.inl e2), hb, t, ht, RchW.front e (by omega) hw⟩) hin
/-- All the blocks on a block's way to a tail lie in the loop. -/
theorem InL.way {h b t : Nat} {T : List Nat} (ht : t ∈ T) (hb : Rch N 0 b) (hne : b ≠ h) (hw : RchW N h b t) : InL N h T b := .inr ⟨hne, hb, t, ht, hw⟩
end
end Go.Cl.Gd
set_option linter.unusedSimpArgs false
set_option linter.unusedVariables false
namespace Go.Cl.Gd
/-- The map's entries are those of the set s of numbers below n, each with a stamp of its own. -/
structure MapS (es : List (Int × Nat × CV)) (clk n : Nat) (s : Nat → Bool) : Prop where
  nd : (es.map fun e => e.2.1).Nodup
  kd : (es.map fun e => e.1).Nodup
  lt : ∀ e ∈ es, e.2.1 < clk
  v : ∀ e ∈ es, e.2.2 = .bool true ∧ ∃ x : Nat, e.1 = x ∧ x < n ∧ s x = true
  all : ∀ x, x < n → s x = true → ∃ e ∈ es, e.1 = (x : Int)
theorem lkM_mem : ∀ {es : List (Int × Nat × CV)} {k : Int}, (∀ v, lkM es k = some v → ∃ e ∈ es, e.1 = k ∧ e.2.2 = v) ∧ (lkM es k = none → ∀ e ∈ es, e.1 ≠ k)
  | [], k => by simp [lkM]
  | e :: es, k => by
    obtain ⟨h1, h2⟩ := lkM_mem (es := es) (k := k)
    simp only [lkM]
    split
    · rename_i h
      exact ⟨fun v hv => ⟨e, by simp, h, by simpa using hv⟩, fun h => by cases h⟩
    · rename_i h
      refine ⟨fun v hv => ?_, fun hn e' he' => ?_⟩
      · obtain ⟨e', a, b⟩ := h1 v hv
        exact ⟨e', by simp [a], b⟩
      · rcases List.mem_cons.1 he' with rfl | he'
        · exact h
        · exact h2 hn e' he'
theorem putM_new : ∀ {es : List (Int × Nat × CV)} {k : Int} {c : Nat} {v : CV}, lkM es k = none → putM es k c v = es ++ [(k, c, v)]
  | [], k, c, v, _ => rfl
  | e :: es, k, c, v, h => by
    simp only [lkM] at h
    split at h
    · cases h
    · rename_i hk
      simp only [putM, if_neg hk, List.cons_append]
      rw [putM_new h]
section
variable {es : List (Int × Nat × CV)} {clk n : Nat} {s : Nat → Bool}
theorem MapS.lk (h : MapS es clk n s) {x : Nat} (hx : x < n) : lkM es x = if s x = true then some (.bool true) else none := by
  obtain ⟨h1, h2⟩ := lkM_mem (es := es) (k := x)
  cases hl : lkM es x with
  | some v =>
    obtain ⟨e, he, hk, hv⟩ := h1 v hl
    obtain ⟨g1, y, g2, g3, g4⟩ := h.v e he
    have : y = x := by omega
    subst this
    rw [if_pos g4, ← hv, g1]
  | none =>
    rw [if_neg]
    intro hs
    obtain ⟨e, he, hk⟩ := h.all x hx hs
    exact h2 hl e he hk
theorem MapS.start {x : Nat} (hx : x < n) : MapS [((x : Int), 0, .bool true)] 1 n (fun y => y == x) :=
  ⟨by simp, by simp, by simp, fun e he => by simp at he; subst he; exact ⟨rfl, x, rfl, hx, by simp⟩, fun y hy h => by simp at h; subst h; simp⟩
theorem MapS.add (h : MapS es clk n s) {x : Nat} (hx : x < n) (hs : s x = false) : MapS (es ++ [((x : Int), clk, .bool true)]) (clk + 1) n (fun y => s y || y == x) := by
  refine ⟨?_, ?_, fun e he => ?_, fun e he => ?_, fun y hy hsy => ?_⟩
  · rw [List.map_append, List.nodup_append]
    refine ⟨h.nd, by simp, fun a ha b hb e => ?_⟩
    obtain ⟨e', he', rfl⟩ := List.mem_map.1 ha
    simp at hb
    have := h.lt e' he'
    omega
  · rw [List.map_append, List.nodup_append]
    refine ⟨h.kd, by simp, fun a ha b hb e => ?_⟩
    obtain ⟨e', he', rfl⟩ := List.mem_map.1 ha
    simp at hb
    obtain ⟨_, y, g2, g3, g4⟩ := h.v e' he'
    have : y = x := by omega
    subst this
    rw [hs] at g4; cases g4
  · rcases List.mem_append.1 he with he | he
    · have := h.lt e he; omega
    · simp at he; subst he; simp
  · rcases List.mem_append.1 he with he | he
    · obtain ⟨g1, y, g2, g3, g4⟩ := h.v e he
      exact ⟨g1, y, g2, g3, by simp [g4]⟩
    · simp at he; subst he; exact ⟨rfl, x, rfl, hx, by simp⟩
  · simp at hsy
    rcases hsy with hsy | rfl
    · obtain ⟨e, he, hk⟩ := h.all y hy hsy
      exact ⟨e, by simp [he], hk⟩
    · exact ⟨((y : Int), clk, .bool true), by simp, rfl⟩
theorem map_inj {α β : Type} {f : α → β} : ∀ {l : List α}, (l.map f).Nodup → ∀ a ∈ l, ∀ b ∈ l, f a = f b → a = b
  | [], _, a, ha, _, _, _ => by cases ha
  | x :: l, h, a, ha, b, hb, e => by
    rw [List.map_cons, List.nodup_cons] at h
    rcases List.mem_cons.1 ha with ea | ha'
    · rcases List.mem_cons.1 hb with eb | hb'
      · rw [ea, eb]
      · exact absurd (by rw [← ea, e]; exact List.mem_map_of_mem hb') h.1
    · rcases List.mem_cons.1 hb with eb | hb'
      · exact absurd (by rw [← eb, ← e]; exact List.mem_map_of_mem ha') h.1
      · exact map_inj h.2 a ha' b hb' e
/-- While the map is ranged over: the stamps seen, and the numbers met. -/
structure RgS (es : List (Int × Nat × CV)) (seen : List Nat) (L : List Nat) : Prop where
  nd : L.Nodup
  iff : ∀ e ∈ es, (e.2.1 ∈ seen ↔ ∃ x ∈ L, e.1 = (x : Int))
  sub : ∀ x ∈ L, ∃ e ∈ es, e.1 = (x : Int)
theorem RgS.start : RgS es [] [] := ⟨by simp, by simp, by simp⟩
theorem RgS.next {seen L : List Nat} (hm : MapS es clk n s) (h : RgS es seen L) {e : Int × Nat × CV} (he : e ∈ es) (hn : e.2.1 ∉ seen) : ∃ x : Nat, e.1 = x ∧ x < n ∧ RgS es (seen ++ [e.2.1]) (L ++ [x]) := by
  obtain ⟨_, x, hx, hxn, hsx⟩ := hm.v e he
  have hxL : x ∉ L := fun q => hn ((h.iff e he).2 ⟨x, q, hx⟩)
  refine ⟨x, hx, hxn, ?_, fun e' he' => ?_, fun y hy => ?_⟩
  · rw [List.nodup_append]
    exact ⟨h.nd, by simp, fun a ha b hb e2 => by simp at hb; subst hb; subst e2; exact hxL ha⟩
  · have key : e'.2.1 = e.2.1 ↔ e' = e := ⟨fun q => map_inj hm.nd _ he' _ he q, fun q => by rw [q]⟩
    have key2 : e'.1 = e.1 ↔ e' = e := ⟨fun q => map_inj hm.kd _ he' _ he q, fun q => by rw [q]⟩
    rw [List.mem_append, List.mem_singleton, h.iff e' he', key, ← key2]
    constructor
    · rintro (⟨y, hy, q⟩ | q)
      · exact ⟨y, by simp [hy], q⟩
      · exact ⟨x, by simp, by rw [q, hx]⟩
    · rintro ⟨y, hy, q⟩
      rcases List.mem_append.1 hy with hy | hy
      · exact .inl ⟨y, hy, q⟩
      · simp at hy; subst hy; exact .inr (by rw [q, hx])
  · rcases List.mem_append.1 hy with hy | hy
    · exact h.sub y hy
    · simp at hy; subst hy; exact ⟨e, he, hx⟩
theorem RgS.fin {seen L : List Nat} (hm : MapS es clk n s) (h : RgS es seen L) (ha : ∀ e ∈ es, e.2.1 ∈ seen) : L.Nodup ∧ ∀ x, x ∈ L ↔ x < n ∧ s x = true := by
  refine ⟨h.nd, fun x => ⟨fun hx => ?_, fun ⟨h1, h2⟩ => ?_⟩⟩
  · obtain ⟨e, he, q⟩ := h.sub x hx
    obtain ⟨_, y, g1, g2, g3⟩ := hm.v e he
    have : y = x := by omega
    subst this
    exact ⟨g2, g3⟩
  · obtain ⟨e, he, q⟩ := hm.all x h1 h2
    obtain ⟨y, hy, q2⟩ := (h.iff e he).1 (ha e he)
    have : y = x := by omega
    subst this
    exact hy
theorem RgS.len {seen L : List Nat} (hm : MapS es clk n s) (h : RgS es seen L) : L.length ≤ n := by
  refine nodup_le n L h.nd fun x hx => ?_
  obtain ⟨e, he, q⟩ := h.sub x hx
  obtain ⟨_, y, g1, g2, g3⟩ := hm.v e he
  omega
end
end Go.Cl.Gd