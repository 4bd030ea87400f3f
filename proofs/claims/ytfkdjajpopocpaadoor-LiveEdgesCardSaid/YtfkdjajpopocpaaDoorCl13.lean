/- DERIVED HERE. The clean layer: a region that draws its order, walked in one order that was looked through. -/
import Derived.Test.YtfkdjajpopocpaaDoorCl12
set_option linter.unusedSimpArgs false
set_option linter.unusedVariables false
namespace Go.Cl
open Go.RowKit

/-- One operation of a hint: its place, the loads that it must leave be, the bits of its Dst, of what it reads, its class. -/
structure HE where
  i : Nat
  ys : List Nat
  dm : Nat
  rm : Nat
  c : Nat
abbrev Hint := List HE
def hAt (l : Hint) (i : Nat) : Option HE := l.find? fun p => p.i == i
def hY (l : Hint) (i : Nat) : List Nat := match hAt l i with | some p => p.ys | none => []
def edges (ops : Array Oper) (i : Nat) : List Nat := match ops[i]? with | some o => (o.after.toList.filter (Region.binds .any)).map (·.on) | none => []
def depOf (ds : List (HE × Nat)) (j : Nat) : Nat := match ds.find? (fun p => p.1.i == j) with | some p => p.2 | none => 0
def codeOk (o : Op) : Nat → Bool
  | 0 => clsO o == .pure
  | 1 => clsO o == .load
  | 2 => clsO o == .alloc
  | 3 => isCallV o
  | 4 => clsO o == .eff && !isPanic o
  | _ => clsO o == .eff
def entOk (ops : Array Oper) (e : HE) : Bool :=
  match ops[e.i]? with
  | some o => (match o.dst with | some d => e.dm == 2 ^ d | none => true) && (rdG ops o).all (fun t => e.rm.testBit t) && codeOk o.op e.c && e.ys.all (fun z => match ops[z]? with | some oz => clsO oz.op == .load | none => false) && (e.c != 2 || e.ys.isEmpty)
  | none => false
def pairM (l : Hint) (e x : HE) : Bool :=
  (e.dm &&& x.rm == 0) && (x.dm &&& e.rm == 0) && (x.dm &&& e.dm == 0) && e.ys.all (fun z => match hAt l z with | some ez => x.dm &&& ez.rm == 0 | none => false) &&
    Nat.ble x.c 4 && (e.c == 0 || e.c == 1 || ((e.c == 2 || e.c == 3) && x.c == 2))
def needs (x e : HE) : Bool := (x.c == 3 || x.c == 4) && e.c == 1
def trip (x : HE) : Nat → List HE → Bool
  | _, [] => true
  | D, e :: l => (!needs x e || (x.ys.contains e.i && ((D ||| e.dm) &&& e.rm == 0))) && trip x (D ||| e.dm) l
def ndOf (di : Nat) (P : List HE) : List HE := P.filter fun e => !di.testBit e.i
def diOf (ops : Array Oper) (ds : List (HE × Nat)) (i : Nat) : Nat := (edges ops i).foldl (fun m j => m ||| 2 ^ j ||| depOf ds j) 0
def chk (ops : Array Oper) (l : Hint) (ds : List (HE × Nat)) : Hint → Bool
  | [] => true
  | x :: B =>
    let di := diOf ops ds x.i
    let nd := ndOf di (ds.map (·.1))
    entOk ops x && !(ds.any fun p => p.1.i == x.i) && (edges ops x.i).all (fun e => ds.any fun p => p.1.i == e) && nd.all (fun e => pairM l e x) && trip x 0 nd && chk ops l ((x, di) :: ds) B
def drawOk (ops : Array Oper) (l : Hint) : Bool := (l.length == ops.size) && ((List.range ops.size).all fun i => l.any fun p => p.i == i) && (l.all fun p => hY l p.i == p.ys) && chk ops l [] l

/-- Reached by edges. -/
inductive Dep (ops : Array Oper) : Nat → Nat → Prop where
  | base {i a} : a ∈ edges ops i → Dep ops i a
  | step {i j a} : j ∈ edges ops i → Dep ops j a → Dep ops i a
def DsOk (ops : Array Oper) (ds : List (HE × Nat)) : Prop := ∀ p ∈ ds, ∀ a, p.2.testBit a = true → Dep ops p.1.i a
/-- What the look finds of one operation, beside those ahead of it, the latest first. -/
structure Good (ops : Array Oper) (l : Hint) (P : List HE) (x : HE) : Prop where
  ent : entOk ops x = true
  edg : ∀ e ∈ edges ops x.i, e ∈ P.map (·.i)
  nd : ∃ di : Nat, (∀ a, di.testBit a = true → Dep ops x.i a) ∧ (ndOf di P).all (fun e => pairM l e x) = true ∧ trip x 0 (ndOf di P) = true

section
variable {X : Cx} {N : Nat} {ρ : Option Nat} {Q : CP} {s : CA} {H : Hp} {ops : Array Oper} {l : Hint} {Y : Nat → List Nat}

theorem diOf_spec {ds : List (HE × Nat)} (h : DsOk ops ds) {i : Nat} : ∀ a, (diOf ops ds i).testBit a = true → Dep ops i a := by
  have key : ∀ (es : List Nat) (m : Nat), (∀ e ∈ es, e ∈ edges ops i) → (∀ a, m.testBit a = true → Dep ops i a) → ∀ a, (es.foldl (fun m j => m ||| 2 ^ j ||| depOf ds j) m).testBit a = true → Dep ops i a := by
    intro es
    induction es with
    | nil => intro m _ hm a ha; exact hm a ha
    | cons e es ih =>
      intro m he hm a ha
      refine ih _ (fun e' h' => he e' (by simp [h'])) (fun b hb => ?_) a ha
      simp only [Nat.testBit_or, Bool.or_eq_true] at hb
      rcases hb with (hb | hb) | hb
      · exact hm b hb
      · have : b = e := by
          rw [Nat.testBit_two_pow] at hb
          exact (by simpa using hb : e = b).symm
        subst this
        exact .base (he b (by simp))
      · unfold depOf at hb
        split at hb
        · rename_i p hp
          have h1 := List.mem_of_find?_eq_some hp
          have h2 : p.1.i = e := by simpa using List.find?_some hp
          exact .step (he e (by simp)) (h2 ▸ h p h1 b hb)
        · simp at hb
  exact key _ 0 (fun _ h => h) (fun a ha => by simp at ha)
theorem chk_spec : ∀ (C : Hint) (ds : List (HE × Nat)), DsOk ops ds → chk ops l ds C = true →
    (∀ x ∈ C, x.i ∉ ds.map (·.1.i)) ∧ (C.map (·.i)).Nodup ∧ ∀ A x B, C = A ++ x :: B → Good ops l (A.reverse ++ ds.map (·.1)) x
  | [], ds, _, _ => ⟨by simp, List.nodup_nil, fun A i B h => by simp at h⟩
  | x :: B, ds, hds, h => by
    simp only [chk, Bool.and_eq_true] at h
    obtain ⟨⟨⟨⟨⟨h1, h2⟩, h3⟩, h4⟩, h5⟩, h6⟩ := h
    have h2 : x.i ∉ ds.map (·.1.i) := by
      intro hm
      obtain ⟨p, hp, e⟩ := List.mem_map.1 hm
      have : (ds.any fun p => p.1.i == x.i) = true := List.any_eq_true.2 ⟨p, hp, by simp [e]⟩
      rw [this] at h2; cases h2
    have hds' : DsOk ops ((x, diOf ops ds x.i) :: ds) := by
      intro p hp a ha
      rcases List.mem_cons.1 hp with rfl | hp
      · exact diOf_spec hds a ha
      · exact hds p hp a ha
    obtain ⟨k1, k2, k3⟩ := chk_spec B _ hds' h6
    refine ⟨?_, ?_, ?_⟩
    · intro y hy
      rcases List.mem_cons.1 hy with rfl | hy
      · exact h2
      · exact fun hm => k1 y hy (by simp only [List.map_cons, List.mem_cons]; exact .inr hm)
    · simp only [List.map_cons, List.nodup_cons]
      refine ⟨fun hm => ?_, k2⟩
      obtain ⟨y, hy, e⟩ := List.mem_map.1 hm
      exact k1 y hy (by simp [e])
    · intro A x' B' e
      cases A with
      | nil =>
        simp only [List.nil_append, List.cons.injEq] at e
        obtain ⟨rfl, rfl⟩ := e
        refine ⟨h1, fun e he => ?_, diOf ops ds x.i, diOf_spec hds, by simpa using h4, by simpa using h5⟩
        obtain ⟨p, hp, hpe⟩ := List.any_eq_true.1 (List.all_eq_true.1 h3 e he)
        simp only [List.reverse_nil, List.nil_append, List.map_map, List.mem_map]
        exact ⟨p, hp, by simpa using hpe⟩
      | cons a0 A =>
        simp only [List.cons_append, List.cons.injEq] at e
        obtain ⟨rfl, rfl⟩ := e
        have := k3 A x' B' rfl
        simpa using this

theorem and_zero {a b : Nat} (h : (a &&& b == 0) = true) {t : Nat} (ha : a.testBit t = true) : b.testBit t = false := by
  have h : a &&& b = 0 := by simpa using h
  have := congrArg (·.testBit t) h
  simp only [Nat.testBit_and, ha, Bool.true_and, Nat.zero_testBit] at this
  exact this
theorem ent_op {e : HE} (h : entOk ops e = true) : ∃ o, ops[e.i]? = some o ∧ (∀ d, o.dst = some d → e.dm.testBit d = true) ∧ (∀ t ∈ rdG ops o, e.rm.testBit t = true) ∧ codeOk o.op e.c = true ∧ (∀ z ∈ e.ys, ∃ oz, ops[z]? = some oz ∧ clsO oz.op = .load) ∧ (e.c = 2 → e.ys = []) := by
  unfold entOk at h
  split at h
  · rename_i o ho
    simp only [Bool.and_eq_true] at h
    obtain ⟨⟨⟨⟨h1, h2⟩, h3⟩, h4⟩, h5⟩ := h
    refine ⟨o, ho, fun d hd => ?_, fun t ht => List.all_eq_true.1 h2 t ht, h3, fun z hz => ?_, fun hc => ?_⟩
    · simp only [hd, beq_iff_eq] at h1
      rw [h1, Nat.testBit_two_pow]; simp
    · have := List.all_eq_true.1 h4 z hz
      split at this
      · rename_i oz hoz; exact ⟨oz, hoz, by simpa using this⟩
      · cases this
    · simpa [hc] using h5
  · cases h
theorem noRd_of {e x : HE} {oe ox : Oper} (h : (e.dm &&& x.rm == 0) = true) (he : ∀ d, oe.dst = some d → e.dm.testBit d = true) (hx : ∀ t ∈ rdG ops ox, x.rm.testBit t = true) : noRd oe.dst (rdG ops ox) = true := by
  unfold noRd
  split
  · rename_i t ht
    have h1 := and_zero h (he t ht)
    simp only [Bool.not_eq_true', List.contains_eq_mem, decide_eq_false_iff_not]
    intro hm
    rw [hx t hm] at h1; cases h1
  · rfl
theorem callV_cls : ∀ {o : Op}, isCallV o = true → clsO o = .eff ∧ isPanic o = false
  | .call cl, h => by
    refine ⟨?_, isCallV_np h⟩
    cases hc : cl.callee <;> simp only [isCallV, hc, Bool.false_eq_true] at h
    simp [clsO, smallB, hc]
theorem code_cls {o : Op} {c : Nat} (h : codeOk o c = true) : (c = 0 → clsO o = .pure) ∧ (c = 1 → clsO o = .load) ∧ (c = 2 → clsO o = .alloc) ∧ (c = 3 → isCallV o = true) ∧ (c ≤ 4 → isPanic o = false) ∧ (clsO o = .load → c = 1) ∧ (clsO o = .alloc → c = 2) ∧ (clsO o = .eff → c = 3 ∨ c = 4 ∨ 5 ≤ c) := by
  have hce : isCallV o = true → clsO o = .eff ∧ isPanic o = false := callV_cls
  have hpe : isPanic o = true → clsO o = .eff := by
    exact isPanic_eff
  have hnp : clsO o ≠ .eff → isPanic o = false := by
    intro h
    cases hh : isPanic o
    · rfl
    · exact absurd (hpe hh) h
  match c, h with
  | 0, h => have h : clsO o = .pure := by simpa [codeOk] using h
            exact ⟨fun _ => h, by simp, by simp, by simp, fun _ => hnp (by rw [h]; simp), by rw [h]; simp, by rw [h]; simp, by rw [h]; simp⟩
  | 1, h => have h : clsO o = .load := by simpa [codeOk] using h
            exact ⟨by simp, fun _ => h, by simp, by simp, fun _ => hnp (by rw [h]; simp), by simp, by rw [h]; simp, by rw [h]; simp⟩
  | 2, h => have h : clsO o = .alloc := by simpa [codeOk] using h
            exact ⟨by simp, by simp, fun _ => h, by simp, fun _ => hnp (by rw [h]; simp), by rw [h]; simp, by simp, by rw [h]; simp⟩
  | 3, h => have h : isCallV o = true := by simpa [codeOk] using h
            have h2 := hce h
            exact ⟨by simp, by simp, by simp, fun _ => h, fun _ => h2.2, by rw [h2.1]; simp, by rw [h2.1]; simp, by simp⟩
  | 4, h => have h : clsO o = .eff ∧ isPanic o = false := by simpa [codeOk] using h
            exact ⟨by simp, by simp, by simp, by simp, fun _ => h.2, by rw [h.1]; simp, by rw [h.1]; simp, by simp⟩
  | c + 5, h => have h : clsO o = .eff := by simpa [codeOk] using h
                exact ⟨by simp, by simp, by simp, by simp, fun h => absurd h (by omega), by rw [h]; simp, by rw [h]; simp, fun _ => .inr (.inr (by omega))⟩
theorem pair_of {C : Hint} (hl : ∀ p ∈ C, hY C p.i = p.ys) (hall : ∀ p ∈ C, entOk ops p = true) {e x : HE} (he : e ∈ C) (hx : x ∈ C) (h : pairM C e x = true) : ∃ oe ox, ops[e.i]? = some oe ∧ ops[x.i]? = some ox ∧ PairP ops (hY C) e.i x.i oe ox := by
  obtain ⟨oe, e1, e2, e3, e4, e5, e6⟩ := ent_op (hall e he)
  obtain ⟨ox, x1, x2, x3, x4, x5, x6⟩ := ent_op (hall x hx)
  simp only [pairM, Bool.and_eq_true] at h
  obtain ⟨⟨⟨⟨⟨h1, h2⟩, h3⟩, h4⟩, h5⟩, h6⟩ := h
  have h5 : x.c ≤ 4 := by simpa using h5
  have ce := code_cls e4
  have cx := code_cls x4
  refine ⟨oe, ox, e1, x1, ⟨noRd_of h1 e2 x3, noRd_of h2 x2 e3, ?_, fun z hz => ?_, cx.2.2.2.2.1 h5, ?_, ?_, fun z hz oz hoz => ?_⟩⟩
  · unfold dsNe
    split
    · rename_i a b ha hb
      simp only [bne_iff_ne, ne_eq]
      rintro rfl
      have := and_zero h3 (x2 _ hb)
      rw [e2 _ ha] at this; cases this
    · rfl
  · rw [hl e he] at hz
    have := List.all_eq_true.1 h4 z hz
    split at this
    · rename_i ez hez
      have h1' := List.mem_of_find?_eq_some hez
      have h2' : ez.i = z := by simpa using List.find?_some hez
      obtain ⟨oz, z1, z2, z3, _⟩ := ent_op (hall ez h1')
      rw [h2'] at z1
      simp only [noRdI, x1, z1]
      exact noRd_of this x2 z3
    · cases this
  · simp only [Bool.or_eq_true, Bool.and_eq_true, beq_iff_eq] at h6
    rcases h6 with (h6 | h6) | ⟨h6 | h6, h7⟩
    · exact .inl (ce.1 h6)
    · exact .inr (.inl (ce.2.1 h6))
    · exact .inr (.inr ⟨.inl (ce.2.2.1 h6), cx.2.2.1 h7⟩)
    · exact .inr (.inr ⟨.inr (ce.2.2.2.1 h6), cx.2.2.1 h7⟩)
  · simp only [Bool.or_eq_true, Bool.and_eq_true, beq_iff_eq] at h6
    rcases h6 with (h6 | h6) | ⟨h6 | h6, h7⟩
    · exact .inr (by rw [ce.1 h6]; simp)
    · exact .inr (by rw [ce.2.1 h6]; simp)
    · exact .inr (by rw [ce.2.2.1 h6]; simp)
    · exact .inl (ce.2.2.2.1 h6)
  · rw [hl e he] at hz
    obtain ⟨oz', hz1, hz2⟩ := e5 z hz
    rw [hoz] at hz1; injection hz1 with hz1; subst hz1; exact hz2
theorem trip_spec {x : HE} : ∀ (nd : List HE) (D : Nat), trip x D nd = true → nd.Pairwise (fun b e => needs x e = true → (b.dm &&& e.rm == 0) = true) ∧ ∀ e ∈ nd, needs x e = true → e.i ∈ x.ys ∧ (D &&& e.rm == 0) = true ∧ (e.dm &&& e.rm == 0) = true
  | [], D, _ => ⟨List.Pairwise.nil, by simp⟩
  | e :: nd, D, h => by
    simp only [trip, Bool.and_eq_true, Bool.or_eq_true, Bool.not_eq_true', List.contains_eq_mem, decide_eq_true_eq] at h
    obtain ⟨h1, h2⟩ := h
    obtain ⟨k1, k2⟩ := trip_spec nd _ h2
    have sp : ∀ {a b c : Nat}, ((a ||| b) &&& c == 0) = true → (a &&& c == 0) = true ∧ (b &&& c == 0) = true := by
      intro a b c h
      have h : (a ||| b) &&& c = 0 := by simpa using h
      rw [Nat.and_or_distrib_right, Nat.or_eq_zero_iff] at h
      simpa using h
    refine ⟨List.pairwise_cons.2 ⟨fun b hb hn => (sp (k2 b hb hn).2.1).2, k1⟩, fun b hb hn => ?_⟩
    rcases List.mem_cons.1 hb with rfl | hb
    · rcases h1 with h1 | h1
      · rw [hn] at h1; cases h1
      · exact ⟨h1.1, sp h1.2⟩
    · obtain ⟨q1, q2, q3⟩ := k2 b hb hn
      exact ⟨q1, (sp q2).1, q3⟩
theorem mem_sieve {z : Nat} {ys : List Nat} : ∀ (A : List Nat), z ∈ ys → (∀ b ∈ A, noRdI ops b z = true) → z ∈ sieve ops A ys
  | [], h, _ => h
  | a :: A, h, hb => List.mem_filter.2 ⟨mem_sieve A h fun b hb' => hb b (by simp [hb']), hb a (by simp)⟩

/-- Some run is here. -/
def Real (X : Cx) (N : Nat) (s : CA) (H : Hp) : Prop := ∃ F a w, Disj H F ∧ RepA X.W N s a ∧ Held X.W (hun H F) w
theorem upon_some {P : Program} {ρ : Option Nat} {o : Oper} {a : Act} {next : Act → World → Prop} {r : Result Next} {Q : Exit → Act → World → Prop} (hQ : ∀ e a w, ¬ Q e a w) (h : o.uponIn (fen ρ) 0 P a next Q r) : ∃ a' w', next a' w' := by
  have room : ∀ n, (fen ρ).room n := fun n d hd => by simp [fen] at hd
  cases r with
  | ok n w =>
    cases n with
    | value v => exact ⟨_, _, h⟩
    | skip => exact ⟨_, _, h⟩
    | defer d => exact ⟨_, _, h⟩
    | enter f args =>
      obtain ⟨e, w', fr, hR, _⟩ := h.2.2 [] (room _)
      cases e with
      | returned v => exact ⟨_, _, hR⟩
      | panicked ch => exact (hQ _ _ _ hR).elim
      | outgrown => obtain ⟨_, _, hR⟩ := hR; exact (hQ _ _ _ hR).elim
    | row row args =>
      obtain ⟨v, w', hR, _⟩ := h.2 default [] (room _)
      exact ⟨_, _, hR⟩
    | round l f ts asg body =>
      obtain ⟨e, w', hR, _⟩ := h.2.2 default [] (room _)
      cases e with
      | returned v => exact ⟨_, _, hR⟩
      | panicked ch => exact (hQ _ _ _ hR).elim
      | outgrown => obtain ⟨_, _, hR⟩ := hR; exact (hQ _ _ _ hR).elim
    | _ => exact h.elim
  | halt x w =>
    cases x <;> first | exact (hQ _ _ _ h).elim | exact h.elim
theorem progress (hX : CxOk X) {o : Oper} {K : CV → Hp → Prop} (hr : Real X N s H) (hd : dstOk N o.dst = true) (h : vcDo X N o s H (noP Q) K) : ∃ c H', K c H' ∧ Real X N (s.put o.dst c) H' := by
  obtain ⟨F, a, w, h1, h2, h3⟩ := hr
  have h' : vcDo X N o s H (fun _ _ _ => False) K := vcDo_mono h (fun _ _ _ h => h) fun _ _ h => h
  have := do_sound (ρ := none) (next := fun a' w' => ∃ c H', K c H' ∧ Real X N (s.put o.dst c) H') hX h1 h2 h3 hd h' fun c v H' w' hv hd' hh' hk => ⟨c, H', hk, F, _, w', hd', h2.put hd hv, hh'⟩
  obtain ⟨_, _, h⟩ := upon_some (fun e a w ⟨_, _, _, _, _, _, _, h⟩ => h) this.2
  exact h
theorem progress_Sp (hX : CxOk X) {a : Nat} {oa : Oper} {ys : List Nat} {K : CA → Hp → Prop} (hoa : ops[a]? = some oa) (hnp : isPanic oa.op = false) (hr : Real X N s H) (h : Sp X N ops Q ys a K s H) : ∃ c H', K (s.put oa.dst c) H' ∧ Real X N (s.put oa.dst c) H' := by
  obtain ⟨o, e1, hd, w, hw, h⟩ := h
  rw [hoa] at e1; injection e1 with e1; subst e1
  cases w with
  | false =>
    refine ⟨.tuple [], H, h.2, ?_⟩
    obtain ⟨F, a, w, h1, h2, h3⟩ := hr
    exact ⟨F, _, w, h1, h2.put hd (rep_undef _), h3⟩
  | true =>
    have h : vcDo X N oa s H (Qo Q oa) fun c H' => _ ∧ K (s.put oa.dst c) H' := h
    have hQo : Qo Q oa = noP Q := by
      unfold Qo
      rw [hnp]
    rw [hQo] at h
    obtain ⟨c, H', ⟨_, k⟩, hr'⟩ := progress hX hr hd h
    exact ⟨c, H', k, hr'⟩
/-- What an allocation behind a row asks, is there ahead of the row. -/
theorem reach (hX : CxOk X) {i : Nat} {oi : Oper} {B : List Nat} (hoi : ops[i]? = some oi) (hc : clsO oi.op = .alloc) : ∀ (A : List Nat) (s : CA) (H : Hp), (∀ a ∈ A, ∃ oa, ops[a]? = some oa ∧ isPanic oa.op = false ∧ noRd oa.dst (rdG ops oi) = true) → Real X N s H → runD X N ops Q Y (A ++ i :: B) s H → pre X N ops oi s H
  | [], s, H, _, _, h => by
    obtain ⟨o, e1, hd, w, hw, h⟩ := (h : Sp X N ops Q (Y i) i _ s H)
    rw [hoi] at e1; injection e1 with e1; subst e1
    refine ⟨hc, hd, w, hw, fun e => ?_⟩
    subst e
    have h : vcDo X N oi s H (Qo Q oi) _ := h
    rw [vcDo_alloc hc] at h
    exact vcOp_mono h fun _ _ _ => trivial
  | a :: A, s, H, hA, hr, h => by
    obtain ⟨oa, hoa, hnp, hn⟩ := hA a (by simp)
    obtain ⟨c, H', hk, hr'⟩ := progress_Sp hX hoa hnp hr (h : Sp X N ops Q (Y a) a _ s H)
    have := reach hX hoi hc A _ H' (fun b hb => hA b (by simp [hb])) hr' hk
    exact pre_move this fun t ht => (noRd_env hn t ht).symm

theorem CO.real {l : List Nat} (h : Real X N s H → CO X.P X.W N ρ ops l Q s H) : CO X.P X.W N ρ ops l Q s H :=
  ⟨fun F a w hd hr hh => (h ⟨F, a, w, hd, hr, hh⟩).out F a w hd hr hh⟩
def unl (l : Array Bool) (i : Nat) : Bool := !l.getD i false
/-- Whatever is drawn. -/
theorem draw_go (hX : CxOk X) {C : Hint} (hC : chk ops C [] C = true) (hYl : ∀ p ∈ C, hY C p.i = p.ys) (hall : ∀ i, i < ops.size → i ∈ C.map (·.i)) : ∀ (fuel t : Nat) (listed : Array Bool) (s : CA) (H : Hp), listed.size = ops.size →
    (∀ j, listed.getD j false = true → ∀ e ∈ edges ops j, listed.getD e false = true) → (C.filter fun e => unl listed e.i).length = fuel →
    runD X N ops Q (hY C) ((C.filter fun e => unl listed e.i).map (·.i)) s H → CO X.P X.W N ρ ops (Region.linearise.go .any ops fuel t listed []) Q s H := by
  obtain ⟨_, c2, c3⟩ := chk_spec C [] (by intro p hp; simp at hp) hC
  have c3 : ∀ A x B, C = A ++ x :: B → Good ops C A.reverse x := fun A x B e => by simpa using c3 A x B e
  have hent : ∀ p ∈ C, entOk ops p = true := by
    intro p hp
    obtain ⟨A, B, e⟩ := List.append_of_mem hp
    exact (c3 A p B e).ent
  intro fuel
  induction fuel with
  | zero =>
    intro t listed s H hsz hdown hlen h
    have : (C.filter fun e => unl listed e.i) = [] := List.eq_nil_of_length_eq_zero hlen
    rw [this] at h
    simp only [Region.linearise.go, List.reverse_nil]
    exact CO.nil h
  | succ fuel ih =>
    intro t listed s H hsz hdown hlen h
    refine CO.real fun hreal => ?_
    simp only [Region.linearise.go]
    change CO X.P X.W N ρ ops (match (Region.ready .any ops listed)[t % (Region.ready .any ops listed).length]? with
      | some i => Region.linearise.go .any ops fuel (t / (Region.ready .any ops listed).length) (listed.setIfInBounds i true) [i]
      | none => [].reverse) Q s H
    have hgd : ∀ i, i < ops.size → listed.getD i true = listed.getD i false := by
      intro i hi
      have : i < listed.size := by omega
      simp [Array.getD, this]
    have hmem : ∀ i, i ∈ Region.ready .any ops listed ↔ i < ops.size ∧ listed.getD i false = false ∧ ∀ e ∈ edges ops i, listed.getD e false = true := by
      intro i
      simp only [Region.ready, List.mem_filter, List.mem_range]
      constructor
      · rintro ⟨hi, hx⟩
        rw [hgd i hi] at hx
        simp only [Array.getElem?_eq_getElem hi, Option.map_some, Option.getD_some, Bool.and_eq_true, Bool.not_eq_true', Array.all_eq_true'] at hx
        refine ⟨hi, hx.1, fun e he => ?_⟩
        simp only [edges, Array.getElem?_eq_getElem hi, List.mem_map, List.mem_filter, Array.mem_toList_iff] at he
        obtain ⟨ed, ⟨h1, h2⟩, rfl⟩ := he
        have := hx.2 ed h1
        simpa [h2] using this
      · rintro ⟨hi, h1, h2⟩
        refine ⟨hi, ?_⟩
        rw [hgd i hi]
        simp only [Array.getElem?_eq_getElem hi, Option.map_some, Option.getD_some, Bool.and_eq_true, Bool.not_eq_true', Array.all_eq_true']
        refine ⟨h1, fun ed hed => ?_⟩
        cases hb : Region.binds .any ed with
        | false => rfl
        | true =>
          simp only [Bool.not_true, Bool.false_or]
          exact h2 ed.on (by simp only [edges, Array.getElem?_eq_getElem hi, List.mem_map, List.mem_filter, Array.mem_toList_iff]; exact ⟨ed, ⟨hed, hb⟩, rfl⟩)
    have hsz' : ∀ p ∈ C, p.i < ops.size := by
      intro p hp
      obtain ⟨o, ho, _⟩ := ent_op (hent p hp)
      exact (Array.getElem?_eq_some_iff.1 ho).1
    have hne : Region.ready .any ops listed ≠ [] := by
      cases hf : C.filter (fun e => unl listed e.i) with
      | nil => rw [hf] at hlen; simp at hlen
      | cons x L =>
        have hiC : x ∈ C.filter (fun e => unl listed e.i) := by rw [hf]; simp
        obtain ⟨hi1, hi2⟩ := List.mem_filter.1 hiC
        obtain ⟨A, B, hAB, hA, hiu, hB⟩ := List.filter_eq_cons_iff.1 hf
        intro hnil
        have : x.i ∈ Region.ready .any ops listed := by
          refine (hmem x.i).2 ⟨hsz' x hi1, by simpa [unl] using hi2, fun e he => ?_⟩
          obtain ⟨p, hp, rfl⟩ := List.mem_map.1 ((c3 A x B hAB).edg e he)
          have := hA p (by simpa using hp)
          simpa [unl] using this
        rw [hnil] at this; simp at this
    cases hi : (Region.ready .any ops listed)[t % (Region.ready .any ops listed).length]? with
    | none =>
      exfalso
      apply hne
      cases hr : Region.ready .any ops listed with
      | nil => rfl
      | cons x xs =>
        rw [hr] at hi
        have hlt : t % (x :: xs).length < (x :: xs).length := Nat.mod_lt _ (by simp)
        simp at hi
        simp at hlt
        omega
    | some i =>
      simp only []
      rw [linearise_go_acc, List.reverse_singleton, List.singleton_append]
      obtain ⟨hisz, hiun, hied⟩ := (hmem i).1 (List.mem_of_getElem? hi)
      obtain ⟨x, hxC, rfl⟩ := List.mem_map.1 (hall i hisz)
      obtain ⟨A, B, hAB⟩ := List.append_of_mem hxC
      have hnd : (∀ p ∈ A, p.i ≠ x.i) ∧ ∀ p ∈ B, p.i ≠ x.i := by
        rw [hAB] at c2
        simp only [List.map_append, List.map_cons] at c2
        have := List.nodup_append.1 c2
        exact ⟨fun p hp e => this.2.2 p.i (List.mem_map.2 ⟨p, hp, rfl⟩) x.i (by simp) e, fun p hp e => (List.nodup_cons.1 this.2.1).1 (List.mem_map.2 ⟨p, hp, e⟩)⟩
      have hsplit : C.filter (fun e => unl listed e.i) = A.filter (fun e => unl listed e.i) ++ x :: B.filter (fun e => unl listed e.i) := by
        rw [hAB, List.filter_append, List.filter_cons_of_pos (by simp [unl, hiun])]
      have hnew : ∀ D : List HE, (∀ p ∈ D, p.i ≠ x.i) → D.filter (fun e => unl (listed.setIfInBounds x.i true) e.i) = D.filter (fun e => unl listed e.i) := by
        intro D hD
        refine List.filter_congr fun j hj => ?_
        simp only [unl]
        rw [getD_set_ne false (fun e => hD j hj e.symm)]
      have hi' : unl (listed.setIfInBounds x.i true) x.i = false := by
        have : x.i < listed.size := by omega
        simp [unl, Array.getD, this]
      have hrest : C.filter (fun e => unl (listed.setIfInBounds x.i true) e.i) = A.filter (fun e => unl listed e.i) ++ B.filter (fun e => unl listed e.i) := by
        rw [hAB, List.filter_append, List.filter_cons_of_neg (by simp [hi']), hnew A hnd.1, hnew B hnd.2]
      have hdepl : ∀ j a, Dep ops j a → (∀ e ∈ edges ops j, listed.getD e false = true) → listed.getD a false = true := by
        intro j a hd
        induction hd with
        | base he => intro h; exact h _ he
        | step hj _ ihd => intro h; exact ihd (hdown _ (h _ hj))
      rw [hsplit, List.map_append, List.map_cons] at h
      obtain ⟨gent, gedg, di, gd1, gd2, gd3⟩ := c3 A x B hAB
      obtain ⟨ox, x1, x2, x3, x4, x5, x6⟩ := ent_op gent
      have hpend : ∀ p ∈ A.filter (fun e => unl listed e.i), p ∈ ndOf di A.reverse := by
        intro p hp
        obtain ⟨hp1, hp2⟩ := List.mem_filter.1 hp
        refine List.mem_filter.2 ⟨by simpa using hp1, ?_⟩
        cases ht : di.testBit p.i with
        | false => rfl
        | true =>
          have := hdepl x.i p.i (gd1 _ ht) hied
          simp [unl, this] at hp2
      have hpair : ∀ p ∈ A.filter (fun e => unl listed e.i), ∃ oe, ops[p.i]? = some oe ∧ PairP ops (hY C) p.i x.i oe ox := by
        intro p hp
        have hpC : p ∈ C := by rw [hAB]; exact List.mem_append_left _ (List.mem_filter.1 hp).1
        obtain ⟨oe, ox', q1, q2, q3⟩ := pair_of hYl hent hpC hxC (List.all_eq_true.1 gd2 p (hpend p hp))
        rw [x1] at q2; injection q2 with q2; subst q2
        exact ⟨oe, q1, q3⟩
      obtain ⟨t1, t2⟩ := trip_spec _ _ gd3
      have hord : ((A.filter (fun e => unl listed e.i)).reverse).Pairwise (fun b e => needs x e = true → (b.dm &&& e.rm == 0) = true) := by
        refine t1.sublist ?_
        rw [← List.filter_reverse]
        have e1 : A.reverse.filter (fun e => unl listed e.i) = (ndOf di A.reverse).filter (fun e => unl listed e.i) := by
          simp only [ndOf, List.filter_filter]
          refine List.filter_congr fun p hp => ?_
          cases hu : unl listed p.i with
          | false => rfl
          | true =>
            have := (List.mem_filter.1 (hpend p (List.mem_filter.2 ⟨by simpa using hp, hu⟩))).2
            simp [this]
        rw [e1]
        exact List.filter_sublist
      have hxa : clsO ox.op = .alloc → hY C x.i = [] := by
        intro hc
        rw [hYl x hxC]
        exact x6 ((code_cls x4).2.2.2.2.2.2.1 hc)
      have hb := bubble (Q := Q) x1 ((A.filter (fun e => unl listed e.i)).map (·.i)) s H (fun A1 a A2 e => by
        obtain ⟨P1, P2, e0, rfl, e2⟩ := List.map_eq_append_iff.1 e
        obtain ⟨p, P3, rfl, rfl, rfl⟩ := List.map_eq_cons_iff.1 e2
        have hpm : p ∈ A.filter (fun e => unl listed e.i) := by rw [e0]; simp
        obtain ⟨oe, q1, q2⟩ := hpair p hpm
        refine ⟨oe, q1, q2, fun hl he => ?_⟩
        have hpC : p ∈ C := by rw [hAB]; exact List.mem_append_left _ (List.mem_filter.1 hpm).1
        obtain ⟨oe', p1, p2, p3, p4, p5, p6⟩ := ent_op (hent p hpC)
        rw [q1] at p1; injection p1 with p1; subst p1
        have hc1 : p.c = 1 := (code_cls p4).2.2.2.2.2.1 hl
        have hx5 : x.c ≤ 4 := by
          have := List.all_eq_true.1 gd2 p (hpend p hpm)
          simp only [pairM, Bool.and_eq_true] at this
          simpa using this.1.2
        have hn : needs x p = true := by
          rcases (code_cls x4).2.2.2.2.2.2.2 he with h | h | h
          · simp [needs, h, hc1]
          · simp [needs, h, hc1]
          · omega
        obtain ⟨m1, _, m3⟩ := t2 p (hpend p hpm) hn
        rw [hYl x hxC]
        refine mem_sieve _ m1 fun b hb => ?_
        simp only [noRdI]
        rcases List.mem_cons.1 hb with rfl | hb
        · simp only [q1]
          exact noRd_of m3 p2 p3
        · obtain ⟨pb, hpb, rfl⟩ := List.mem_map.1 hb
          have hpbm : pb ∈ A.filter (fun e => unl listed e.i) := by rw [e0]; simp [hpb]
          have hpbC : pb ∈ C := by rw [hAB]; exact List.mem_append_left _ (List.mem_filter.1 hpbm).1
          obtain ⟨ob, b1, b2, _⟩ := ent_op (hent pb hpbC)
          simp only [b1, q1]
          refine noRd_of (e := pb) (x := p) ?_ b2 p3
          rw [e0] at hord
          simp only [List.reverse_append, List.reverse_cons, List.append_assoc] at hord
          have := (List.pairwise_append.1 hord).2.2 pb (by simpa using hpb) p (by simp)
          exact this hn)
        (fun hc => ⟨reach hX x1 hc _ s H (fun a ha => by
          obtain ⟨p, hp, rfl⟩ := List.mem_map.1 ha
          obtain ⟨oe, q1, q2⟩ := hpair p hp
          refine ⟨oe, q1, ?_, q2.r1⟩
          cases hpn : isPanic oe.op with
          | false => rfl
          | true =>
            exfalso
            have h1 : clsO oe.op = .eff ∧ isCallV oe.op = false := by
              refine ⟨isPanic_eff hpn, ?_⟩
              cases hcv : isCallV oe.op with
              | false => rfl
              | true => rw [isCallV_np hcv] at hpn; cases hpn
            rcases q2.yl with h | h
            · rw [h1.2] at h; cases h
            · exact h h1.1) hreal h, hxa hc⟩) h
      rw [← List.map_append, ← hrest] at hb
      exact step_sound hX (vcStep_of_Sp hb) fun s' H' hk => ih _ (listed.setIfInBounds x.i true) s' H' (by simpa using hsz) (fun j hj e he => by
        by_cases hji : j = x.i
        · subst hji
          exact getD_set_true (hied e he)
        · rw [getD_set_ne false (fun e => hji e.symm)] at hj
          exact getD_set_true (hdown j hj e he)) (by
        rw [hrest]
        rw [hsplit] at hlen
        simp only [List.length_append, List.length_cons] at hlen ⊢
        omega) hk
/-- A region's operations, in the hint's order, with what is asked for the others' sake. -/
def allP : List Nat → (Nat → Prop) → Prop
  | [], _ => True
  | z :: l, p => p z ∧ allP l p
def stabI (X : Cx) (N : Nat) (ops : Array Oper) (s : CA) (H H' : Hp) (z : Nat) : Prop := match ops[z]? with | some o => Stab X N o s H H' | none => True
def vcD (X : Cx) (N : Nat) (ops : Array Oper) (Q : CP) : Hint → CA → Hp → Prop
  | [], s, H => Q .normal s H
  | e :: l, s, H => match ops[e.i]? with
    | some o => vcStepO X N ops o (Qo Q o) (fun s' H' => allP e.ys (stabI X N ops s H H') ∧ vcD X N ops Q l s' H') s H
    | none => False
theorem allP_spec {l : List Nat} {p : Nat → Prop} (h : allP l p) : ∀ z ∈ l, p z := by
  induction l with
  | nil => intro z hz; simp at hz
  | cons a l ih => intro z hz; rcases List.mem_cons.1 hz with rfl | hz; exact h.1; exact ih h.2 z hz
theorem runD_of_vcD {Y : Nat → List Nat} : ∀ (l : Hint) (s : CA) (H : Hp), (∀ p ∈ l, Y p.i = p.ys) → vcD X N ops Q l s H → runD X N ops Q Y (l.map (·.i)) s H
  | [], s, H, _, h => h
  | e :: l, s, H, hl, h => by
    have hp := hl e (by simp)
    simp only [vcD] at h
    split at h
    case h_2 => exact h.elim
    rename_i o ho
    show Sp X N ops Q (Y e.i) e.i _ s H
    refine ⟨o, ho, ?_⟩
    refine stp_mono (stp_of_stepO h) fun s' H' ⟨h1, h2⟩ => ⟨fun z hz oz hoz => ?_, runD_of_vcD l s' H' (fun p hp => hl p (by simp [hp])) h2⟩
    rw [hp] at hz
    have := allP_spec h1 z hz
    simpa [stabI, hoz] using this
theorem CW.draw (hX : CxOk X) (hm : X.P.follows .mixedOrders = true) {id : Nat} {l : Hint} (hok : drawOk ops l = true) (h : vcD X N ops Q l s H) : CW X.P X.W N ρ (.region id ops true) Q s H := by
  simp only [drawOk, Bool.and_eq_true, beq_iff_eq] at hok
  obtain ⟨⟨⟨h1, h2⟩, h3⟩, h4⟩ := hok
  have hYl : ∀ p ∈ l, hY l p.i = p.ys := fun p hp => by simpa using List.all_eq_true.1 h3 p hp
  have hrun := runD_of_vcD (Y := hY l) l s H hYl h
  have hun : l.filter (fun e => unl (Array.replicate ops.size false) e.i) = l := by
    refine List.filter_eq_self.2 fun i _ => ?_
    simp only [unl, Array.getD, Array.size_replicate]
    split <;> simp
  refine CW.region_draw fun t => ?_
  rw [Region.schedule, hm, Bool.true_or, if_pos rfl]
  refine draw_go hX h4 hYl (fun i hi => ?_) ops.size t _ s H (by simp) (fun j hj => ?_) (by rw [hun]; exact h1) (by rw [hun]; exact hrun)
  · obtain ⟨p, hp, e⟩ := List.any_eq_true.1 (List.all_eq_true.1 h2 i (by simpa using hi))
    exact List.mem_map.2 ⟨p, hp, by simpa using e⟩
  · simp only [Array.getD, Array.size_replicate] at hj
    split at hj <;> simp at hj
end
end Go.Cl
