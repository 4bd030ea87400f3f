/- DERIVED HERE. The reference's Engine in the heap; end, enter. -/
import Derived.Test.YtfkdjajpopocpaaDoorEB
set_option linter.unusedSimpArgs false
set_option linter.unusedVariables false
namespace Go.Cl
open Go.Proofs Dd
variable {W : World} {G : Nat → CV}
set_option maxRecDepth 8000
def valsC (n : Nat) (f : Nat → Val) : List CV := ((List.range n).map fun i => valC (f i)).flatten
theorem valsC_all (n : Nat) (f : Nat → Val) : ∀ e ∈ (List.range n).map (fun i => valC (f i)), e.length = 2 := fun e he => by
  obtain ⟨_, _, rfl⟩ := List.mem_map.1 he; rfl
theorem valsC_len (n : Nat) (f : Nat → Val) : (valsC n f).length = n * 2 := by rw [valsC, flat_len (valsC_all n f)]; simp
theorem valsC_get {n i : Nat} (f : Nat → Val) (h : i < n) : ((valsC n f).drop (i * 2)).take 2 = valC (f i) := by
  have := flat_take (ex := []) (valsC_all n f) (i := i) (e := valC (f i)) (by rw [List.getElem?_map, List.getElem?_range h]; rfl)
  simpa [valsC] using this
/-- Which block a slice lies in, with its label. -/
def Lab (lab : Nat → Nat) (v : CV) (n : Nat) : Prop := ∀ r o l c, v = .ref r o l c → lab r = n
structure EV where
  q : Nat
  rr : Nat
  rk : Nat
  rc : Nat
  v0 : CV
  v5 : CV
  vC : CV
  vP : CV
  vW : CV
def engC (a : EV) (u : UUnit) (e : Eng) : List CV :=
  [a.v0, ci u.params, ci u.regs, ci u.code, ci u.spill, a.v5, .ref a.rr 0 u.regs.toNat u.regs.toNat, a.vC, .ref a.rk 0 u.spill.toNat u.spill.toNat, .int .i64 e.block, .int .i64 e.pc, ci e.steps, a.vP, ci e.out.kind, ci e.out.value, .bool e.done, .ref a.rc 0 u.blocks.length u.blocks.length, a.vW]
/-- The Engine's memory, above a base that holds the unit's. -/
structure EH (B H : Hp) (lab : Nat → Nat) (κ : Nat → Nat) (a : EV) (u : UUnit) (e : Eng) : Prop where
  le : Le B H
  nb : ∀ x, B x ≠ none → lab x = 0
  hq : H a.q = some (.cells (engC a u e))
  hr : H a.rr = some (.cells (valsC u.regs.toNat e.regs))
  hk : H a.rk = some (.cells (valsC u.spill.toNat e.kept))
  hc : ∃ cs, H a.rc = some (.cells cs) ∧ cs.length = u.blocks.length * 3 ∧ ∀ c ∈ cs, ∃ n, c = ci n
  hp : Own B H a.vP 1 (ints e.out.prints)
  hw : ∃ L, Own B H a.vW 1 (ints L) ∧ L.length ≤ 20000
  hC : Own B H a.vC 1 ((List.range u.sizes.length).map fun i => [.ref (κ i) 0 (e.cells i).length (e.cells i).length])
  hκ : ∀ i, i < u.sizes.length → H (κ i) = some (.cells ((e.cells i).map fun n => ci n))
  lq : lab a.q = 1
  lr : lab a.rr = 2
  lk : lab a.rk = 3
  lc : lab a.rc = 4
  lP : Lab lab a.vP 5
  lW : Lab lab a.vW 6
  lC : Lab lab a.vC 7
  lκ : ∀ i, i < u.sizes.length → lab (κ i) = 8 + i
theorem Own.keep {B H : Hp} {v : CV} {sz : Nat} {xs : List (List CV)} {x : Nat} {o : Ob} (h : Own B H v sz xs) (hB : B x = none) (hv : ∀ r o l c, v = .ref r o l c → r ≠ x) : Own B (H.set x o) v sz xs := by
  obtain ⟨h1, h2, h3⟩ := h
  refine ⟨h1.put hB, h2, ?_⟩
  rcases h3 with h3 | ⟨r, c, ex, rfl, h4, h5, h6⟩
  · exact .inl h3
  · exact .inr ⟨r, c, ex, rfl, h4, by simp only [Hp.set]; rw [if_neg (hv _ _ _ _ rfl)]; exact h5, h6⟩
/-- The Engine's own block is written; what its slices hold stays. -/
theorem EH.setq {B H : Hp} {lab κ : Nat → Nat} {a : EV} {u : UUnit} {e e' : Eng} (h : EH B H lab κ a u e) (h1 : e'.regs = e.regs) (h2 : e'.kept = e.kept) (h3 : e'.cells = e.cells) (h4 : e'.out.prints = e.out.prints) : EH B (H.set a.q (.cells (engC a u e'))) lab κ a u e' := by
  have hne : ∀ {x n}, lab x = n → n ≠ 1 → x ≠ a.q := fun hx hn k => hn (by rw [← hx, k, h.lq])
  have hB : B a.q = none := by
    cases hb : B a.q with
    | none => rfl
    | some o => have := h.nb a.q (by rw [hb]; simp); rw [h.lq] at this; cases this
  have get : ∀ {x n}, lab x = n → n ≠ 1 → (H.set a.q (.cells (engC a u e'))) x = H x := fun hx hn => by simp only [Hp.set]; rw [if_neg (hne hx hn)]
  obtain ⟨cs, c1, c2, c3⟩ := h.hc
  obtain ⟨L, w1, w2⟩ := h.hw
  refine { le := h.le.put hB, nb := h.nb, hq := set_at, hr := ?_, hk := ?_, hc := ⟨cs, ?_, c2, c3⟩, hp := ?_, hw := ⟨L, ?_, w2⟩, hC := ?_, hκ := fun i hi => ?_, lq := h.lq, lr := h.lr, lk := h.lk, lc := h.lc, lP := h.lP, lW := h.lW, lC := h.lC, lκ := h.lκ }
  · rw [get h.lr (by decide), h1]; exact h.hr
  · rw [get h.lk (by decide), h2]; exact h.hk
  · rw [get h.lc (by decide)]; exact c1
  · rw [h4]; exact h.hp.keep hB fun r o l c k => hne (h.lP r o l c k) (by decide)
  · exact w1.keep hB fun r o l c k => hne (h.lW r o l c k) (by decide)
  · rw [h3]; exact h.hC.keep hB fun r o l c k => hne (h.lC r o l c k) (by decide)
  · rw [get (h.lκ i hi) (by omega), h3]; exact h.hκ i hi
theorem end49_c (hX : CxOk (cx W G)) (a : EV) (u : UUnit) (e : Eng) (k v : Int) {H : Hp} (hq : H a.q = some (.cells (engC a u e))) : CC Tryd.prog W 49 [.ptr a.q 0, ci k, ci v] H fun x H' => x = .ret (.tuple []) ∧ H' = H.set a.q (.cells (engC a u (endE k v e))) := by
  refine CC.of_ev hX mixed d49 Tryd.func49 rfl rfl (Nat.le_of_ble_eq_true rfl) d49_ok ?_
  simp only [engC] at hq
  simp [Tryd.f49, d49, hq, engC, endE]
theorem EH.bnone {B H : Hp} {lab κ : Nat → Nat} {a : EV} {u : UUnit} {e : Eng} (h : EH B H lab κ a u e) {x : Nat} (hx : lab x ≠ 0) : B x = none := by
  cases hb : B x with
  | none => rfl
  | some o => exact absurd (h.nb x (by rw [hb]; simp)) hx
/-- The counts are written. -/
theorem EH.setc {B H : Hp} {lab κ : Nat → Nat} {a : EV} {u : UUnit} {e : Eng} (h : EH B H lab κ a u e) {cs : List CV} (hl : cs.length = u.blocks.length * 3) (hi : ∀ c ∈ cs, ∃ n, c = ci n) : EH B (H.set a.rc (.cells cs)) lab κ a u e := by
  have hne : ∀ {x n}, lab x = n → n ≠ 4 → x ≠ a.rc := fun hx hn k => hn (by rw [← hx, k, h.lc])
  have hB : B a.rc = none := h.bnone (by rw [h.lc]; decide)
  have get : ∀ {x n}, lab x = n → n ≠ 4 → (H.set a.rc (.cells cs)) x = H x := fun hx hn => by simp only [Hp.set]; rw [if_neg (hne hx hn)]
  obtain ⟨L, w1, w2⟩ := h.hw
  refine { le := h.le.put hB, nb := h.nb, hq := ?_, hr := ?_, hk := ?_, hc := ⟨cs, set_at, hl, hi⟩, hp := ?_, hw := ⟨L, ?_, w2⟩, hC := ?_, hκ := fun i hi => ?_, lq := h.lq, lr := h.lr, lk := h.lk, lc := h.lc, lP := h.lP, lW := h.lW, lC := h.lC, lκ := h.lκ }
  · rw [get h.lq (by decide)]; exact h.hq
  · rw [get h.lr (by decide)]; exact h.hr
  · rw [get h.lk (by decide)]; exact h.hk
  · exact h.hp.keep hB fun r o l c k => hne (h.lP r o l c k) (by decide)
  · exact w1.keep hB fun r o l c k => hne (h.lW r o l c k) (by decide)
  · exact h.hC.keep hB fun r o l c k => hne (h.lC r o l c k) (by decide)
  · rw [get (h.lκ i hi) (by omega)]; exact h.hκ i hi
def labS (lab : Nat → Nat) (v : CV) (n : Nat) : Nat → Nat := match v with | .ref r _ _ _ => fset lab r n | _ => lab
theorem labS_at {lab : Nat → Nat} {v : CV} {n : Nat} : Lab (labS lab v n) v n := fun r o l c k => by subst k; simp [labS, fset]
theorem labS_ne {lab : Nat → Nat} {v : CV} {n x : Nat} (h : ∀ r o l c, v = .ref r o l c → x ≠ r) : labS lab v n x = lab x := by
  cases v with
  | ref r o l c => simp only [labS, fset]; rw [if_neg (h r o l c rfl)]
  | _ => rfl
theorem Own.at0 {B H : Hp} {v : CV} {sz : Nat} {xs : List (List CV)} (h : Own B H v sz xs) {r o l c : Nat} (hv : v = .ref r o l c) : o = 0 ∧ (∃ ob, H r = some ob) ∧ B r = none := by
  rcases h.2.2 with ⟨h1, _⟩ | ⟨q, c', ex, h1, h2, h3, _⟩
  · rw [h1] at hv; cases hv
  · rw [h1] at hv; injection hv with e1 e2 e3 e4
    subst e1
    exact ⟨e2.symm, ⟨_, h3⟩, h2⟩
/-- The way has grown, and the Engine's own block tells it. -/
theorem EH.setw {B H H4 : Hp} {lab κ : Nat → Nat} {a : EV} {u : UUnit} {e : Eng} (h : EH B H lab κ a u e) {v' : CV} {L : List Int} (how : Own B H4 v' 1 (ints L)) (hL : L.length ≤ 20000)
    (kp : ∀ r o, H r = some o → (∀ n c, a.vW ≠ .ref r 0 n c) → H4 r = some o ∧ ∀ n c, v' ≠ .ref r 0 n c) : EH B (H4.set a.q (.cells (engC { a with vW := v' } u e))) (labS lab v' 6) κ { a with vW := v' } u e := by
  have hW : ∀ {x n}, lab x = n → n ≠ 6 → ∀ m c, a.vW ≠ .ref x 0 m c := fun hx hn m c k => hn (by rw [← hx, h.lW _ _ _ _ k])
  have keep : ∀ {x n o}, lab x = n → n ≠ 6 → H x = some o → H4 x = some o ∧ labS lab v' 6 x = n := fun hx hn ho => by
    obtain ⟨k1, k2⟩ := kp _ _ ho (hW hx hn)
    refine ⟨k1, ?_⟩
    rw [labS_ne (fun r o l c k e => by
      have h0 := (how.at0 k).1
      subst h0
      exact k2 l c (by rw [k, e])), hx]
  have own : ∀ {v sz xs n}, Own B H v sz xs → Lab lab v n → n ≠ 6 → n ≠ 0 → Own B H4 v sz xs ∧ Lab (labS lab v' 6) v n := fun {v sz xs n} ho hl hn hn0 => by
    obtain ⟨h1, h2, h3⟩ := ho
    rcases h3 with h3 | ⟨r, c, ex, rfl, h4, h5, h6⟩
    · exact ⟨⟨how.le, h2, .inl h3⟩, fun r o l c k => by rw [h3.1] at k; cases k⟩
    · obtain ⟨k1, k2⟩ := keep (hl _ _ _ _ rfl) hn h5
      exact ⟨⟨how.le, h2, .inr ⟨r, c, ex, rfl, h4, k1, h6⟩⟩, fun r' o l c' k => by injection k with e1; subst e1; exact k2⟩
  have hB : B a.q = none := h.bnone (by rw [h.lq]; decide)
  obtain ⟨q1, q2⟩ := keep h.lq (by decide) h.hq
  obtain ⟨r1, r2⟩ := keep h.lr (by decide) h.hr
  obtain ⟨k1, k2⟩ := keep h.lk (by decide) h.hk
  obtain ⟨cs, c1, c2, c3⟩ := h.hc
  obtain ⟨d1, d2⟩ := keep h.lc (by decide) c1
  obtain ⟨p1, p2⟩ := own h.hp h.lP (by decide) (by decide)
  obtain ⟨e1, e2⟩ := own h.hC h.lC (by decide) (by decide)
  have hl6 : Lab (labS lab v' 6) v' 6 := labS_at
  have hne : ∀ {x n}, labS lab v' 6 x = n → n ≠ 1 → x ≠ a.q := fun hx hn k => hn (by rw [← hx, k, q2])
  have get : ∀ {x n o}, labS lab v' 6 x = n → n ≠ 1 → H4 x = some o → (H4.set a.q (.cells (engC { a with vW := v' } u e))) x = some o := fun hx hn ho => by simp only [Hp.set]; rw [if_neg (hne hx hn)]; exact ho
  refine { le := how.le.put hB, nb := fun x hx => ?_, hq := set_at, hr := get r2 (by decide) r1, hk := get k2 (by decide) k1, hc := ⟨cs, get d2 (by decide) d1, c2, c3⟩, hp := ?_, hw := ⟨L, ?_, hL⟩, hC := ?_, hκ := fun i hi => ?_, lq := q2, lr := r2, lk := k2, lc := d2, lP := p2, lW := hl6, lC := e2, lκ := fun i hi => (keep (h.lκ i hi) (by omega) (h.hκ i hi)).2 }
  · rw [labS_ne fun r o l c k ek => by
      have := (how.at0 k).2.2
      rw [← ek] at this
      exact hx this]
    exact h.nb x hx
  · exact p1.keep hB fun r o l c k => hne (p2 r o l c k) (by decide)
  · exact how.keep hB fun r o l c k => hne (hl6 r o l c k) (by decide)
  · exact e1.keep hB fun r o l c k => hne (e2 r o l c k) (by decide)
  · obtain ⟨g1, g2⟩ := keep (h.lκ i hi) (by omega) (h.hκ i hi)
    exact get g2 (by omega) g1
theorem enter29_c (hX : CxOk (cx W G)) {B H : Hp} {lab κ : Nat → Nat} {a : EV} {u : UUnit} {e : Eng} (h : EH B H lab κ a u e) (b : Nat) (hb : b < u.blocks.length) (hbn : u.blocks.length ≤ 2000) :
    CC Tryd.prog W 29 [.ptr a.q 0, .int .i64 b] H fun x H' => x = .ret (.tuple []) ∧ ∃ lab' w, EH B H' lab' κ { a with vW := w } u (enterE b e) := by
  refine CC.of_cw hX Tryd.func29 rfl rfl (Nat.le_of_ble_eq_true rfl) ?_
  have hq := h.hq
  simp only [engC] at hq
  refine CW.walk hX mixed d29 rfl ?_
  simp [hq]
  refine CW.walk hX mixed d29 rfl ?_
  simp
  have h1 := h.setq (e' := enterE b e) rfl rfl rfl rfl
  obtain ⟨cs, c1, c2, c3⟩ := h.hc
  have hqc : a.q ≠ a.rc := fun k => by have := h.lq; rw [k, h.lc] at this; cases this
  obtain ⟨n, hn⟩ := c3 _ (List.getElem_mem (show b * 3 < cs.length by omega))
  have hn' : cs[b * 3]? = some (ci n) := by rw [List.getElem?_eq_getElem (by omega), hn]
  refine CW.walk hX mixed d29 rfl ?_
  simp [hqc, Ne.symm hqc, c1, hb, hn']
  refine ⟨by omega, ?_⟩
  generalize hH2 : Hp.set (Hp.set H a.q _) a.rc _ = H2
  have h2 : EH B H2 lab κ a u (enterE b e) := by
    rw [← hH2]
    refine h1.setc ?_ fun c hc => ?_
    · simp; omega
    · rcases List.mem_append.1 hc with hc | hc
      · exact c3 c (List.mem_of_mem_take hc)
      · rcases List.mem_cons.1 hc with hc | hc
        · exact ⟨_, hc⟩
        · exact c3 c (List.mem_of_mem_drop hc)
  clear hH2 h1
  have hq2 := h2.hq
  simp only [engC, enterE] at hq2
  obtain ⟨L, w1, w2⟩ := h2.hw
  have hlen : ∀ e ∈ [[ci (b : Int)]], e.length = 1 := by simp
  have fin : ∀ r, H2 r = none → ∀ v' H4, Own B H4 v' 1 (ints (L ++ [(b : Int)])) → L.length < 20000 → (∀ q o, (H2.set r (.cells [ci b])) q = some o → (∀ n c, a.vW ≠ .ref q 0 n c) → H4 q = some o ∧ ∀ n c, v' ≠ .ref q 0 n c) →
      H4 a.q = some (.cells (engC a u (enterE b e))) ∧ ∃ lab' w, EH B (H4.set a.q (.cells (engC { a with vW := w } u (enterE b e)))) lab' κ { a with vW := w } u (enterE b e) ∧ w = v' := fun r hr v' H4 how4 hL kp => by
    have hs : ∀ q o, H2 q = some o → (H2.set r (.cells [ci b])) q = some o := fun q o hq => Le.set_new hr q o hq
    refine ⟨(kp a.q _ (hs _ _ h2.hq) fun n c k => ?_).1, _, v', h2.setw how4 (by simp; omega) (fun q o hq hn => kp q o (hs q o hq) hn), rfl⟩
    have := h2.lW _ _ _ _ k
    rw [h2.lq] at this
    cases this
  rcases w1.2.2 with ⟨hv, hx⟩ | ⟨r, c, ex, hv, _, _, _⟩
  · refine CW.walk1 hX mixed d29 rfl ?_
    simp [hq2, hv, cfill, -vcAppend]
    intro r hr
    have w1' : Own B H2 .nilsl 1 (ints L) := by rw [← hv]; exact w1
    have hL : L = [] := by simpa [ints] using hx
    refine (w1'.more hr).append2 (ys := [[ci (b : Int)]]) hlen (by simp [hL, ints]) (src_one set_at rfl) fun v' H4 how4 kp => ?_
    obtain ⟨mq, lab', w, hE, rfl⟩ := fin r hr v' H4 (by simpa [ints] using how4) (by simp [hL]) fun q o hq hn => kp q o hq fun n c => by rw [← hv]; exact hn n c
    have hvs : w.stor = true ∧ w.cells = [w] := by
      obtain ⟨_, _, ⟨rfl, _⟩ | ⟨q, c, ex, rfl, _⟩⟩ := how4 <;> exact ⟨rfl, rfl⟩
    simp only [CV.stor, CV.cells] at hvs
    simp only [engC, enterE] at mq
    simp [mq, hvs]
    exact ⟨lab', w, hE⟩
  · refine CW.walk1 hX mixed d29 rfl ?_
    simp [hq2, hv, cfill, -vcAppend]
    refine ⟨fun hl r1 hr => ?_, fun _ => ⟨lab, a.vW, h2⟩⟩
    have w1' : Own B H2 (.ref r 0 (ints L).length c) 1 (ints L) := by rw [← hv]; exact w1
    have hL : L.length < 20000 := by simp [ints] at hl; omega
    refine (w1'.more hr).append2 (ys := [[ci (b : Int)]]) hlen (by simp [ints]; omega) (src_one set_at rfl) fun v' H4 how4 kp => ?_
    obtain ⟨mq, lab', w, hE, rfl⟩ := fin r1 hr v' H4 (by simpa [ints] using how4) hL fun q o hq hn => kp q o hq fun n c => by rw [← hv]; exact hn n c
    have hvs : w.stor = true ∧ w.cells = [w] := by
      obtain ⟨_, _, ⟨rfl, _⟩ | ⟨q, c, ex, rfl, _⟩⟩ := how4 <;> exact ⟨rfl, rfl⟩
    simp only [CV.stor, CV.cells] at hvs
    simp only [engC, enterE] at mq
    simp [mq, hvs]
    exact ⟨lab', w, hE⟩
end Go.Cl
