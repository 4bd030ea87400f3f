/- DERIVED HERE. The clean layer: a range over a function. -/
import Derived.Test.YtfkdjajpopocpaaDoorCl13
import Derived.RangeFuncRecord
set_option linter.unusedSimpArgs false
set_option linter.unusedVariables false
namespace Go.Cl
open Go.RowKit

/-- What an iterator does: it hands the rounds one list of values after the other, and ends early where a round is left otherwise. -/
def Iter (P : Program) (W : World) (f : FuncId) (fs cap : List CV) (ys : List (List CV)) (Inv : Hp → Prop) : Prop :=
  ∀ (l : Nat) (J : Nat → Hp → Prop) (E : Hp → Prop) (H0 : Hp), (∀ k H, J k H → Inv H) → J 0 H0 → (∀ k args, ys[k]? = some args → ∀ H, J k H → CY P W l args H (fun b H' => if b = true then J (k + 1) H' else E H')) →
    CC P W f (fs ++ [.func (.yield l) [] []] ++ cap) H0 (fun x H' => (∃ v, x = .ret v) ∧ (J ys.length H' ∨ E H'))
def setps : Env → List Nat → List CV → Env
  | e, p :: ps, a :: as => setps (e.set p a) ps as
  | e, _, _ => e
/-- How a round is left. -/
def roundX (J : Hp → Prop) (Ex : Code → Hp → Prop) : CP := fun x _ H =>
  match x with
  | .normal => J H
  | .ret => Ex .ret H
  | .exit i => Ex (.exit i) H
  | .goto t => Ex (.goto t) H
  | .panic _ => False
def nextX (K : CA → Hp → Prop) : CP := fun x s H => match x with | .normal => K s H | _ => False

section
variable {X : Cx} {N : Nat} {ρ : Option Nat} {Q : CP} {s : CA} {H : Hp} {P : Program} {W : World}

theorem RepE.setps : ∀ {ps : List Nat} {args : List CV} {av : List Value} {e : Env} {ts : Array Value}, RepE W N e ts → (∀ p ∈ ps, p < N) → RepL W args av → args.length = ps.length →
    RepE W N (setps e ps args) ((ps.zip av).foldl (fun t x => t.setIfInBounds x.1 x.2) ts)
  | [], args, av, e, ts, h, _, _, _ => by cases args <;> exact h
  | p :: ps, [], av, e, ts, h, _, _, hl => by simp at hl
  | p :: ps, a :: as, [], e, ts, h, _, hr, hl => by have := hr.1; simp at this
  | p :: ps, a :: as, v :: vs, e, ts, h, hp, hr, hl => by
    simp only [Cl.setps, List.zip_cons_cons, List.foldl_cons]
    exact RepE.setps (h.put (hp p (by simp)) (hr.2 0 a v rfl rfl)) (fun q hq => hp q (by simp [hq])) ⟨by simpa using hr.1, fun i x u hx hu => hr.2 (i + 1) x u (by simpa using hx) (by simpa using hu)⟩ (by simpa using hl)
theorem Held.putLoop {w : World} (h : Held W H w) {l : Nat} {o o' : Ob} {ob : Obj} (hl : H l = some o) (ho : RepOb W o' ob) : Held W (H.set l o') (w.putObj l ob) := by
  obtain ⟨h1, ob0, h2, h3⟩ := h.at_ l o hl
  refine ⟨h.below.trans ⟨rfl, rfl, rfl, by simp, fun k hk => World.putObj_heap_other (by omega)⟩, fun r o2 hr => ?_⟩
  by_cases e : r = l
  · subst e
    simp only [Hp.set, if_true, Option.some.injEq] at hr
    subst hr
    exact ⟨h1, ob, World.putObj_heap_same (h.lt hl), ho⟩
  · simp only [Hp.set, if_neg e] at hr
    obtain ⟨k1, k2, k3, k4⟩ := h.at_ r o2 hr
    exact ⟨k1, k2, by rw [World.putObj_heap_other e]; exact k3, k4⟩
theorem Held.loopAt {w : World} (h : Held W H w) {l : Nat} {st : LoopState} {pend : Option Code} {fn : FuncId} {env : Env} {ps : Array Tmp} {asg body : Code} {d : Nat} (hl : H l = some (.loop N st pend fn env ps asg body d)) :
    ∃ ts, w.heap[l]? = some (.loop { state := st, pending := pend, fn := fn, tmps := ts, params := ps, assign := asg, body := body, defers := d }) ∧ RepE W N env ts := by
  obtain ⟨_, ob, h2, ts, rfl, h3⟩ := h.at_ l _ hl
  exact ⟨ts, h2, h3⟩
theorem set_at {H : Hp} {l : Nat} {o : Ob} : (H.set l o) l = some o := by simp [Hp.set]
theorem hun_frame {H1 F : Hp} {l : Nat} {o : Ob} (h : H1 l = none) : hun H1 (F.set l o) = (hun H1 F).set l o := by
  funext i
  by_cases e : i = l
  · subst e; simp [hun, Hp.set, h]
  · simp [hun, Hp.set, e]
theorem set_set {H : Hp} {l : Nat} {o o' : Ob} : (H.set l o).set l o' = H.set l o' := by
  funext i
  by_cases e : i = l <;> simp [Hp.set, e]
theorem set_none {H : Hp} {l r : Nat} {o : Ob} (h : H r = none) (hne : r ≠ l) : (H.set l o) r = none := by simp [Hp.set, hne, h]
theorem disj_frame {H F : Hp} {l : Nat} {o : Ob} (h : Disj H F) (hl : H l = none) : Disj H (F.set l o) := by
  intro i
  by_cases e : i = l
  · subst e; exact .inl hl
  · rcases h i with h | h
    · exact .inl h
    · exact .inr (by simp [Hp.set, e, h])
theorem disj_out {H F : Hp} {l : Nat} {o : Ob} (h : Disj H (F.set l o)) (hF : F l = none) : H l = none ∧ Disj H F := by
  refine ⟨(h l).resolve_right (by simp [Hp.set]), fun i => ?_⟩
  by_cases e : i = l
  · subst e; exact .inr hF
  · rcases h i with h | h
    · exact .inl h
    · exact .inr (by simpa [Hp.set, e] using h)

/-- One round, out of the walks of its assignment and its body; the loop's record lies beside. -/
theorem CY.of_round {l d : Nat} {fn : FuncId} {env : Env} {ps : Array Tmp} {asg body : Code} {args : List CV} {J : Hp → Prop} {Ex : Code → Hp → Prop} {R : Bool → Hp → Prop} (hps : ∀ p ∈ ps.toList, p < N) (hlen : args.length = ps.size)
    (hl : H l = none)
    (h : CW P W N (some l) asg (nextX fun s1 H1 => CW P W N (some l) body (roundX J Ex) s1 H1) ⟨setps env ps.toList args, []⟩ H)
    (hJ : ∀ H1, H1 l = none → J H1 → R true (H1.set l (.loop N .ready none fn env ps asg body d))) (hE : ∀ c H1, H1 l = none → Ex c H1 → R false (H1.set l (.loop N .done (some c) fn env ps asg body d))) :
    CY P W l args (H.set l (.loop N .ready none fn env ps asg body d)) R := by
  refine ⟨fun F av w hd hr hh => ?_⟩
  have hFl : F l = none := (hd l).resolve_left (by simp [Hp.set])
  have hdH : Disj H F := by
    intro i
    by_cases e : i = l
    · subst e; exact .inl hl
    · rcases hd i with h | h
      · exact .inl (by simpa [Hp.set, e] using h)
      · exact .inr h
  obtain ⟨ts, hts, hE0⟩ := hh.loopAt (hun_left (F := F) set_at)
  have hsz : av.size = ps.size := by have := hr.1; simp at this; omega
  refine ⟨fn, _, asg, body, run_yield hts hsz, ?_⟩
  refine roundIn_of_wpIn trivial ?_
  have hrep : RepE W N (setps env ps.toList args) ((ps.zip av).foldl (fun t x => t.setIfInBounds x.1 x.2) ts) := by
    rw [← Array.foldl_toList, Array.toList_zip]
    exact RepE.setps (e := env) (ts := ts) hE0 hps hr (by simpa using hlen)
  have hh0 : Held W (hun H (F.set l (.loop N .ready none fn env ps asg body d))) w := by rw [hun_frame hl, ← hun_set]; exact hh
  refine wpIn_mono (h.out _ { tmps := _, defers := [] } w (disj_frame hdH hl) ⟨hrep, trivial⟩ hh0) ?_
  rintro e a1 w1 ⟨x, s1, H1, hx, hr1, hd1, hh1, hq⟩
  cases x <;> simp only [nextX] at hq
  cases e <;> simp only [RepX] at hx
  obtain ⟨hl1, hd1'⟩ := disj_out hd1 hFl
  rw [hun_frame hl1] at hh1
  obtain ⟨ts1, hts1, hE1⟩ := hh1.loopAt (l := l) set_at
  have hh2 := hh1.putLoop (l := l) (o' := .loop N .busy none fn env ps asg body d) (ob := .loop { state := .busy, pending := none, fn := fn, tmps := ts1, params := ps, assign := asg, body := body, defers := d }) set_at ⟨ts1, rfl, hE1⟩
  rw [set_set, ← hun_frame hl1] at hh2
  refine ⟨_, run_beginRound hts1 rfl, ?_⟩
  refine wpIn_mono (hq.out _ a1 _ (disj_frame hd1' hl1) hr1 hh2) ?_
  rintro e a2 w3 ⟨x, s2, H2, hx, hr2, hd2, hh3, hq⟩
  obtain ⟨hl2, hd2'⟩ := disj_out hd2 hFl
  rw [hun_frame hl2] at hh3
  obtain ⟨ts2, hts2, hE2⟩ := hh3.loopAt (l := l) set_at
  have fin : ∀ jump : Option Code, Held W (hun (H2.set l (.loop N (if jump.isNone then .ready else .done) jump fn env ps asg body d)) F) (w3.putObj l (.loop { state := if jump.isNone then .ready else .done, pending := jump, fn := fn, tmps := ts2, params := ps, assign := asg, body := body, defers := d })) := by
    intro jump
    have := hh3.putLoop (l := l) (o' := .loop N (if jump.isNone then .ready else .done) jump fn env ps asg body d) (ob := .loop { state := if jump.isNone then .ready else .done, pending := jump, fn := fn, tmps := ts2, params := ps, assign := asg, body := body, defers := d }) set_at ⟨ts2, rfl, hE2⟩
    rw [set_set] at this
    rw [hun_set]
    exact this
  have hdj : ∀ o, Disj (H2.set l o) F := fun o => disj_set_new hd2' hFl
  cases x <;> cases e <;> simp only [RepX] at hx <;> simp only [roundX] at hq
  · exact ⟨_, _, run_endRound none hts2, true, _, rfl, hdj _, fin none, hJ _ hl2 hq⟩
  · subst hx
    exact ⟨_, _, run_endRound (some (.exit _)) hts2, false, _, rfl, hdj _, fin (some _), hE _ _ hl2 hq⟩
  · subst hx
    exact ⟨_, _, run_endRound (some (.goto _)) hts2, false, _, rfl, hdj _, fin (some _), hE _ _ hl2 hq⟩
  · exact ⟨_, _, run_endRound (some .ret) hts2, false, _, rfl, hdj _, fin (some _), hE _ _ hl2 hq⟩

/-- **A range over a function, by its iterator's contract.** -/
theorem CW.range (hX : CxOk X) {g : Operand} {ps : Array Tmp} {asg body : Code} {f : FuncId} {fs cap : List CV} {ys : List (List CV)} (hg : evC X N s.env g = .func (.func f) fs cap) {Inv : Hp → Prop} (hit : Iter X.P X.W f fs cap ys Inv) (hup : ∀ (H : Hp) r o, H r = none → Inv H → Inv (H.set r o)) (hps : ∀ p ∈ ps.toList, p < N)
    (hlen : ∀ args ∈ ys, args.length = ps.size) (J : Nat → Hp → Prop) (Ex : Code → Hp → Prop) (hinv : ∀ k H, J k H → Inv H) (h0 : J 0 H)
    (hround : ∀ l k args H1, ys[k]? = some args → J k H1 → CW X.P X.W N (some l) asg (nextX fun s1 H2 => CW X.P X.W N (some l) body (roundX (J (k + 1)) Ex) s1 H2) ⟨setps s.env ps.toList args, []⟩ H1)
    (hdone : ∀ d H1, J ys.length H1 → H1 d = none → Q .normal ⟨s.env, .mark d :: s.ds⟩ (H1.set d .dfr))
    (hexit : ∀ c d H1, Ex c H1 → H1 d = none → CW X.P X.W N none c Q ⟨s.env, .mark d :: s.ds⟩ (H1.set d .dfr)) : CW X.P X.W N none (.rangeFunc g ps asg body) Q s H := by
  refine ⟨fun F a w hd hr hh => ?_⟩
  refine wpIn_rangeFunc fun fn _ => ?_
  have hf := ev_rep hX hr g
  rw [hg] at hf
  obtain ⟨fv, cv, hv, hfl, hcl, hfr, hcr⟩ : ∃ fv cv, a.eval g = .func (.func f) fv cv ∧ fs.length = fv.size ∧ cap.length = cv.size ∧ (∀ (i : Nat) x v, fs[i]? = some x → fv[i]? = some v → Rep X.W x v) ∧ (∀ (i : Nat) x v, cap[i]? = some x → cv[i]? = some v → Rep X.W x v) := by
    generalize a.eval g = gv at hf
    cases hf with
    | func _ _ _ fv cv h1 h2 h3 h4 => exact ⟨fv, cv, rfl, h1, h2, h3, h4⟩
  have hd0 := (hun_none (H := H) (F := F)).1 hh.fresh
  have hh1 := hh.alloc (o := .dfr) (ob := .deferred (some [])) rfl
  rw [← hun_set] at hh1
  have hd1 : Disj (H.set w.heap.size .dfr) F := disj_set_new hd hd0.2
  obtain ⟨w1, hw1⟩ : ∃ w1, w.alloc (.deferred (some [])) = w1 := ⟨_, rfl⟩
  have hsz1 : w1.heap.size = w.heap.size + 1 := by rw [← hw1]; simp
  rw [hw1] at hh1
  have hd2 := (hun_none (H := H.set w.heap.size .dfr) (F := F)).1 hh1.fresh
  have hh2 := hh1.alloc (o := .loop N .ready none fn s.env ps asg body w.heap.size) (ob := .loop { state := .ready, pending := none, fn := fn, tmps := a.tmps, params := ps, assign := asg, body := body, defers := w.heap.size }) ⟨a.tmps, rfl, hr.1⟩
  rw [← hun_set] at hh2
  have hdj2 := disj_set_new (o := .loop N .ready none fn s.env ps asg body w.heap.size) hd1 hd2.2
  have hne : w1.heap.size ≠ w.heap.size := by omega
  have hneq : w.heap.size + 1 ≠ w.heap.size := by omega
  have hlF : F (w.heap.size + 1) = none := by rw [← hsz1]; exact hd2.2
  have hlH : H (w.heap.size + 1) = none := by rw [← hsz1]; have := hd2.1; simpa [Hp.set, hne] using this
  have hcc := hit (w.heap.size + 1) (fun k H' => ∃ H1, J k H1 ∧ H1 w.heap.size = none ∧ H1 (w.heap.size + 1) = none ∧ H' = (H1.set w.heap.size .dfr).set (w.heap.size + 1) (.loop N .ready none fn s.env ps asg body w.heap.size))
    (fun H' => ∃ c H1, Ex c H1 ∧ H1 w.heap.size = none ∧ H1 (w.heap.size + 1) = none ∧ H' = (H1.set w.heap.size .dfr).set (w.heap.size + 1) (.loop N .done (some c) fn s.env ps asg body w.heap.size))
    ((H.set w.heap.size .dfr).set (w.heap.size + 1) (.loop N .ready none fn s.env ps asg body w.heap.size)) (by
      rintro k H' ⟨H1, hJ, k1, k2, rfl⟩
      exact hup _ _ _ (set_none k2 (by omega)) (hup _ _ _ k1 (hinv k H1 hJ))) ⟨H, h0, hd0.1, hlH, rfl⟩ (by
      rintro k args hk H' ⟨H1, hJ, k1, k2, rfl⟩
      have hy := CY.of_round (R := fun b H' => ∃ H1, ((b = true → J (k + 1) H1 ∧ H' = H1.set (w.heap.size + 1) (.loop N .ready none fn s.env ps asg body w.heap.size)) ∧ (b = false → ∃ c, Ex c H1 ∧ H' = H1.set (w.heap.size + 1) (.loop N .done (some c) fn s.env ps asg body w.heap.size))) ∧ H1 (w.heap.size + 1) = none)
        (d := w.heap.size) (fn := fn) hps (hlen args (List.mem_of_getElem? hk)) k2 (hround (w.heap.size + 1) k args H1 hk hJ) (fun H2 h1 h2 => ⟨H2, ⟨fun _ => ⟨h2, rfl⟩, fun e => (by cases e)⟩, h1⟩) (fun c H2 h1 h2 => ⟨H2, ⟨fun e => (by cases e), fun _ => ⟨c, h2, rfl⟩⟩, h1⟩)
      have hy2 := hy.frame (r := w.heap.size) (ob := .dfr) (set_none k1 (by omega))
      rw [set_comm hneq] at hy2
      refine hy2.mono ?_
      rintro b G ⟨H2, q1, rfl, H3, q2, q3⟩
      cases b with
      | true =>
        rw [if_pos rfl]
        obtain ⟨q4, rfl⟩ := q2.1 rfl
        exact ⟨H3, q4, by simpa [Hp.set] using q1, q3, set_comm hneq⟩
      | false =>
        rw [if_neg (by simp)]
        obtain ⟨c, q4, rfl⟩ := q2.2 rfl
        exact ⟨c, H3, q4, by simpa [Hp.set] using q1, q3, set_comm hneq⟩)
  obtain ⟨w2, hw2⟩ : ∃ w2, w1.alloc (.loop { state := .ready, pending := none, fn := fn, tmps := a.tmps, params := ps, assign := asg, body := body, defers := w.heap.size }) = w2 := ⟨_, rfl⟩
  rw [hw2] at hh2
  refine ⟨w.heap.size + 1, [{ target := .collected w.heap.size, args := #[] }], w2, { target := .fn (.func f) cv, args := fv ++ #[.func (.yield (w.heap.size + 1)) #[] #[]] }, w2, f, fv ++ #[.func (.yield (w.heap.size + 1)) #[] #[]] ++ cv, w2, by rw [← hw2, ← hw1]; exact run_enterLoop_outer _ _ _ _ _, ?_, fun _ _ => trivial, ?_, fun h => by simp [fen] at h, ?_⟩
  · simp only [resolve, hv, Deferred.ofValue, Sem.run_pure, List.map_toArray, List.map_cons, List.map_nil]
    rfl
  · exact invoke_func (W := X.W) hcc.ent
  · rw [hsz1] at hh2 hdj2
    have hav : RepL X.W (fs ++ [.func (.yield (w.heap.size + 1)) [] []] ++ cap) (fv ++ #[Value.func (.yield (w.heap.size + 1)) #[] #[]] ++ cv).toList := by
      simp only [Array.toList_append]
      refine (RepL.append ⟨by simpa using hfl, fun i x v hx hv => hfr i x v hx (by simpa using hv)⟩ ?_).append ⟨by simpa using hcl, fun i x v hx hv => hcr i x v hx (by simpa using hv)⟩
      exact RepL.cons (.func _ _ _ _ _ rfl rfl (fun i x v hx => by simp at hx) (fun i x v hx => by simp at hx)) (RepL.nil _)
    refine CallsIn.mono (hcc.out F _ _ hdj2 hav hh2 : CallsIn (fen none) 0 X.P f _ _ _) ?_
    rintro e w3 ⟨x, H', hx, hd', hh', ⟨v, rfl⟩, hJE⟩
    cases e <;> simp only [RepEnd] at hx
    simp only [rangePost]
    have fin : ∀ (st : LoopState) (pend : Option Code) (H1 : Hp), st ≠ .busy → H1 w.heap.size = none → H1 (w.heap.size + 1) = none → H' = (H1.set w.heap.size .dfr).set (w.heap.size + 1) (.loop N st pend fn s.env ps asg body w.heap.size) →
        ∃ w4, (Instr.endLoop (w.heap.size + 1)).run X.P w3 = .ok pend w4 ∧ Disj (H1.set w.heap.size .dfr) F ∧ Held X.W (hun (H1.set w.heap.size .dfr) F) w4 := by
      intro st pend H1 hst q1 q2 e
      subst e
      have hdd : Disj (H1.set w.heap.size .dfr) F := by
        intro i
        by_cases e : i = w.heap.size + 1
        · subst e; exact .inr hlF
        · rcases hd' i with h | h
          · exact .inl (by simpa [Hp.set, e] using h)
          · exact .inr h
      rw [hun_set] at hh'
      obtain ⟨ts, hts, hE0⟩ := hh'.loopAt (l := w.heap.size + 1) set_at
      refine ⟨_, run_endLoop hts hst, hdd, ?_⟩
      have hh4 := hh'.putLoop (l := w.heap.size + 1) (o' := .loop N .exhausted pend fn s.env ps asg body w.heap.size) (ob := .loop { state := .exhausted, pending := pend, fn := fn, tmps := ts, params := ps, assign := asg, body := body, defers := w.heap.size }) set_at ⟨ts, rfl, hE0⟩
      refine hh4.le fun r o ho => ?_
      have hrl : r ≠ w.heap.size + 1 := by
        rintro rfl
        have : (H1.set w.heap.size .dfr) (w.heap.size + 1) = none := set_none q2 (by omega)
        simp [hun, this, hlF] at ho
      simpa [Hp.set, hrl] using ho
    have hrA : RepA X.W N ⟨s.env, .mark w.heap.size :: s.ds⟩ { a with defers := [{ target := .collected w.heap.size, args := #[] }] ++ a.defers } := ⟨hr.1, rfl, hr.2⟩
    rcases hJE with ⟨H1, hJ, q1, q2, rfl⟩ | ⟨c, H1, hE, q1, q2, rfl⟩
    · obtain ⟨w4, h1, h2, h3⟩ := fin .ready none H1 (by simp) q1 q2 rfl
      exact ⟨none, w4, h1, .normal, _, _, trivial, hrA, h2, h3, hdone _ H1 hJ q1⟩
    · obtain ⟨w4, h1, h2, h3⟩ := fin .done (some c) H1 (by simp) q1 q2 rfl
      exact ⟨some c, w4, h1, (hexit c _ H1 hE q1).out F _ w4 h2 hrA h3⟩
end
end Go.Cl
