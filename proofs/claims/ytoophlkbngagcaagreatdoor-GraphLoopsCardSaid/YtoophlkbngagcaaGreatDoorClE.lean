/- DERIVED HERE. The clean layer: a range over a function. DERIVED HERE. The clean layer: code walked by computing, its regions that draw by hints; what is held in the end may be forgotten; what is held may be frozen. DERIVED HERE. The clean layer: what is held, frozen: a call that is handed it reads it as memory that was there ahead. DERIVED HERE. The clean layer: a frozen call that hands back blocks of its own. -/
import Derived.Test.YtoophlkbngagcaaGreatDoorClD
import Derived.RangeFuncRecord
set_option linter.unusedSimpArgs false
set_option linter.unusedVariables false
namespace Go.Cl
open Go.RowKit

/-- What an iterator does: it hands the rounds one list of values after the other, and ends early where a round is left otherwise. -/
def Iter (P : Program) (W : World) (f : FuncId) (fs cap : List CV) (ys : List (List CV)) (Inv : Hp → Prop) : Prop :=
  ∀ (l : Nat) (J : Nat → Hp → Prop) (E : Hp → Prop) (H0 : Hp), (∀ k H, J k H → Inv H) → J 0 H0 → (∀ k args, ys[k]? = some args → ∀ H, J k H → CY P W l args H (fun b H' => if b = true then J (k + 1) H' else E H')) →
    CC P W f (fs ++ [.func (.yield l) [] []] ++ cap) H0 (fun x H' => (∃ v, x = .ret v) ∧ (J ys.length H' ∨ E H'))
def setps : Env → List Nat → List CV → Env
  | e, p :: ps, a :: as => setps (e.set p a) ps as
  | e, _, _ => e
/-- How a round is left. -/
def roundX (J : Hp → Prop) (Ex : Code → Hp → Prop) : CP := fun x _ H =>
  match x with
  | .normal => J H
  | .ret => Ex .ret H
  | .exit i => Ex (.exit i) H
  | .goto t => Ex (.goto t) H
  | .panic _ => False
def nextX (K : CA → Hp → Prop) : CP := fun x s H => match x with | .normal => K s H | _ => False

section
variable {X : Cx} {N : Nat} {ρ : Option Nat} {Q : CP} {s : CA} {H : Hp} {P : Program} {W : World}

theorem RepE.setps : ∀ {ps : List Nat} {args : List CV} {av : List Value} {e : Env} {ts : Array Value}, RepE W N e ts → (∀ p ∈ ps, p < N) → RepL W args av → args.length = ps.length →
    RepE W N (setps e ps args) ((ps.zip av).foldl (fun t x => t.setIfInBounds x.1 x.2) ts)
  | [], args, av, e, ts, h, _, _, _ => by cases args <;> exact h
  | p :: ps, [], av, e, ts, h, _, _, hl => by simp at hl
  | p :: ps, a :: as, [], e, ts, h, _, hr, hl => by have := hr.1; simp at this
  | p :: ps, a :: as, v :: vs, e, ts, h, hp, hr, hl => by
    simp only [Cl.setps, List.zip_cons_cons, List.foldl_cons]
    exact RepE.setps (h.put (hp p (by simp)) (hr.2 0 a v rfl rfl)) (fun q hq => hp q (by simp [hq])) ⟨by simpa using hr.1, fun i x u hx hu => hr.2 (i + 1) x u (by simpa using hx) (by simpa using hu)⟩ (by simpa using hl)
theorem Held.putLoop {w : World} (h : Held W H w) {l : Nat} {o o' : Ob} {ob : Obj} (hl : H l = some o) (ho : RepOb W o' ob) : Held W (H.set l o') (w.putObj l ob) := by
  obtain ⟨h1, ob0, h2, h3⟩ := h.at_ l o hl
  refine ⟨h.below.trans ⟨rfl, rfl, rfl, by simp, fun k hk => World.putObj_heap_other (by omega)⟩, fun r o2 hr => ?_⟩
  by_cases e : r = l
  · subst e
    simp only [Hp.set, if_true, Option.some.injEq] at hr
    subst hr
    exact ⟨h1, ob, World.putObj_heap_same (h.lt hl), ho⟩
  · simp only [Hp.set, if_neg e] at hr
    obtain ⟨k1, k2, k3, k4⟩ := h.at_ r o2 hr
    exact ⟨k1, k2, by rw [World.putObj_heap_other e]; exact k3, k4⟩
theorem Held.loopAt {w : World} (h : Held W H w) {l : Nat} {st : LoopState} {pend : Option Code} {fn : FuncId} {env : Env} {ps : Array Tmp} {asg body : Code} {d : Nat} (hl : H l = some (.loop N st pend fn env ps asg body d)) :
    ∃ ts, w.heap[l]? = some (.loop { state := st, pending := pend, fn := fn, tmps := ts, params := ps, assign := asg, body := body, defers := d }) ∧ RepE W N env ts := by
  obtain ⟨_, ob, h2, ts, rfl, h3⟩ := h.at_ l _ hl
  exact ⟨ts, h2, h3⟩
theorem set_at {H : Hp} {l : Nat} {o : Ob} : (H.set l o) l = some o := by simp [Hp.set]
theorem hun_frame {H1 F : Hp} {l : Nat} {o : Ob} (h : H1 l = none) : hun H1 (F.set l o) = (hun H1 F).set l o := by
  funext i
  by_cases e : i = l
  · subst e; simp [hun, Hp.set, h]
  · simp [hun, Hp.set, e]
theorem set_set {H : Hp} {l : Nat} {o o' : Ob} : (H.set l o).set l o' = H.set l o' := by
  funext i
  by_cases e : i = l <;> simp [Hp.set, e]
theorem set_none {H : Hp} {l r : Nat} {o : Ob} (h : H r = none) (hne : r ≠ l) : (H.set l o) r = none := by simp [Hp.set, hne, h]
theorem disj_frame {H F : Hp} {l : Nat} {o : Ob} (h : Disj H F) (hl : H l = none) : Disj H (F.set l o) := by
  intro i
  by_cases e : i = l
  · subst e; exact .inl hl
  · rcases h i with h | h
    · exact .inl h
    · exact .inr (by simp [Hp.set, e, h])
theorem disj_out {H F : Hp} {l : Nat} {o : Ob} (h : Disj H (F.set l o)) (hF : F l = none) : H l = none ∧ Disj H F := by
  refine ⟨(h l).resolve_right (by simp [Hp.set]), fun i => ?_⟩
  by_cases e : i = l
  · subst e; exact .inr hF
  · rcases h i with h | h
    · exact .inl h
    · exact .inr (by simpa [Hp.set, e] using h)

/-- One round, out of the walks of its assignment and its body; the loop's record lies beside. -/
theorem CY.of_round {l d : Nat} {fn : FuncId} {env : Env} {ps : Array Tmp} {asg body : Code} {args : List CV} {J : Hp → Prop} {Ex : Code → Hp → Prop} {R : Bool → Hp → Prop} (hps : ∀ p ∈ ps.toList, p < N) (hlen : args.length = ps.size)
    (hl : H l = none)
    (h : CW P W N (some l) asg (nextX fun s1 H1 => CW P W N (some l) body (roundX J Ex) s1 H1) ⟨setps env ps.toList args, []⟩ H)
    (hJ : ∀ H1, H1 l = none → J H1 → R true (H1.set l (.loop N .ready none fn env ps asg body d))) (hE : ∀ c H1, H1 l = none → Ex c H1 → R false (H1.set l (.loop N .done (some c) fn env ps asg body d))) :
    CY P W l args (H.set l (.loop N .ready none fn env ps asg body d)) R := by
  refine ⟨fun F av w hd hr hh => ?_⟩
  have hFl : F l = none := (hd l).resolve_left (by simp [Hp.set])
  have hdH : Disj H F := by
    intro i
    by_cases e : i = l
    · subst e; exact .inl hl
    · rcases hd i with h | h
      · exact .inl (by simpa [Hp.set, e] using h)
      · exact .inr h
  obtain ⟨ts, hts, hE0⟩ := hh.loopAt (hun_left (F := F) set_at)
  have hsz : av.size = ps.size := by have := hr.1; simp at this; omega
  refine ⟨fn, _, asg, body, run_yield hts hsz, ?_⟩
  refine roundIn_of_wpIn trivial ?_
  have hrep : RepE W N (setps env ps.toList args) ((ps.zip av).foldl (fun t x => t.setIfInBounds x.1 x.2) ts) := by
    rw [← Array.foldl_toList, Array.toList_zip]
    exact RepE.setps (e := env) (ts := ts) hE0 hps hr (by simpa using hlen)
  have hh0 : Held W (hun H (F.set l (.loop N .ready none fn env ps asg body d))) w := by rw [hun_frame hl, ← hun_set]; exact hh
  refine wpIn_mono (h.out _ { tmps := _, defers := [] } w (disj_frame hdH hl) ⟨hrep, trivial⟩ hh0) ?_
  rintro e a1 w1 ⟨x, s1, H1, hx, hr1, hd1, hh1, hq⟩
  cases x <;> simp only [nextX] at hq
  cases e <;> simp only [RepX] at hx
  obtain ⟨hl1, hd1'⟩ := disj_out hd1 hFl
  rw [hun_frame hl1] at hh1
  obtain ⟨ts1, hts1, hE1⟩ := hh1.loopAt (l := l) set_at
  have hh2 := hh1.putLoop (l := l) (o' := .loop N .busy none fn env ps asg body d) (ob := .loop { state := .busy, pending := none, fn := fn, tmps := ts1, params := ps, assign := asg, body := body, defers := d }) set_at ⟨ts1, rfl, hE1⟩
  rw [set_set, ← hun_frame hl1] at hh2
  refine ⟨_, run_beginRound hts1 rfl, ?_⟩
  refine wpIn_mono (hq.out _ a1 _ (disj_frame hd1' hl1) hr1 hh2) ?_
  rintro e a2 w3 ⟨x, s2, H2, hx, hr2, hd2, hh3, hq⟩
  obtain ⟨hl2, hd2'⟩ := disj_out hd2 hFl
  rw [hun_frame hl2] at hh3
  obtain ⟨ts2, hts2, hE2⟩ := hh3.loopAt (l := l) set_at
  have fin : ∀ jump : Option Code, Held W (hun (H2.set l (.loop N (if jump.isNone then .ready else .done) jump fn env ps asg body d)) F) (w3.putObj l (.loop { state := if jump.isNone then .ready else .done, pending := jump, fn := fn, tmps := ts2, params := ps, assign := asg, body := body, defers := d })) := by
    intro jump
    have := hh3.putLoop (l := l) (o' := .loop N (if jump.isNone then .ready else .done) jump fn env ps asg body d) (ob := .loop { state := if jump.isNone then .ready else .done, pending := jump, fn := fn, tmps := ts2, params := ps, assign := asg, body := body, defers := d }) set_at ⟨ts2, rfl, hE2⟩
    rw [set_set] at this
    rw [hun_set]
    exact this
  have hdj : ∀ o, Disj (H2.set l o) F := fun o => disj_set_new hd2' hFl
  cases x <;> cases e <;> simp only [RepX] at hx <;> simp only [roundX] at hq
  · exact ⟨_, _, run_endRound none hts2, true, _, rfl, hdj _, fin none, hJ _ hl2 hq⟩
  · subst hx
    exact ⟨_, _, run_endRound (some (.exit _)) hts2, false, _, rfl, hdj _, fin (some _), hE _ _ hl2 hq⟩
  · subst hx
    exact ⟨_, _, run_endRound (some (.goto _)) hts2, false, _, rfl, hdj _, fin (some _), hE _ _ hl2 hq⟩
  · exact ⟨_, _, run_endRound (some .ret) hts2, false, _, rfl, hdj _, fin (some _), hE _ _ hl2 hq⟩

/-- A range over a function, by what its call is known to do. -/
theorem CW.rangeG (hX : CxOk X) {g : Operand} {ps : Array Tmp} {asg body : Code} {f : FuncId} {fs cap : List CV} (hg : evC X N s.env g = .func (.func f) fs cap) {JN : Hp → Prop} {Ex : Code → Hp → Prop}
    (hcc : ∀ (fn : FuncId) (d l : Nat), d ≠ l → H d = none → H l = none → CC X.P X.W f (fs ++ [.func (.yield l) [] []] ++ cap) ((H.set d .dfr).set l (.loop N .ready none fn s.env ps asg body d)) fun x H' => (∃ v, x = .ret v) ∧
      ((∃ H1, JN H1 ∧ H1 d = none ∧ H1 l = none ∧ H' = (H1.set d .dfr).set l (.loop N .ready none fn s.env ps asg body d)) ∨ ∃ c H1, Ex c H1 ∧ H1 d = none ∧ H1 l = none ∧ H' = (H1.set d .dfr).set l (.loop N .done (some c) fn s.env ps asg body d)))
    (hdone : ∀ d H1, JN H1 → H1 d = none → Q .normal ⟨s.env, .mark d :: s.ds⟩ (H1.set d .dfr))
    (hexit : ∀ c d H1, Ex c H1 → H1 d = none → CW X.P X.W N none c Q ⟨s.env, .mark d :: s.ds⟩ (H1.set d .dfr)) : CW X.P X.W N none (.rangeFunc g ps asg body) Q s H := by
  refine ⟨fun F a w hd hr hh => ?_⟩
  refine wpIn_rangeFunc fun fn _ => ?_
  have hf := ev_rep hX hr g
  rw [hg] at hf
  obtain ⟨fv, cv, hv, hfl, hcl, hfr, hcr⟩ : ∃ fv cv, a.eval g = .func (.func f) fv cv ∧ fs.length = fv.size ∧ cap.length = cv.size ∧ (∀ (i : Nat) x v, fs[i]? = some x → fv[i]? = some v → Rep X.W x v) ∧ (∀ (i : Nat) x v, cap[i]? = some x → cv[i]? = some v → Rep X.W x v) := by
    generalize a.eval g = gv at hf
    cases hf with
    | func _ _ _ fv cv h1 h2 h3 h4 => exact ⟨fv, cv, rfl, h1, h2, h3, h4⟩
  have hd0 := (hun_none (H := H) (F := F)).1 hh.fresh
  have hh1 := hh.alloc (o := .dfr) (ob := .deferred (some [])) rfl
  rw [← hun_set] at hh1
  have hd1 : Disj (H.set w.heap.size .dfr) F := disj_set_new hd hd0.2
  obtain ⟨w1, hw1⟩ : ∃ w1, w.alloc (.deferred (some [])) = w1 := ⟨_, rfl⟩
  have hsz1 : w1.heap.size = w.heap.size + 1 := by rw [← hw1]; simp
  rw [hw1] at hh1
  have hd2 := (hun_none (H := H.set w.heap.size .dfr) (F := F)).1 hh1.fresh
  have hh2 := hh1.alloc (o := .loop N .ready none fn s.env ps asg body w.heap.size) (ob := .loop { state := .ready, pending := none, fn := fn, tmps := a.tmps, params := ps, assign := asg, body := body, defers := w.heap.size }) ⟨a.tmps, rfl, hr.1⟩
  rw [← hun_set] at hh2
  have hdj2 := disj_set_new (o := .loop N .ready none fn s.env ps asg body w.heap.size) hd1 hd2.2
  have hne : w1.heap.size ≠ w.heap.size := by omega
  have hneq : w.heap.size + 1 ≠ w.heap.size := by omega
  have hlF : F (w.heap.size + 1) = none := by rw [← hsz1]; exact hd2.2
  have hlH : H (w.heap.size + 1) = none := by rw [← hsz1]; have := hd2.1; simpa [Hp.set, hne] using this
  have hcc := hcc fn w.heap.size (w.heap.size + 1) (by omega) hd0.1 hlH
  obtain ⟨w2, hw2⟩ : ∃ w2, w1.alloc (.loop { state := .ready, pending := none, fn := fn, tmps := a.tmps, params := ps, assign := asg, body := body, defers := w.heap.size }) = w2 := ⟨_, rfl⟩
  rw [hw2] at hh2
  refine ⟨w.heap.size + 1, [{ target := .collected w.heap.size, args := #[] }], w2, { target := .fn (.func f) cv, args := fv ++ #[.func (.yield (w.heap.size + 1)) #[] #[]] }, w2, f, fv ++ #[.func (.yield (w.heap.size + 1)) #[] #[]] ++ cv, w2, by rw [← hw2, ← hw1]; exact run_enterLoop_outer _ _ _ _ _, ?_, fun _ _ => trivial, ?_, fun h => by simp [fen] at h, ?_⟩
  · simp only [resolve, hv, Deferred.ofValue, Sem.run_pure, List.map_toArray, List.map_cons, List.map_nil]
    rfl
  · exact invoke_func (W := X.W) hcc.ent
  · rw [hsz1] at hh2 hdj2
    have hav : RepL X.W (fs ++ [.func (.yield (w.heap.size + 1)) [] []] ++ cap) (fv ++ #[Value.func (.yield (w.heap.size + 1)) #[] #[]] ++ cv).toList := by
      simp only [Array.toList_append]
      refine (RepL.append ⟨by simpa using hfl, fun i x v hx hv => hfr i x v hx (by simpa using hv)⟩ ?_).append ⟨by simpa using hcl, fun i x v hx hv => hcr i x v hx (by simpa using hv)⟩
      exact RepL.cons (.func _ _ _ _ _ rfl rfl (fun i x v hx => by simp at hx) (fun i x v hx => by simp at hx)) (RepL.nil _)
    refine CallsIn.mono (hcc.out F _ _ hdj2 hav hh2 : CallsIn (fen none) 0 X.P f _ _ _) ?_
    rintro e w3 ⟨x, H', hx, hd', hh', ⟨v, rfl⟩, hJE⟩
    cases e <;> simp only [RepEnd] at hx
    simp only [rangePost]
    have fin : ∀ (st : LoopState) (pend : Option Code) (H1 : Hp), st ≠ .busy → H1 w.heap.size = none → H1 (w.heap.size + 1) = none → H' = (H1.set w.heap.size .dfr).set (w.heap.size + 1) (.loop N st pend fn s.env ps asg body w.heap.size) →
        ∃ w4, (Instr.endLoop (w.heap.size + 1)).run X.P w3 = .ok pend w4 ∧ Disj (H1.set w.heap.size .dfr) F ∧ Held X.W (hun (H1.set w.heap.size .dfr) F) w4 := by
      intro st pend H1 hst q1 q2 e
      subst e
      have hdd : Disj (H1.set w.heap.size .dfr) F := by
        intro i
        by_cases e : i = w.heap.size + 1
        · subst e; exact .inr hlF
        · rcases hd' i with h | h
          · exact .inl (by simpa [Hp.set, e] using h)
          · exact .inr h
      rw [hun_set] at hh'
      obtain ⟨ts, hts, hE0⟩ := hh'.loopAt (l := w.heap.size + 1) set_at
      refine ⟨_, run_endLoop hts hst, hdd, ?_⟩
      have hh4 := hh'.putLoop (l := w.heap.size + 1) (o' := .loop N .exhausted pend fn s.env ps asg body w.heap.size) (ob := .loop { state := .exhausted, pending := pend, fn := fn, tmps := ts, params := ps, assign := asg, body := body, defers := w.heap.size }) set_at ⟨ts, rfl, hE0⟩
      refine hh4.le fun r o ho => ?_
      have hrl : r ≠ w.heap.size + 1 := by
        rintro rfl
        have : (H1.set w.heap.size .dfr) (w.heap.size + 1) = none := set_none q2 (by omega)
        simp [hun, this, hlF] at ho
      simpa [Hp.set, hrl] using ho
    have hrA : RepA X.W N ⟨s.env, .mark w.heap.size :: s.ds⟩ { a with defers := [{ target := .collected w.heap.size, args := #[] }] ++ a.defers } := ⟨hr.1, rfl, hr.2⟩
    rcases hJE with ⟨H1, hJ, q1, q2, rfl⟩ | ⟨c, H1, hE, q1, q2, rfl⟩
    · obtain ⟨w4, h1, h2, h3⟩ := fin .ready none H1 (by simp) q1 q2 rfl
      exact ⟨none, w4, h1, .normal, _, _, trivial, hrA, h2, h3, hdone _ H1 hJ q1⟩
    · obtain ⟨w4, h1, h2, h3⟩ := fin .done (some c) H1 (by simp) q1 q2 rfl
      exact ⟨some c, w4, h1, (hexit c _ H1 hE q1).out F _ w4 h2 hrA h3⟩
/-- **A range over a function, by its iterator's contract.** -/
theorem CW.range (hX : CxOk X) {g : Operand} {ps : Array Tmp} {asg body : Code} {f : FuncId} {fs cap : List CV} {ys : List (List CV)} (hg : evC X N s.env g = .func (.func f) fs cap) {Inv : Hp → Prop} (hit : Iter X.P X.W f fs cap ys Inv) (hup : ∀ (H : Hp) r o, H r = none → Inv H → Inv (H.set r o)) (hps : ∀ p ∈ ps.toList, p < N)
    (hlen : ∀ args ∈ ys, args.length = ps.size) (J : Nat → Hp → Prop) (Ex : Code → Hp → Prop) (hinv : ∀ k H, J k H → Inv H) (h0 : J 0 H)
    (hround : ∀ l k args H1, ys[k]? = some args → J k H1 → CW X.P X.W N (some l) asg (nextX fun s1 H2 => CW X.P X.W N (some l) body (roundX (J (k + 1)) Ex) s1 H2) ⟨setps s.env ps.toList args, []⟩ H1)
    (hdone : ∀ d H1, J ys.length H1 → H1 d = none → Q .normal ⟨s.env, .mark d :: s.ds⟩ (H1.set d .dfr))
    (hexit : ∀ c d H1, Ex c H1 → H1 d = none → CW X.P X.W N none c Q ⟨s.env, .mark d :: s.ds⟩ (H1.set d .dfr)) : CW X.P X.W N none (.rangeFunc g ps asg body) Q s H := by
  refine CW.rangeG hX hg (JN := J ys.length) (Ex := Ex) (fun fn d l hdl h0d h0l => ?_) hdone hexit
  have hneq : l ≠ d := Ne.symm hdl
  exact hit l (fun k H' => ∃ H1, J k H1 ∧ H1 d = none ∧ H1 l = none ∧ H' = (H1.set d .dfr).set l (.loop N .ready none fn s.env ps asg body d))
    (fun H' => ∃ c H1, Ex c H1 ∧ H1 d = none ∧ H1 l = none ∧ H' = (H1.set d .dfr).set l (.loop N .done (some c) fn s.env ps asg body d))
    ((H.set d .dfr).set l (.loop N .ready none fn s.env ps asg body d)) (by
      rintro k H' ⟨H1, hJ, k1, k2, rfl⟩
      exact hup _ _ _ (set_none k2 hneq) (hup _ _ _ k1 (hinv k H1 hJ))) ⟨H, h0, h0d, h0l, rfl⟩ (by
      rintro k args hk H' ⟨H1, hJ, k1, k2, rfl⟩
      have hy := CY.of_round (R := fun b H' => ∃ H1, ((b = true → J (k + 1) H1 ∧ H' = H1.set l (.loop N .ready none fn s.env ps asg body d)) ∧ (b = false → ∃ c, Ex c H1 ∧ H' = H1.set l (.loop N .done (some c) fn s.env ps asg body d))) ∧ H1 l = none)
        (d := d) (fn := fn) hps (hlen args (List.mem_of_getElem? hk)) k2 (hround l k args H1 hk hJ) (fun H2 h1 h2 => ⟨H2, ⟨fun _ => ⟨h2, rfl⟩, fun e => (by cases e)⟩, h1⟩) (fun c H2 h1 h2 => ⟨H2, ⟨fun e => (by cases e), fun _ => ⟨c, h2, rfl⟩⟩, h1⟩)
      have hy2 := hy.frame (r := d) (ob := .dfr) (set_none k1 hdl)
      rw [set_comm hneq] at hy2
      refine hy2.mono ?_
      rintro b G ⟨H2, q1, rfl, H3, q2, q3⟩
      cases b with
      | true =>
        rw [if_pos rfl]
        obtain ⟨q4, rfl⟩ := q2.1 rfl
        exact ⟨H3, q4, by simpa [Hp.set, hdl] using q1, q3, set_comm hneq⟩
      | false =>
        rw [if_neg (by simp)]
        obtain ⟨c, q4, rfl⟩ := q2.2 rfl
        exact ⟨c, H3, q4, by simpa [Hp.set, hdl] using q1, q3, set_comm hneq⟩)
end
end Go.Cl
set_option linter.unusedSimpArgs false
set_option linter.unusedVariables false
namespace Go.Cl
open Go.RowKit

abbrev Hints := List (Nat × Hint)
def hintOf : Hints → Nat → Option Hint
  | [], _ => none
  | p :: l, id => if p.1 = id then some p.2 else hintOf l id
/-- As 'vc', with hints for the regions that draw. -/
def vw (X : Cx) (N : Nat) (ρ : Option Nat) (D : Hints) : Code → CP → CA → Hp → Prop
  | .skip, Q, s, H => Q .normal s H
  | .label _, Q, s, H => Q .normal s H
  | .exit id, Q, s, H => Q (.exit id) s H
  | .goto l, Q, s, H => Q (.goto l) s H
  | .ret, Q, s, H => Q .ret s H
  | .seq a b, Q, s, H => vw X N ρ D a (thenX (fun s H => vw X N ρ D b Q s H) Q) s H
  | .block id c, Q, s, H => vw X N ρ D c (inBlockX id Q) s H
  | .cond c a b, Q, s, H => match evC X N s.env c with
    | .bool t => splitB t fun t => match t with | true => vw X N ρ D a Q s H | false => vw X N ρ D b Q s H
    | _ => False
  | .region id ops draw, Q, s, H => match draw with
    | false => vcL X N ops Q ops.toList s H
    | true => match hintOf D id with
      | some l => vcD X N ops Q l s H
      | none => False
  | c, Q, s, H => CW X.P X.W N ρ c Q s H
def drawsOk (D : Hints) : Code → Bool
  | .seq a b => drawsOk D a && drawsOk D b
  | .block _ c => drawsOk D c
  | .cond _ a b => drawsOk D a && drawsOk D b
  | .region id ops draw => match draw with
    | false => true
    | true => match hintOf D id with
      | some l => drawOk ops l
      | none => false
  | .loop c => drawsOk D c
  | .rangeFunc _ _ a c => drawsOk D a && drawsOk D c
  | _ => true
theorem vw_sound {X : Cx} (hX : CxOk X) (hm : X.P.follows .mixedOrders = true) {D : Hints} {N : Nat} {ρ : Option Nat} : ∀ (c : Code) (Q : CP) (s : CA) (H : Hp), drawsOk D c = true → vw X N ρ D c Q s H → CW X.P X.W N ρ c Q s H
  | .skip, Q, s, H, _, h => CW.skip h
  | .label _, Q, s, H, _, h => CW.label h
  | .exit id, Q, s, H, _, h => CW.exit h
  | .goto l, Q, s, H, _, h => CW.goto h
  | .ret, Q, s, H, _, h => CW.ret h
  | .seq a b, Q, s, H, hD, h => by
    simp only [drawsOk, Bool.and_eq_true] at hD
    exact CW.seq ((vw_sound hX hm a _ s H hD.1 h).mono fun x s H hx => by
      cases x <;> first | exact vw_sound hX hm b Q s H hD.2 hx | exact hx)
  | .block id c, Q, s, H, hD, h => CW.block (vw_sound hX hm c _ s H hD h)
  | .cond c a b, Q, s, H, hD, h => by
    simp only [drawsOk, Bool.and_eq_true] at hD
    simp only [vw] at h
    split at h
    · rename_i t he
      have h := splitB_elim h
      refine CW.cond (b := t) (fun a hr => ?_) (fun ht => ?_) (fun ht => ?_)
      · have := ev_rep hX hr c
        rw [he] at this
        exact rep_bool this
      · subst ht; exact vw_sound hX hm a Q s H hD.1 h
      · subst ht; exact vw_sound hX hm b Q s H hD.2 h
    · exact h.elim
  | .region id ops draw, Q, s, H, hD, h => by
    cases draw with
    | false => exact CW.region (by rw [List.range_eq_range']; exact CO.of_vcL hX ops.size 0 s H (by omega) (by simpa [vw] using h))
    | true =>
      simp only [drawsOk] at hD
      simp only [vw] at h
      split at h
      · rename_i l hl
        rw [hl] at hD
        exact CW.draw hX hm hD h
      · exact h.elim
  | .loop _, Q, s, H, _, h => h
  | .rangeFunc _ _ _ _, Q, s, H, _, h => h
  | .scope _, Q, s, H, _, h => h
  | .refuse _, Q, s, H, _, h => h

section
variable {X : Cx} {N : Nat} {ρ : Option Nat} {Q : CP} {s : CA} {H : Hp} {P : Program} {W : World}
/-- Less is held. -/
def Le (H H' : Hp) : Prop := ∀ r o, H r = some o → H' r = some o
theorem Le.refl (H : Hp) : Le H H := fun _ _ h => h
theorem Le.trans {A B C : Hp} (h : Le A B) (k : Le B C) : Le A C := fun r o x => k r o (h r o x)
theorem Le.set_new {H : Hp} {r : Nat} {o : Ob} (h : H r = none) : Le H (H.set r o) := fun i x hx => by
  simp only [Hp.set]; rw [if_neg (fun e => by rw [e, h] at hx; cases hx)]; exact hx
theorem Le.set {A B : Hp} {r : Nat} {o : Ob} (h : Le A B) : Le (A.set r o) (B.set r o) := fun i x hx => by
  simp only [Hp.set] at hx ⊢; split
  · rename_i e; rw [if_pos e] at hx; exact hx
  · rename_i e; rw [if_neg e] at hx; exact h i x hx
theorem Le.put {A B : Hp} {r : Nat} {o : Ob} (h : Le A B) (hr : A r = none) : Le A (B.set r o) := fun i x hx => by
  simp only [Hp.set]; rw [if_neg (fun e => by rw [e, hr] at hx; cases hx)]; exact h i x hx
theorem Le.disj {A B F : Hp} (h : Le A B) (hd : Disj B F) : Disj A F := fun i => by
  rcases hd i with d | d
  · cases hi : A i with
    | none => exact .inl rfl
    | some o => rw [h i o hi] at d; cases d
  · exact .inr d
theorem Le.held {A B F : Hp} (h : Le A B) (hd : Disj B F) {w : World} (hh : Held W (hun B F) w) : Held W (hun A F) w := hh.le fun i o ho => by
  simp only [hun] at ho ⊢
  cases hi : A i with
  | none =>
    rw [hi] at ho
    simp at ho
    rcases hd i with d | d
    · simp [d, ho]
    · rw [d] at ho; cases ho
  | some o' => rw [hi] at ho; simp at ho; subst ho; simp [h i o' hi]
/-- In the end less may be told of. -/
theorem CC.shrink {f : FuncId} {args : List CV} {R : CE → Hp → Prop} (h : CC P W f args H fun x H' => ∃ H2, Le H2 H' ∧ R x H2) : CC P W f args H R :=
  ⟨h.ent, fun F av w hd hl hh => (h.out F av w hd hl hh).mono fun e w' ⟨x, H', h1, h2, h3, H2, h4, h5⟩ => ⟨x, H2, h1, h4.disj h2, h4.held h2 h3, h5⟩⟩
theorem CC.forget {f : FuncId} {args : List CV} {R : CE → Hp → Prop} {H' : Hp} (h : CC P W f args H' R) (hl : Le H' H) : CC P W f args H R :=
  ⟨h.ent, fun F av w hd hr hh => h.out F av w (hl.disj hd) hr (hl.held hd hh)⟩
theorem CY.forget {l : Nat} {args : List CV} {R : Bool → Hp → Prop} {H' : Hp} (h : CY P W l args H' R) (hl : Le H' H) : CY P W l args H R :=
  ⟨fun F av w hd hr hh => h.out F av w (hl.disj hd) hr (hl.held hd hh)⟩
/-- A function that leaves as it was what is held: at any H. -/
theorem CC.at0 {f : FuncId} {args : List CV} {v : CV} (h : CC P W f args (fun _ => none) fun x H' => x = .ret v) (H : Hp) : CC P W f args H fun x H' => x = .ret v ∧ H' = H := by
  refine ⟨h.ent, fun F av w hd hl hh => ?_⟩
  refine (h.out (hun H F) av w (fun i => .inl rfl) hl (by rw [show hun (fun _ => none) (hun H F) = hun H F by funext i; simp [hun]]; exact hh)).mono fun e w' ⟨x, H', h1, h2, h3, h4⟩ => ⟨x, H, h1, hd, ?_, h4, rfl⟩
  refine h3.le fun i o ho => ?_
  have : H' i = none := (h2 i).resolve_right (by rw [ho]; simp)
  simp [hun, this]
  simpa [hun] using ho
/-- **A call's contract, by computing its body, hints for its draws.** -/
theorem CC.of_vw (hX : CxOk X) (hm : X.P.follows .mixedOrders = true) (D : Hints) {f : FuncId} {fn : Func} {c : Code} {args : List CV} {R : CE → Hp → Prop} (hf : X.P.funcs[f]? = some fn) (hb : fn.body = some c) (hnm : (fn.name == "runtime.NumGoroutine") = false) (hl : (args.length ≤ fn.ntmps)) (hD : drawsOk D c = true)
    (h : vw X fn.ntmps none D c (bodyQ X fn.ntmps fn.results.toList R) ⟨env0 args, []⟩ H) : CC X.P X.W f args H R := CC.of_body hX hf hb hnm hl (vw_sound hX hm c _ _ _ hD h)
end
end Go.Cl
set_option linter.unusedSimpArgs false
set_option linter.unusedVariables false
namespace Go.Cl
open Go.RowKit

/-- The second is the first, read as memory that nobody writes. -/
inductive Fz (H : Hp) : CV → CV → Prop
  | same (c : CV) : Fz H c c
  | nil (sz : Nat) : Fz H .nilsl (.sl sz [])
  | ref (r o n c sz : Nat) (cs : List CV) (xs : List (List CV)) (hr : H r = some (.cells cs)) (hn : xs.length = n) (hc : n ≤ c) (hz : ∀ (i : Nat) e, xs[i]? = some e → e.length = sz)
      (y : Nat → Nat → CV) (hy : ∀ i j, i < n → j < sz → cs[o + (i * sz + j)]? = some (y i j)) (hf : ∀ (i j : Nat) e x, xs[i]? = some e → e[j]? = some x → Fz H (y i j) x) : Fz H (.ref r o n c) (.sl sz xs)
  | ptr (r o : Nat) (cs xs : List CV) (hr : H r = some (.cells cs)) (y : Nat → CV) (hy : ∀ j, j < xs.length → cs[o + j]? = some (y j)) (hf : ∀ (j : Nat) x, xs[j]? = some x → Fz H (y j) x) : Fz H (.ptr r o) (.iptr xs)
  | agg (cs ds : List CV) (hl : cs.length = ds.length) (y : Nat → CV) (hy : ∀ j, j < ds.length → cs[j]? = some (y j)) (hf : ∀ (j : Nat) x, ds[j]? = some x → Fz H (y j) x) : Fz H (.agg cs) (.agg ds)

section
variable {X : Cx} {N : Nat} {ρ : Option Nat} {Q : CP} {s : CA} {H F : Hp} {P : Program} {W w : World}
theorem Rep.later {x : CV} {v : Value} (hb : Below W.heap.size W w) (h : Rep W x v) : Rep w x v := by
  have hcell : ∀ {a : Addr} {v : Value}, W.cell? a = some v → w.cell? a = some v := fun {a v} h => (hb.cell (World.block_lt_of_cell? W a h)).trans h
  induction h with
  | any v => exact .any v
  | bool b => exact .bool b
  | int k n => exact .int k n
  | str s => exact .str s
  | nilptr => exact .nilptr
  | ptr r o => exact .ptr r o
  | iptr cs ad vs hc hr ih => exact .iptr cs ad vs (fun j hj => ⟨hcell (hc j hj).1, (hc j hj).2⟩) ih
  | nilsl => exact .nilsl
  | ref r o n c => exact .ref r o n c
  | sl sz xs A c vs hn hz hc hA hr ih =>
    refine .sl sz xs A c vs hn hz (fun i j hi hj => ?_) hA ih
    obtain ⟨ad, h1, h2, h3⟩ := hc i j hi hj
    exact ⟨ad, h1, hcell h2, h3⟩
  | func fn f c fv cv hf hc hfr hcr ih1 ih2 => exact .func fn f c fv cv hf hc ih1 ih2
  | nilfunc => exact .nilfunc
  | nilif => exact .nilif
  | iface t c v h ih => exact .iface t c v ih
  | agg cs vs hl ho hr ih => exact .agg cs vs hl ho ih
  | tuple cs vs hl hr ih => exact .tuple cs vs hl ih
  | nilmap => exact .nilmap
  | map r => exact .map r
theorem Fz.rep (hd : Disj H F) (hh : Held W (hun H F) w) {x y : CV} (hf : Fz H x y) : ∀ {v : Value}, Rep W x v → Rep w y v := by
  induction hf with
  | same c => intro v h; exact h.later hh.below
  | nil sz =>
    intro v h
    cases h with
    | nilsl => exact .sl sz [] none 0 (fun _ _ => undef) (by simp) (fun i e h => by simp at h) (fun i j h => by simp at h) (fun h => by simp at h) (fun i j e x h => by simp at h)
  | ref r o n c sz cs xs hr hn hc hz y hy hf ih =>
    intro v h
    cases h with
    | ref _ _ _ _ =>
      obtain ⟨arr, t, hb, hrep⟩ := hh.cellsAt (hun_left (F := F) hr)
      have hat : ∀ i j, i < n → j < sz → ∃ u, arr.toList[o + (i * sz + j)]? = some u ∧ Rep W (y i j) u ∧ u.oneCell' = true := by
        intro i j hi hj
        have h1 := hy i j hi hj
        have h2 := (List.getElem?_eq_some_iff.1 h1).1
        rw [hrep.1.1] at h2
        exact ⟨_, List.getElem?_eq_getElem h2, hrep.1.2 _ _ _ h1 (List.getElem?_eq_getElem h2), hrep.2 _ _ (List.getElem?_eq_getElem h2)⟩
      subst hn
      refine .sl sz xs (some ⟨r, o, none⟩) c (fun i j => (arr.toList[o + (i * sz + j)]?).getD undef) hc hz (fun i j hi hj => ?_) (fun _ => ⟨_, rfl⟩) (fun i j e x he hx => ?_)
      · obtain ⟨u, h1, h2, h3⟩ := hat i j hi hj
        refine ⟨_, rfl, ?_, by rw [h1]; exact h3⟩
        rw [add_plain, cell_at hb, h1]
        simpa using h1
      · have hi := (List.getElem?_eq_some_iff.1 he).1
        have hj : j < sz := by rw [← hz i e he]; exact (List.getElem?_eq_some_iff.1 hx).1
        obtain ⟨u, h1, h2, h3⟩ := hat i j hi hj
        rw [h1]
        exact ih i j e x he hx h2
  | ptr r o cs xs hr y hy hf ih =>
    intro v h
    cases h with
    | ptr _ _ =>
      obtain ⟨arr, t, hb, hrep⟩ := hh.cellsAt (hun_left (F := F) hr)
      have hat : ∀ j, j < xs.length → ∃ u, arr.toList[o + j]? = some u ∧ Rep W (y j) u ∧ u.oneCell' = true := by
        intro j hj
        have h1 := hy j hj
        have h2 := (List.getElem?_eq_some_iff.1 h1).1
        rw [hrep.1.1] at h2
        exact ⟨_, List.getElem?_eq_getElem h2, hrep.1.2 _ _ _ h1 (List.getElem?_eq_getElem h2), hrep.2 _ _ (List.getElem?_eq_getElem h2)⟩
      refine .iptr xs ⟨r, o, none⟩ (fun j => (arr.toList[o + j]?).getD undef) (fun j hj => ?_) (fun j x hx => ?_)
      · obtain ⟨u, h1, h2, h3⟩ := hat j hj
        rw [add_plain, cell_at hb, h1]
        exact ⟨by simpa using h1, h3⟩
      · have hj := (List.getElem?_eq_some_iff.1 hx).1
        obtain ⟨u, h1, h2, h3⟩ := hat j hj
        rw [h1]
        exact ih j x hx h2
  | agg cs ds hl y hy hf ih =>
    intro v h
    cases h with
    | agg _ vs hl' ho hr =>
      refine .agg ds vs (by omega) ho fun j x u hx hu => ?_
      have hj := (List.getElem?_eq_some_iff.1 hx).1
      exact ih j x hx (hr j _ u (hy j hj) hu)
theorem held_self (w : World) : Held w (hun (fun _ => none) (fun _ => none)) w := ⟨Below.refl _ w, fun r o h => by simp [hun] at h⟩
theorem held_through {w' : World} (hh : Held W H w) (hb : Below w.heap.size w w') : Held W H w' := by
  refine ⟨hh.below.trans (hb.mono hh.below.size), fun r o hr => ?_⟩
  obtain ⟨h1, ob, h2, h3⟩ := hh.at_ r o hr
  exact ⟨h1, ob, by rw [hb.block _ (hh.lt hr)]; exact h2, h3⟩
/-- Values that say the same wherever. -/
def plainV : CV → Bool
  | .bool _ | .int _ _ | .str _ | .nilptr | .nilsl | .nilif | .nilfunc | .nilmap => true
  | .tuple cs => cs.attach.all fun ⟨c, _⟩ => plainV c
  | _ => false
theorem Rep.plain {W' : World} : ∀ {x : CV} {v : Value}, plainV x = true → Rep W' x v → Rep W x v := by
  intro x v hp h
  induction h with
  | bool b => exact .bool b
  | int k n => exact .int k n
  | str s => exact .str s
  | nilptr => exact .nilptr
  | nilsl => exact .nilsl
  | nilfunc => exact .nilfunc
  | nilif => exact .nilif
  | nilmap => exact .nilmap
  | tuple cs vs hl hr ih =>
    refine .tuple cs vs hl fun i x u hx hu => ih i x u hx hu ?_
    simp only [plainV, List.all_eq_true] at hp
    exact hp ⟨x, List.mem_of_getElem? hx⟩ (List.mem_attach _ _)
  | _ => simp [plainV] at hp
/-- **A call whose arguments are frozen**: it is known at whatever world, holding nothing; it hands back plain values. -/
theorem CC.freeze {f : FuncId} {args args' : List CV} {R : CV → Prop} (hl : args.length = args'.length) (hf : ∀ (i : Nat) x y, args[i]? = some x → args'[i]? = some y → Fz H x y) (hp : ∀ v, R v → plainV v = true)
    (h : ∀ w, Below W.heap.size W w → CC P w f args' (fun _ => none) fun x _ => ∃ v, x = .ret v ∧ R v) : CC P W f args H fun x H' => ∃ v, x = .ret v ∧ R v ∧ H' = H := by
  refine ⟨(h W (Below.refl _ W)).ent, fun F av w hd hr hh => ?_⟩
  have hr' : RepL w args' av.toList := ⟨by rw [← hl]; exact hr.1, fun i y v hy hv => by
    have hi := (List.getElem?_eq_some_iff.1 hy).1
    have hx := List.getElem?_eq_getElem (show i < args.length by omega)
    exact (hf i _ y hx hy).rep hd hh (hr.2 i _ v hx hv)⟩
  refine ((h w hh.below).out (fun _ => none) av w (fun i => .inl rfl) hr' (held_self w)).mono ?_
  rintro e w' ⟨x, H', hx, hd', hh', v, rfl, hR⟩
  refine ⟨.ret v, H, ?_, hd, held_through hh hh'.below, v, rfl, hR, rfl⟩
  cases e <;> simp only [RepEnd] at hx ⊢
  exact hx.plain (hp v hR)
theorem CxOk.later (hX : CxOk X) (hb : Below X.W.heap.size X.W w) : CxOk { X with W := w } := ⟨hX.hT, fun g => (hX.hG g).later hb⟩
end
end Go.Cl
set_option linter.unusedSimpArgs false
set_option linter.unusedVariables false
namespace Go.Cl
open Go.RowKit
section
variable {X : Cx} {N : Nat} {ρ : Option Nat} {Q : CP} {s : CA} {H F : Hp} {P : Program} {W w : World}
/-- Values that say the same wherever, blocks of the call's own among them. -/
inductive Free : CV → Prop
  | any : Free .any
  | bool (b : Bool) : Free (.bool b)
  | int (k : IntKind) (n : Int) : Free (.int k n)
  | str (s : ByteArray) : Free (.str s)
  | nilptr : Free .nilptr
  | nilsl : Free .nilsl
  | nilif : Free .nilif
  | nilfunc : Free .nilfunc
  | nilmap : Free .nilmap
  | ptr (r o : Nat) : Free (.ptr r o)
  | ref (r o n c : Nat) : Free (.ref r o n c)
  | iface (t : TypeId) (v : CV) (h : Free v) : Free (.iface t v)
  | agg (cs : List CV) (h : ∀ (i : Nat) x, cs[i]? = some x → Free x) : Free (.agg cs)
  | tuple (cs : List CV) (h : ∀ (i : Nat) x, cs[i]? = some x → Free x) : Free (.tuple cs)
theorem Rep.free {W' : World} {x : CV} {v : Value} (h : Rep W x v) : Free x → Rep W' x v := by
  induction h with
  | any v => exact fun _ => .any v
  | bool b => exact fun _ => .bool b
  | int k n => exact fun _ => .int k n
  | str s => exact fun _ => .str s
  | nilptr => exact fun _ => .nilptr
  | nilsl => exact fun _ => .nilsl
  | nilfunc => exact fun _ => .nilfunc
  | nilif => exact fun _ => .nilif
  | nilmap => exact fun _ => .nilmap
  | ptr r o => exact fun _ => .ptr r o
  | ref r o n c => exact fun _ => .ref r o n c
  | iface t c v h ih => intro hp; cases hp with | iface _ _ hp => exact .iface t c v (ih hp)
  | tuple cs vs hl hr ih => intro hp; cases hp with | tuple _ hp => exact .tuple cs vs hl fun i x u hx hu => ih i x u hx hu (hp i x hx)
  | agg cs vs hl ho hr ih => intro hp; cases hp with | agg _ hp => exact .agg cs vs hl ho fun i x u hx hu => ih i x u hx hu (hp i x hx)
  | iptr => intro hp; cases hp
  | sl => intro hp; cases hp
  | func => intro hp; cases hp
  | map => intro hp; cases hp
def FreeOb : Ob → Prop
  | .cells cs => ∀ (i : Nat) x, cs[i]? = some x → Free x
  | .dfr => True
  | _ => False
def FreeHp (H : Hp) : Prop := ∀ r o, H r = some o → FreeOb o
def FreeEnd : CE → Prop
  | .ret v => Free v
  | .panic v => Free v
theorem RepOb.free {W' : World} {o : Ob} {ob : Obj} (hf : FreeOb o) (h : RepOb W o ob) : RepOb W' o ob := by
  cases o with
  | cells cs =>
    obtain ⟨c, t, rfl, h1, h2⟩ := h
    exact ⟨c, t, rfl, ⟨h1.1, fun i x v hx hv => (h1.2 i x v hx hv).free (hf i x hx)⟩, h2⟩
  | loop => exact hf.elim
  | dfr => exact h
  | imap => exact hf.elim
  | miter => exact hf.elim
/-- **A call whose arguments are frozen**: it is known at whatever world, holding nothing; what it hands back lies in blocks of its own. -/
theorem CC.freeze2 {f : FuncId} {args args' : List CV} {R : CE → Hp → Prop} (hl : args.length = args'.length) (hf : ∀ (i : Nat) x y, args[i]? = some x → args'[i]? = some y → Fz H x y) (hp : ∀ x H', R x H' → FreeEnd x ∧ FreeHp H')
    (h : ∀ w, Below W.heap.size W w → CC P w f args' (fun _ => none) R) : CC P W f args H fun x H2 => ∃ H', R x H' ∧ (∀ r o, H' r = some o → H r = none) ∧ H2 = hun H H' := by
  refine ⟨(h W (Below.refl _ W)).ent, fun F av w hd hr hh => ?_⟩
  have hr' : RepL w args' av.toList := ⟨by rw [← hl]; exact hr.1, fun i y v hy hv => by
    have hi := (List.getElem?_eq_some_iff.1 hy).1
    have hx := List.getElem?_eq_getElem (show i < args.length by omega)
    exact (hf i _ y hx hy).rep hd hh (hr.2 i _ v hx hv)⟩
  refine ((h w hh.below).out (fun _ => none) av w (fun i => .inl rfl) hr' (held_self w)).mono ?_
  rintro e w' ⟨x, H', hx, hd', hh', hR⟩
  obtain ⟨hfx, hfh⟩ := hp x H' hR
  have h0 : ∀ r, hun H' (fun _ => none) r = H' r := fun r => by simp [hun]
  have hnew : ∀ r o, H' r = some o → w.heap.size ≤ r := fun r o hr => (hh'.at_ r o (by rw [h0]; exact hr)).1
  have hold' : Held W (hun H F) w' := held_through hh hh'.below
  have hno : ∀ r o, H' r = some o → hun H F r = none := fun r o hr => by
    cases hc : hun H F r with
    | none => rfl
    | some o' => exact absurd (hh.lt hc) (by have := hnew r o hr; omega)
  refine ⟨x, hun H H', ?_, ?_, ⟨hold'.below, fun r o hr => ?_⟩, H', hR, fun r o hr => (hun_none.1 (hno r o hr)).1, rfl⟩
  · cases x <;> cases e <;> simp only [RepEnd] at hx ⊢ <;> first
      | exact hx.free hfx
      | (obtain ⟨v, h1, h2⟩ := hx; exact ⟨v, h1, h2.free hfx⟩)
  · intro r
    rcases hd r with d | d
    · cases hc : H' r with
      | none => exact .inl (by simp [hun, d, hc])
      | some o => exact .inr (hun_none.1 (hno r o hc)).2
    · exact .inr d
  · by_cases hc : hun H F r = some o
    · exact hold'.at_ r o hc
    · have hn : H' r = some o := by
        simp only [hun] at hr hc
        cases hH : H r with
        | some o' => rw [hH] at hr hc; simp at hr hc; exact absurd hr hc
        | none =>
          rw [hH] at hr hc
          simp at hr hc
          cases hH' : H' r with
          | none => rw [hH'] at hr; simp at hr; exact absurd hr hc
          | some o' => rw [hH'] at hr; simpa using hr
      obtain ⟨h1, ob, h2, h3⟩ := hh'.at_ r o (by rw [h0]; exact hn)
      have := hnew r o hn
      have hb := hh.below.size
      exact ⟨by omega, ob, h2, h3.free (hfh r o hn)⟩
end
end Go.Cl
namespace Go.Cl
open Go.RowKit
section
variable {X : Cx} {N : Nat} {ρ : Option Nat} {Q : CP} {s : CA} {H : Hp}
/-- What an iterator does that keeps a block of its own, which its rounds are handed. -/
def IterP (P : Program) (W : World) (f : FuncId) (fs cap : List CV) (n : Nat) (args : Nat → Nat → List CV) (cel : Nat → List CV) (InvA : Hp → Prop) : Prop :=
  ∀ (l : Nat) (A : Hp) (J : Nat → Hp → Prop) (E : Hp → Prop) (H0 : Hp), InvA A → (∀ k H, J k H → Le A H) → (∀ k H r o, J k H → A r = none → J k (H.set r o)) → (∀ H r o, E H → A r = none → E (H.set r o)) → J 0 H0 →
    (∀ k r H, k < n → J k H → A r = none → H r = some (.cells (cel k)) → CY P W l (args k r) H (fun b H' => H' r = some (.cells (cel k)) ∧ if b = true then J (k + 1) H' else E H')) →
    CC P W f (fs ++ [.func (.yield l) [] []] ++ cap) H0 (fun x H' => (∃ v, x = .ret v) ∧ (J n H' ∨ E H'))
theorem CW.rangeP (hX : CxOk X) {g : Operand} {ps : Array Tmp} {asg body : Code} {f : FuncId} {fs cap : List CV} {n : Nat} {args : Nat → Nat → List CV} {cel : Nat → List CV} (hg : evC X N s.env g = .func (.func f) fs cap) {InvA : Hp → Prop} (hit : IterP X.P X.W f fs cap n args cel InvA) (hup : ∀ (H : Hp) r o, H r = none → InvA H → InvA (H.set r o)) (hps : ∀ p ∈ ps.toList, p < N)
    (hlen : ∀ k r, (args k r).length = ps.size) (A : Hp) (J : Nat → Hp → Prop) (Ex : Code → Hp → Prop) (hinv : InvA A) (hJA : ∀ k H, J k H → Le A H) (hJs : ∀ k H r o, J k H → A r = none → J k (H.set r o)) (hEs : ∀ c H r o, Ex c H → A r = none → Ex c (H.set r o)) (h0 : J 0 H)
    (hround : ∀ l k r H1, k < n → J k H1 → A r = none → H1 r = some (.cells (cel k)) → CW X.P X.W N (some l) asg (nextX fun s1 H2 => CW X.P X.W N (some l) body (roundX (fun H3 => J (k + 1) H3 ∧ H3 r = some (.cells (cel k))) (fun c H3 => Ex c H3 ∧ H3 r = some (.cells (cel k)))) s1 H2) ⟨setps s.env ps.toList (args k r), []⟩ H1)
    (hdone : ∀ d H1, J n H1 → H1 d = none → Q .normal ⟨s.env, .mark d :: s.ds⟩ (H1.set d .dfr))
    (hexit : ∀ c d H1, Ex c H1 → H1 d = none → CW X.P X.W N none c Q ⟨s.env, .mark d :: s.ds⟩ (H1.set d .dfr)) : CW X.P X.W N none (.rangeFunc g ps asg body) Q s H := by
  refine CW.rangeG hX hg (JN := J n) (Ex := Ex) (fun fn d l hdl h0d h0l => ?_) hdone hexit
  have hneq : l ≠ d := Ne.symm hdl
  have hA0 := hJA 0 H h0
  have hAd : A d = none := by
    cases h : A d with
    | none => rfl
    | some o => rw [hA0 _ _ h] at h0d; cases h0d
  have hAl : A l = none := by
    cases h : A l with
    | none => rfl
    | some o => rw [hA0 _ _ h] at h0l; cases h0l
  have hset : ∀ {G : Hp} {r : Nat} {o : Ob} {lo : Ob}, r ≠ d → r ≠ l → ((G.set d .dfr).set l lo).set r o = ((G.set r o).set d .dfr).set l lo := fun {G r o lo} h1 h2 => by
    funext i
    simp only [Hp.set]
    by_cases e1 : i = r
    · subst e1; simp [h1, h2]
    · simp [e1]
  have hr : ∀ {r : Nat} {lo : Ob}, ((A.set d .dfr).set l lo) r = none → r ≠ d ∧ r ≠ l ∧ A r = none := fun {r lo} h => by
    simp only [Hp.set] at h
    split at h
    · cases h
    · split at h
      · cases h
      · rename_i h1 h2; exact ⟨h2, h1, h⟩
  refine hit l ((A.set d .dfr).set l (.loop N .ready none fn s.env ps asg body d)) (fun k H' => ∃ H1, J k H1 ∧ H1 d = none ∧ H1 l = none ∧ H' = (H1.set d .dfr).set l (.loop N .ready none fn s.env ps asg body d))
    (fun H' => ∃ c H1, Ex c H1 ∧ H1 d = none ∧ H1 l = none ∧ H' = (H1.set d .dfr).set l (.loop N .done (some c) fn s.env ps asg body d)) _ ?_ ?_ ?_ ?_ ⟨H, h0, h0d, h0l, rfl⟩ ?_
  · exact hup _ _ _ (set_none hAl hneq) (hup _ _ _ hAd hinv)
  · rintro k H' ⟨H1, hJ, k1, k2, rfl⟩
    have := hJA k H1 hJ
    intro i x hx
    simp only [Hp.set] at hx ⊢
    split
    · rename_i e; rw [if_pos e] at hx; exact hx
    · rename_i e
      rw [if_neg e] at hx
      split
      · rename_i e; rw [if_pos e] at hx; exact hx
      · rename_i e; rw [if_neg e] at hx; exact this i x hx
  · rintro k H' r o ⟨H1, hJ, k1, k2, rfl⟩ hA
    obtain ⟨r1, r2, r3⟩ := hr hA
    exact ⟨H1.set r o, hJs k H1 r o hJ r3, set_none k1 (Ne.symm r1), set_none k2 (Ne.symm r2), hset r1 r2⟩
  · rintro H' r o ⟨c, H1, hE, k1, k2, rfl⟩ hA
    obtain ⟨r1, r2, r3⟩ := hr hA
    exact ⟨c, H1.set r o, hEs c H1 r o hE r3, set_none k1 (Ne.symm r1), set_none k2 (Ne.symm r2), hset r1 r2⟩
  · rintro k r H' hk ⟨H1, hJ, k1, k2, rfl⟩ hA hcr
    obtain ⟨r1, r2, r3⟩ := hr hA
    have hcr1 : H1 r = some (.cells (cel k)) := by
      simp only [Hp.set] at hcr
      rw [if_neg r2, if_neg r1] at hcr
      exact hcr
    have hy := CY.of_round (R := fun b H' => ∃ H1, ((b = true → (J (k + 1) H1 ∧ H1 r = some (.cells (cel k))) ∧ H' = H1.set l (.loop N .ready none fn s.env ps asg body d)) ∧ (b = false → ∃ c, (Ex c H1 ∧ H1 r = some (.cells (cel k))) ∧ H' = H1.set l (.loop N .done (some c) fn s.env ps asg body d))) ∧ H1 l = none)
      (d := d) (fn := fn) hps (hlen k r) k2 (hround l k r H1 hk hJ r3 hcr1) (fun H2 h1 h2 => ⟨H2, ⟨fun _ => ⟨h2, rfl⟩, fun e => (by cases e)⟩, h1⟩) (fun c H2 h1 h2 => ⟨H2, ⟨fun e => (by cases e), fun _ => ⟨c, h2, rfl⟩⟩, h1⟩)
    have hy2 := hy.frame (r := d) (ob := .dfr) (set_none k1 hdl)
    rw [set_comm hneq] at hy2
    refine hy2.mono ?_
    rintro b G ⟨H2, q1, rfl, H3, q2, q3⟩
    cases b with
    | true =>
      obtain ⟨⟨q4, q5⟩, rfl⟩ := q2.1 rfl
      refine ⟨by simp [Hp.set, r1, r2, q5], ?_⟩
      rw [if_pos rfl]
      exact ⟨H3, q4, by simpa [Hp.set, hdl] using q1, q3, set_comm hneq⟩
    | false =>
      obtain ⟨c, ⟨q4, q5⟩, rfl⟩ := q2.2 rfl
      refine ⟨by simp [Hp.set, r1, r2, q5], ?_⟩
      rw [if_neg (by simp)]
      exact ⟨c, H3, q4, by simpa [Hp.set, hdl] using q1, q3, set_comm hneq⟩
end
end Go.Cl
