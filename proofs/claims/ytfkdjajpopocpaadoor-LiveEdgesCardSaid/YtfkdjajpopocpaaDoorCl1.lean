/- DERIVED HERE. The clean layer's logic: code, calls and rounds over what a world holds, with a frame; the rules for code. -/
import Derived.Test.YtfkdjajpopocpaaDoorCl0
import Derived.RangeFuncCalls
namespace Go.Cl
open Go.RowKit

/-- A deferred call, or a loop's mark. -/
inductive CD where
  | mark (r : Nat)
  | call (fn : Fn) (captured args : List CV)
structure CA where
  env : Env
  ds : List CD

def RepD (W : World) : CD → Deferred → Prop
  | .mark r, d => d = { target := .collected r, args := #[] }
  | .call fn c as, d => ∃ cv av, d = { target := .fn fn cv, args := av } ∧ RepL W c cv.toList ∧ RepL W as av.toList
def RepDs (W : World) : List CD → List Deferred → Prop
  | [], [] => True
  | x :: xs, d :: ds => RepD W x d ∧ RepDs W xs ds
  | _, _ => False
def RepA (W : World) (N : Nat) (s : CA) (a : Act) : Prop := RepE W N s.env a.tmps ∧ RepDs W s.ds a.defers

inductive CX where
  | normal
  | exit (id : Nat)
  | goto (l : Nat)
  | ret
  | panic (v : CV)
def RepX (W : World) : CX → Exit → Prop
  | .normal, .normal => True
  | .exit i, .exit j => i = j
  | .goto i, .goto j => i = j
  | .ret, .ret => True
  | .panic c, .panic ch => ∃ v, ch = [{ v, recovered := false }] ∧ Rep W c v
  | _, _ => False
inductive CE where
  | ret (v : CV)
  | panic (v : CV)
def RepEnd (W : World) : CE → Ending → Prop
  | .ret c, .returned v => Rep W c v
  | .panic c, .panicked ch => ∃ v, ch = [{ v, recovered := false }] ∧ Rep W c v
  | _, _ => False

abbrev CP := CX → CA → Hp → Prop
def fen (ρ : Option Nat) : Fence := { fn := fun _ => True, depth := none, alive := false, round := ρ }
def lift (W : World) (N : Nat) (F : Hp) (Q : CP) : Exit → Act → World → Prop := fun e a w => ∃ x s H, RepX W x e ∧ RepA W N s a ∧ Disj H F ∧ Held W (hun H F) w ∧ Q x s H

/-- Code, over what the world holds: whatever else is held (F) is left as it is. -/
structure CW (P : Program) (W : World) (N : Nat) (ρ : Option Nat) (c : Code) (Q : CP) (s : CA) (H : Hp) : Prop where
  out : ∀ (F : Hp) (a : Act) (w : World), Disj H F → RepA W N s a → Held W (hun H F) w → c.wpIn (fen ρ) 0 P (lift W N F Q) a w
structure CO (P : Program) (W : World) (N : Nat) (ρ : Option Nat) (ops : Array Oper) (l : List Nat) (Q : CP) (s : CA) (H : Hp) : Prop where
  out : ∀ (F : Hp) (a : Act) (w : World), Disj H F → RepA W N s a → Held W (hun H F) w → wpOpsIn (fen ρ) 0 P ops (lift W N F Q) l a w
/-- A call's contract. -/
structure CC (P : Program) (W : World) (f : FuncId) (args : List CV) (H : Hp) (R : CE → Hp → Prop) : Prop where
  ent : ∃ fn, P.funcs[f]? = some fn ∧ fn.body.isSome = true ∧ (fn.name == "runtime.NumGoroutine") = false
  out : ∀ (F : Hp) (av : Array Value) (w : World), Disj H F → RepL W args av.toList → Held W (hun H F) w →
    CallsIn (fen none) 0 P f av w (fun e w' => ∃ x H', RepEnd W x e ∧ Disj H' F ∧ Held W (hun H' F) w' ∧ R x H')
/-- A round's contract: yield, called. -/
structure CY (P : Program) (W : World) (l : Nat) (args : List CV) (H : Hp) (R : Bool → Hp → Prop) : Prop where
  out : ∀ (F : Hp) (av : Array Value) (w : World), Disj H F → RepL W args av.toList → Held W (hun H F) w →
    ∃ fn ts asg body, (Instr.yield l av).run P w = .ok (.round l fn ts asg body) w ∧
      RoundIn (fen none) 0 P l fn ts asg body w (fun e w' => ∃ b H', e = .returned (.bool b) ∧ Disj H' F ∧ Held W (hun H' F) w' ∧ R b H')

section
variable {P : Program} {W : World} {N : Nat} {ρ : Option Nat} {Q : CP} {s : CA} {H : Hp}

theorem lift_mono {F : Hp} {Q Q' : CP} (h : ∀ x s H, Q x s H → Q' x s H) : ∀ e a w, lift W N F Q e a w → lift W N F Q' e a w :=
  fun _ _ _ ⟨x, s, H, h1, h2, h3, h4, h5⟩ => ⟨x, s, H, h1, h2, h3, h4, h _ _ _ h5⟩
theorem CW.mono {c : Code} {Q' : CP} (h : CW P W N ρ c Q s H) (hq : ∀ x s H, Q x s H → Q' x s H) : CW P W N ρ c Q' s H :=
  ⟨fun F a w d r k => wpIn_mono (h.out F a w d r k) (lift_mono hq)⟩
theorem CC.mono {f : FuncId} {args : List CV} {R R' : CE → Hp → Prop} (h : CC P W f args H R) (hr : ∀ x H', R x H' → R' x H') : CC P W f args H R' :=
  ⟨h.ent, fun F av w d r k => (h.out F av w d r k).mono fun _ _ ⟨x, H', a, b, c, e⟩ => ⟨x, H', a, b, c, hr _ _ e⟩⟩
theorem CY.mono {l : Nat} {args : List CV} {R R' : Bool → Hp → Prop} (h : CY P W l args H R) (hr : ∀ x H', R x H' → R' x H') : CY P W l args H R' :=
  ⟨fun F av w d r k => by
    obtain ⟨fn, ts, asg, body, h1, h2⟩ := h.out F av w d r k
    exact ⟨fn, ts, asg, body, h1, h2.mono fun _ _ ⟨x, H', a, b, c, e⟩ => ⟨x, H', a, b, c, hr _ _ e⟩⟩⟩
/-- What is held may be forgotten. -/
theorem CW.forget {c : Code} {H' : Hp} (h : CW P W N ρ c Q s H') (hl : ∀ r o, H' r = some o → H r = some o) : CW P W N ρ c Q s H :=
  ⟨fun F a w d r k => h.out F a w (fun i => by
      rcases d i with d | d
      · cases hi : H' i with
        | none => exact .inl rfl
        | some o => rw [hl i o hi] at d; cases d
      · exact .inr d) r (k.le fun i o ho => by
      simp only [hun] at ho ⊢
      cases hi : H' i with
      | none => rw [hi] at ho; simp at ho; rcases d i with d | d
                · simp [d, ho]
                · rw [d] at ho; cases ho
      | some o' => rw [hi] at ho; simp at ho; subst ho; simp [hl i o' hi])⟩

theorem CW.skip (h : Q .normal s H) : CW P W N ρ .skip Q s H := ⟨fun _ _ _ d r k => wpIn_skip ⟨.normal, s, H, trivial, r, d, k, h⟩⟩
theorem CW.label {l : Nat} (h : Q .normal s H) : CW P W N ρ (.label l) Q s H := ⟨fun _ _ _ d r k => wpIn_label ⟨.normal, s, H, trivial, r, d, k, h⟩⟩
theorem CW.exit {id : Nat} (h : Q (.exit id) s H) : CW P W N ρ (.exit id) Q s H := ⟨fun _ _ _ d r k => wpIn_exit ⟨.exit id, s, H, rfl, r, d, k, h⟩⟩
theorem CW.goto {l : Nat} (h : Q (.goto l) s H) : CW P W N ρ (.goto l) Q s H := ⟨fun _ _ _ d r k => wpIn_goto ⟨.goto l, s, H, rfl, r, d, k, h⟩⟩
theorem CW.ret (h : Q .ret s H) : CW P W N ρ .ret Q s H := ⟨fun _ _ _ d r k => wpIn_ret ⟨.ret, s, H, trivial, r, d, k, h⟩⟩
def thenX (next : CA → Hp → Prop) (Q : CP) : CP := fun x s H => match x with | .normal => next s H | x => Q x s H
theorem CW.seq {x y : Code} (h : CW P W N ρ x (thenX (CW P W N ρ y Q) Q) s H) : CW P W N ρ (.seq x y) Q s H :=
  ⟨fun F a w d r k => wpIn_seq (wpIn_mono (h.out F a w d r k) fun e a' w' ⟨x', s', H', h1, h2, h3, h4, h5⟩ => by
    have h0 := h1
    cases x' <;> cases e <;> simp only [RepX] at h1 <;> first
      | exact h5.out F a' w' h3 h2 h4
      | exact ⟨_, s', H', h0, h2, h3, h4, h5⟩)⟩
theorem CW.cond {o : Operand} {x y : Code} {b : Bool} (hc : ∀ a, RepA W N s a → a.eval o = .bool b) (ht : b = true → CW P W N ρ x Q s H) (hf : b = false → CW P W N ρ y Q s H) : CW P W N ρ (.cond o x y) Q s H :=
  ⟨fun F a w d r k => wpIn_cond_split (hc a r) (fun h => (ht h).out F a w d r k) (fun h => (hf h).out F a w d r k)⟩
def inBlockX (id : Nat) (Q : CP) : CP := fun x s H => match x with | .exit i => if i = id then Q .normal s H else Q (.exit i) s H | x => Q x s H
theorem CW.block {id : Nat} {c : Code} (h : CW P W N ρ c (inBlockX id Q) s H) : CW P W N ρ (.block id c) Q s H :=
  ⟨fun F a w d r k => wpIn_block (wpIn_mono (h.out F a w d r k) fun e a' w' ⟨x', s', H', h1, h2, h3, h4, h5⟩ => by
    have h0 := h1
    cases x' <;> cases e <;> simp only [RepX] at h1 <;> first
      | exact ⟨_, s', H', h0, h2, h3, h4, h5⟩
      | (subst h1
         simp only [inBlockX] at h5
         simp only [Exit.inBlock]
         split at h5
         · rename_i e; rw [if_pos e]; exact ⟨.normal, s', H', trivial, h2, h3, h4, h5⟩
         · rename_i e; rw [if_neg e]; exact ⟨.exit _, s', H', rfl, h2, h3, h4, h5⟩))⟩

theorem wpIn_loopN {F : Fence} {n : Nat} {P : Program} {Q : Exit → Act → World → Prop} {c : Code} (I : Nat → Act → World → Prop)
    (round : ∀ m a w, I m a w → c.wpIn F n P (Exit.then (fun a' w' => ∃ m', m' < m ∧ I m' a' w') Q) a w) {m : Nat} {a : Act} {w : World} (h₀ : I m a w) : (Code.loop c).wpIn F n P Q a w := by
  intro b k cs hro hb hr
  have key : ∀ m a w, I m a w →
      ∃ e a' w', Q e a' w' ∧ ArrivesIn (Machine.fenced P F) P (lone (b.atR a (.code c :: .inLoop c :: k)) cs w) b k cs e a' w' := by
    intro m
    induction m using Nat.strongRecOn with
    | _ m ih =>
      intro a w hI
      obtain ⟨e, a₁, w₁, hq, harr⟩ := round m a w hI b (.inLoop c :: k) cs hro hb hr
      cases e with
      | normal =>
        obtain ⟨m', hlt, hI₁⟩ := hq
        obtain ⟨e₂, a₂, w₂, hq₂, harr₂⟩ := ih m' hlt a₁ w₁ hI₁
        exact ⟨e₂, a₂, w₂, hq₂, .of_steps (StepsIn.trans harr (.one (fenced_calm hb hr rfl) stepR_inLoop)) harr₂⟩
      | exit id => exact ⟨_, a₁, w₁, hq, .pass (x := .inLoop c) rfl (fun _ _ => .inl (by simp)) harr⟩
      | goto l => exact ⟨_, a₁, w₁, hq, .pass (x := .inLoop c) rfl (fun _ _ => .inl (by simp)) harr⟩
      | ret => exact ⟨_, a₁, w₁, hq, .pass (x := .inLoop c) rfl (fun _ _ => .inl (by simp)) harr⟩
      | panic ch => exact ⟨_, a₁, w₁, hq, .pass (x := .inLoop c) rfl (fun _ _ => .inl (by simp)) harr⟩
      | outgrown => exact ⟨_, a₁, w₁, hq, .pass (x := .inLoop c) rfl (fun _ _ => .inl (by simp)) harr⟩
  obtain ⟨e, a', w', hq, harr⟩ := key m a w h₀
  exact ⟨e, a', w', hq, .of_steps (.one (fenced_calm hb hr rfl) stepR_loop) harr⟩
/-- A loop: a relation, with a number that every round lowers. -/
theorem CW.loop {c : Code} (I : Nat → CA → Hp → Prop) (round : ∀ m s H, I m s H → CW P W N ρ c (thenX (fun s' H' => ∃ m', m' < m ∧ I m' s' H') Q) s H) {m : Nat} (h : I m s H) : CW P W N ρ (.loop c) Q s H :=
  ⟨fun F a w d r k => wpIn_loopN (fun m a w => ∃ s H, RepA W N s a ∧ Disj H F ∧ Held W (hun H F) w ∧ I m s H)
    (fun m a w ⟨s, H, h1, h2, h3, h4⟩ => wpIn_mono ((round m s H h4).out F a w h2 h1 h3) fun e a' w' ⟨x', s', H', k1, k2, k3, k4, k5⟩ => by
      have k0 := k1
      cases x' <;> cases e <;> simp only [RepX] at k1 <;> first
        | exact ⟨_, s', H', k0, k2, k3, k4, k5⟩
        | (obtain ⟨m', hm, hI⟩ := k5; exact ⟨m', hm, s', H', k2, k3, k4, hI⟩))
    ⟨s, H, r, d, k, h⟩⟩
theorem CW.region {id : Nat} {ops : Array Oper} (h : CO P W N ρ ops (List.range ops.size) Q s H) : CW P W N ρ (.region id ops false) Q s H :=
  ⟨fun F a w d r k => wpIn_region (h.out F a w d r k)⟩
theorem CW.region_draw {id : Nat} {ops : Array Oper} (h : ∀ t, CO P W N ρ ops (Region.schedule (P.follows .mixedOrders) ops t) Q s H) : CW P W N ρ (.region id ops true) Q s H :=
  ⟨fun F a w d r k => wpIn_region_draw fun t => (h t).out F a _ d r k.drew⟩
theorem CO.nil {ops : Array Oper} (h : Q .normal s H) : CO P W N ρ ops [] Q s H := ⟨fun _ _ _ d r k => ⟨.normal, s, H, trivial, r, d, k, h⟩⟩
end
end Go.Cl
