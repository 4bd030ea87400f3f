/- DERIVED HERE. The clean layer: code walked by computing, its regions that draw by hints; what is held in the end may be forgotten; what is held may be frozen. -/
import Derived.Test.YtfkdjajpopocpaaDoorCl14
set_option linter.unusedSimpArgs false
set_option linter.unusedVariables false
namespace Go.Cl
open Go.RowKit

abbrev Hints := List (Nat × Hint)
def hintOf : Hints → Nat → Option Hint
  | [], _ => none
  | p :: l, id => if p.1 = id then some p.2 else hintOf l id
/-- As 'vc', with hints for the regions that draw. -/
def vw (X : Cx) (N : Nat) (ρ : Option Nat) (D : Hints) : Code → CP → CA → Hp → Prop
  | .skip, Q, s, H => Q .normal s H
  | .label _, Q, s, H => Q .normal s H
  | .exit id, Q, s, H => Q (.exit id) s H
  | .goto l, Q, s, H => Q (.goto l) s H
  | .ret, Q, s, H => Q .ret s H
  | .seq a b, Q, s, H => vw X N ρ D a (thenX (fun s H => vw X N ρ D b Q s H) Q) s H
  | .block id c, Q, s, H => vw X N ρ D c (inBlockX id Q) s H
  | .cond c a b, Q, s, H => match evC X N s.env c with
    | .bool t => splitB t fun t => match t with | true => vw X N ρ D a Q s H | false => vw X N ρ D b Q s H
    | _ => False
  | .region id ops draw, Q, s, H => match draw with
    | false => vcL X N ops Q ops.toList s H
    | true => match hintOf D id with
      | some l => vcD X N ops Q l s H
      | none => False
  | c, Q, s, H => CW X.P X.W N ρ c Q s H
def drawsOk (D : Hints) : Code → Bool
  | .seq a b => drawsOk D a && drawsOk D b
  | .block _ c => drawsOk D c
  | .cond _ a b => drawsOk D a && drawsOk D b
  | .region id ops draw => match draw with
    | false => true
    | true => match hintOf D id with
      | some l => drawOk ops l
      | none => false
  | .loop c => drawsOk D c
  | .rangeFunc _ _ a c => drawsOk D a && drawsOk D c
  | _ => true
theorem vw_sound {X : Cx} (hX : CxOk X) (hm : X.P.follows .mixedOrders = true) {D : Hints} {N : Nat} {ρ : Option Nat} : ∀ (c : Code) (Q : CP) (s : CA) (H : Hp), drawsOk D c = true → vw X N ρ D c Q s H → CW X.P X.W N ρ c Q s H
  | .skip, Q, s, H, _, h => CW.skip h
  | .label _, Q, s, H, _, h => CW.label h
  | .exit id, Q, s, H, _, h => CW.exit h
  | .goto l, Q, s, H, _, h => CW.goto h
  | .ret, Q, s, H, _, h => CW.ret h
  | .seq a b, Q, s, H, hD, h => by
    simp only [drawsOk, Bool.and_eq_true] at hD
    exact CW.seq ((vw_sound hX hm a _ s H hD.1 h).mono fun x s H hx => by
      cases x <;> first | exact vw_sound hX hm b Q s H hD.2 hx | exact hx)
  | .block id c, Q, s, H, hD, h => CW.block (vw_sound hX hm c _ s H hD h)
  | .cond c a b, Q, s, H, hD, h => by
    simp only [drawsOk, Bool.and_eq_true] at hD
    simp only [vw] at h
    split at h
    · rename_i t he
      have h := splitB_elim h
      refine CW.cond (b := t) (fun a hr => ?_) (fun ht => ?_) (fun ht => ?_)
      · have := ev_rep hX hr c
        rw [he] at this
        exact rep_bool this
      · subst ht; exact vw_sound hX hm a Q s H hD.1 h
      · subst ht; exact vw_sound hX hm b Q s H hD.2 h
    · exact h.elim
  | .region id ops draw, Q, s, H, hD, h => by
    cases draw with
    | false => exact CW.region (by rw [List.range_eq_range']; exact CO.of_vcL hX ops.size 0 s H (by omega) (by simpa [vw] using h))
    | true =>
      simp only [drawsOk] at hD
      simp only [vw] at h
      split at h
      · rename_i l hl
        rw [hl] at hD
        exact CW.draw hX hm hD h
      · exact h.elim
  | .loop _, Q, s, H, _, h => h
  | .rangeFunc _ _ _ _, Q, s, H, _, h => h
  | .scope _, Q, s, H, _, h => h
  | .refuse _, Q, s, H, _, h => h

section
variable {X : Cx} {N : Nat} {ρ : Option Nat} {Q : CP} {s : CA} {H : Hp} {P : Program} {W : World}
/-- Less is held. -/
def Le (H H' : Hp) : Prop := ∀ r o, H r = some o → H' r = some o
theorem Le.refl (H : Hp) : Le H H := fun _ _ h => h
theorem Le.trans {A B C : Hp} (h : Le A B) (k : Le B C) : Le A C := fun r o x => k r o (h r o x)
theorem Le.set_new {H : Hp} {r : Nat} {o : Ob} (h : H r = none) : Le H (H.set r o) := fun i x hx => by
  simp only [Hp.set]; rw [if_neg (fun e => by rw [e, h] at hx; cases hx)]; exact hx
theorem Le.set {A B : Hp} {r : Nat} {o : Ob} (h : Le A B) : Le (A.set r o) (B.set r o) := fun i x hx => by
  simp only [Hp.set] at hx ⊢; split
  · rename_i e; rw [if_pos e] at hx; exact hx
  · rename_i e; rw [if_neg e] at hx; exact h i x hx
theorem Le.put {A B : Hp} {r : Nat} {o : Ob} (h : Le A B) (hr : A r = none) : Le A (B.set r o) := fun i x hx => by
  simp only [Hp.set]; rw [if_neg (fun e => by rw [e, hr] at hx; cases hx)]; exact h i x hx
theorem Le.disj {A B F : Hp} (h : Le A B) (hd : Disj B F) : Disj A F := fun i => by
  rcases hd i with d | d
  · cases hi : A i with
    | none => exact .inl rfl
    | some o => rw [h i o hi] at d; cases d
  · exact .inr d
theorem Le.held {A B F : Hp} (h : Le A B) (hd : Disj B F) {w : World} (hh : Held W (hun B F) w) : Held W (hun A F) w := hh.le fun i o ho => by
  simp only [hun] at ho ⊢
  cases hi : A i with
  | none =>
    rw [hi] at ho
    simp at ho
    rcases hd i with d | d
    · simp [d, ho]
    · rw [d] at ho; cases ho
  | some o' => rw [hi] at ho; simp at ho; subst ho; simp [h i o' hi]
/-- In the end less may be told of. -/
theorem CC.shrink {f : FuncId} {args : List CV} {R : CE → Hp → Prop} (h : CC P W f args H fun x H' => ∃ H2, Le H2 H' ∧ R x H2) : CC P W f args H R :=
  ⟨h.ent, fun F av w hd hl hh => (h.out F av w hd hl hh).mono fun e w' ⟨x, H', h1, h2, h3, H2, h4, h5⟩ => ⟨x, H2, h1, h4.disj h2, h4.held h2 h3, h5⟩⟩
theorem CC.forget {f : FuncId} {args : List CV} {R : CE → Hp → Prop} {H' : Hp} (h : CC P W f args H' R) (hl : Le H' H) : CC P W f args H R :=
  ⟨h.ent, fun F av w hd hr hh => h.out F av w (hl.disj hd) hr (hl.held hd hh)⟩
theorem CY.forget {l : Nat} {args : List CV} {R : Bool → Hp → Prop} {H' : Hp} (h : CY P W l args H' R) (hl : Le H' H) : CY P W l args H R :=
  ⟨fun F av w hd hr hh => h.out F av w (hl.disj hd) hr (hl.held hd hh)⟩
/-- A function that leaves as it was what is held: at any H. -/
theorem CC.at0 {f : FuncId} {args : List CV} {v : CV} (h : CC P W f args (fun _ => none) fun x H' => x = .ret v) (H : Hp) : CC P W f args H fun x H' => x = .ret v ∧ H' = H := by
  refine ⟨h.ent, fun F av w hd hl hh => ?_⟩
  refine (h.out (hun H F) av w (fun i => .inl rfl) hl (by rw [show hun (fun _ => none) (hun H F) = hun H F by funext i; simp [hun]]; exact hh)).mono fun e w' ⟨x, H', h1, h2, h3, h4⟩ => ⟨x, H, h1, hd, ?_, h4, rfl⟩
  refine h3.le fun i o ho => ?_
  have : H' i = none := (h2 i).resolve_right (by rw [ho]; simp)
  simp [hun, this]
  simpa [hun] using ho
/-- **A call's contract, by computing its body, hints for its draws.** -/
theorem CC.of_vw (hX : CxOk X) (hm : X.P.follows .mixedOrders = true) (D : Hints) {f : FuncId} {fn : Func} {c : Code} {args : List CV} {R : CE → Hp → Prop} (hf : X.P.funcs[f]? = some fn) (hb : fn.body = some c) (hnm : (fn.name == "runtime.NumGoroutine") = false) (hl : (args.length ≤ fn.ntmps)) (hD : drawsOk D c = true)
    (h : vw X fn.ntmps none D c (bodyQ X fn.ntmps fn.results.toList R) ⟨env0 args, []⟩ H) : CC X.P X.W f args H R := CC.of_body hX hf hb hnm hl (vw_sound hX hm c _ _ _ hD h)
end
end Go.Cl
