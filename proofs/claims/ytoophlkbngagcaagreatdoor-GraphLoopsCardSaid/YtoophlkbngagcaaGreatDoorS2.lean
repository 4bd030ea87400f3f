/- DERIVED HERE. The clean layer: calls met by 'simp', what comes behind them held. -/
import Derived.Test.YtoophlkbngagcaaGreatDoorOwn
set_option linter.unusedSimpArgs false
set_option linter.unusedVariables false
namespace Go.Cl
open Go.Proofs
section
variable {X : Cx} {N : Nat} {Q : CP} {s : CA} {H : Hp} {K : CV → Hp → Prop} {d : Option Nat} {ty : TypeId} {pos : String} {af : Array Edge} {g : Option (Nat × Bool)}
def ccK (P : Program) (W : World) (f : FuncId) (args : List CV) (H : Hp) (Q : CP) (s : CA) (K : CV → Hp → Prop) : Prop := CC P W f args H fun x H' => match x with | .ret v => K v H' | .panic v => Q (.panic v) s H'
def cyK (P : Program) (W : World) (l : Nat) (args : List CV) (H : Hp) (K : CV → Hp → Prop) : Prop := CY P W l args H fun b H' => K (.bool b) H'
def calK (X : Cx) (fv : CV) (ar : List CV) (s : CA) (H : Hp) (Q : CP) (K : CV → Hp → Prop) : Prop :=
  match fv with
  | .func (.func f) first cap => ccK X.P X.W f (first ++ ar ++ cap) H Q s K
  | .func (.yield l) first _ => cyK X.P X.W l (first ++ ar) H K
  | _ => False
theorem do_call2 {f : Operand} {ar : Array Operand} {ts : Array TypeId} : vcDo X N ⟨d, .call ⟨.value f, ar, ts⟩, ty, pos, af, g⟩ s H Q K = calK X (evC X N s.env f) (evs X N s.env ar.toList) s H (hold Q) (hold K) := _root_.id rfl
theorem cal_func {f : FuncId} {first cap ar : List CV} : calK X (.func (.func f) first cap) ar s H Q K = ccK X.P X.W f (first ++ ar ++ cap) H Q s K := _root_.id rfl
theorem cal_yield {l : Nat} {first cap ar : List CV} : calK X (.func (.yield l) first cap) ar s H Q K = cyK X.P X.W l (first ++ ar) H K := _root_.id rfl
theorem box_sl {z : Nat} {xs : List (List CV)} : boxK (.sl z xs) H K = ∀ r, H r = none → K (.ptr r 0) (H.set r (.cells [.sl z xs])) := by simp [boxK, CV.stor, CV.cells]
theorem box_iptr {xs : List CV} : boxK (.iptr xs) H K = ∀ r, H r = none → K (.ptr r 0) (H.set r (.cells [.iptr xs])) := by simp [boxK, CV.stor, CV.cells]
theorem box_ref {r o n c : Nat} : boxK (.ref r o n c) H K = ∀ q, H q = none → K (.ptr q 0) (H.set q (.cells [.ref r o n c])) := by simp [boxK, CV.stor, CV.cells]
theorem box_ptr {r o : Nat} : boxK (.ptr r o) H K = ∀ q, H q = none → K (.ptr q 0) (H.set q (.cells [.ptr r o])) := by simp [boxK, CV.stor, CV.cells]
theorem box_bool {b : Bool} : boxK (.bool b) H K = ∀ r, H r = none → K (.ptr r 0) (H.set r (.cells [.bool b])) := by simp [boxK, CV.stor, CV.cells]
theorem box_nilsl : boxK .nilsl H K = ∀ r, H r = none → K (.ptr r 0) (H.set r (.cells [.nilsl])) := by simp [boxK, CV.stor, CV.cells]
attribute [simp] box_sl box_iptr box_ref box_ptr box_bool box_nilsl
theorem Le.unmark {A B : Hp} {d : Nat} {o : Ob} (h : Le A B) (hd : B d = Option.none) : Le A (fun i => if i = d then Option.none else (B.set d o) i) := fun i x hx => by
  have hi := h i x hx
  have : i ≠ d := fun e => by rw [e, hd] at hi; cases hi
  simp [this, hi]
attribute [simp ↓ high] do_call2
attribute [simp] cal_func cal_yield
theorem CC.k {P : Program} {W : World} {f : FuncId} {args : List CV} {R : CE → Hp → Prop} (h : CC P W f args H R) (hk : ∀ x H', R x H' → match x with | .ret v => K v H' | .panic v => Q (.panic v) s H') : ccK P W f args H Q s K := h.mono hk
theorem CY.k {P : Program} {W : World} {l : Nat} {args : List CV} {R : Bool → Hp → Prop} (h : CY P W l args H R) (hk : ∀ b H', R b H' → K (.bool b) H') : cyK P W l args H K := h.mono hk
variable {ρ : Option Nat}
/-- A function's contract, its body walked in parts. -/
theorem CC.of_cw (hX : CxOk X) {f : FuncId} {fn : Func} {c : Code} {args : List CV} {R : CE → Hp → Prop} (hf : X.P.funcs[f]? = some fn) (hb : fn.body = some c) (hnm : (fn.name == "runtime.NumGoroutine") = false) (hl : args.length ≤ fn.ntmps)
    (h : CW X.P X.W fn.ntmps none c (hold (bodyQ X fn.ntmps fn.results.toList R)) ⟨env0 args, []⟩ H) : CC X.P X.W f args H R := CC.of_body hX hf hb hnm hl h
/-- The first part by computing, the rest to come. -/
theorem CW.walk (hX : CxOk X) (hm : X.P.follows .mixedOrders = true) (D : Hints) {a b : Code} (hD : drawsOk D a = true) (h : vw X N ρ D a (hold (thenX (hold (CW X.P X.W N ρ b Q)) Q)) s H) : CW X.P X.W N ρ (.seq a b) Q s H := CW.seq (vw_sound hX hm a _ s H hD h)
theorem CW.walk1 (hX : CxOk X) (hm : X.P.follows .mixedOrders = true) (D : Hints) {a : Code} (hD : drawsOk D a = true) (h : vw X N ρ D a Q s H) : CW X.P X.W N ρ a Q s H := vw_sound hX hm a _ s H hD h
/-- A cut between two parts. -/
theorem CW.cut {P : Program} {W : World} {a b : Code} (M : CA → Hp → Prop) (h : CW P W N ρ a (hold (thenX M Q)) s H) (hM : ∀ s' H', M s' H' → CW P W N ρ b Q s' H') : CW P W N ρ (.seq a b) Q s H :=
  CW.seq (h.mono fun x s H hx => by cases x <;> first | exact hM _ _ hx | exact hx)
end
end Go.Cl
