/- DERIVED HERE. The clean layer: the walk by 'simp', in the code's order: what comes later is held back ('hold') until it is reached. -/
import Derived.Test.YtfkdjajpopocpaaDoorHints
import Derived.Test.YtfkdjajpopocpaaDoorClE
set_option linter.unusedSimpArgs false
namespace Go.Cl
open Go.Proofs
universe u v w
noncomputable abbrev cx (W : World) (G : Nat → CV) : Cx := ⟨Tryd.prog, tab, W, G⟩
theorem mixed : Tryd.prog.follows .mixedOrders = true := by kernel_rfl
/-- 'simp' does not look into it. -/
inductive Tag {α : Sort u} (a : α) : Type where
  | mk
def hold {α : Sort u} (a : α) (_ : Tag a := Tag.mk) : α := a
section
variable {X : Cx} {N : Nat} {ρ : Option Nat} {D : Hints} {Q : CP} {s : CA} {H : Hp} {ops : Array Oper}
theorem hold1 {α : Sort u} {F : α → Prop} {t : Tag F} {a : α} : hold F t a = F a := _root_.id rfl
theorem hold2 {α : Sort u} {β : Sort v} {F : α → β → Prop} {t : Tag F} {a : α} {b : β} : hold F t a b = F a b := _root_.id rfl
theorem hold3 {α : Sort u} {β : Sort v} {γ : Sort w} {F : α → β → γ → Prop} {t : Tag F} {a : α} {b : β} {c : γ} : hold F t a b c = F a b c := _root_.id rfl
theorem vw_seq {a b : Code} : vw X N ρ D (.seq a b) Q s H = vw X N ρ D a (hold (thenX (fun s H => vw X N ρ D b Q s H) Q)) s H := _root_.id rfl
theorem vw_block {id : Nat} {c : Code} : vw X N ρ D (.block id c) Q s H = vw X N ρ D c (hold (inBlockX id Q)) s H := _root_.id rfl
def condK (v : CV) (K : Bool → Prop) : Prop := match v with | .bool t => splitB t K | _ => False
theorem vw_cond {c : Operand} {a b : Code} : vw X N ρ D (.cond c a b) Q s H = condK (evC X N s.env c) (hold fun t => match t with | true => vw X N ρ D a Q s H | false => vw X N ρ D b Q s H) := by
  simp only [vw, condK, hold]
  cases evC X N s.env c <;> rfl
theorem condK_bool {t : Bool} {K : Bool → Prop} : condK (.bool t) K = splitB t K := _root_.id rfl
theorem split_true {K : Bool → Prop} : splitB true K = K true := by simp [splitB]
theorem split_false {K : Bool → Prop} : splitB false K = K false := by simp [splitB]
theorem split_any {b : Bool} {K : Bool → Prop} : splitB b K = ((b = true → K true) ∧ (b = false → K false)) := _root_.id rfl
theorem vw_region {id : Nat} {l : List Oper} : vw X N ρ D (.region id (List.toArray l) false) Q s H = vcL X N (List.toArray l) Q l s H := _root_.id rfl
def vcDH (X : Cx) (N : Nat) (ops : Array Oper) (Q : CP) (h : Option Hint) (s : CA) (H : Hp) : Prop := match h with | some l => vcD X N ops Q l s H | none => False
theorem vw_draw {id : Nat} {l : List Oper} : vw X N ρ D (.region id (List.toArray l) true) Q s H = vcDH X N (List.toArray l) Q (hintOf D id) s H := by
  simp only [vw, vcDH]
  cases hintOf D id <;> rfl
theorem vcDH_some {l : Hint} : vcDH X N ops Q (some l) s H = vcD X N ops Q l s H := _root_.id rfl
theorem vw_skip : vw X N ρ D .skip Q s H = Q .normal s H := _root_.id rfl
theorem vw_label {l : Nat} : vw X N ρ D (.label l) Q s H = Q .normal s H := _root_.id rfl
theorem vw_exit {i : Nat} : vw X N ρ D (.exit i) Q s H = Q (.exit i) s H := _root_.id rfl
theorem vw_goto {i : Nat} : vw X N ρ D (.goto i) Q s H = Q (.goto i) s H := _root_.id rfl
theorem vw_ret : vw X N ρ D .ret Q s H = Q .ret s H := _root_.id rfl
theorem vw_loop {c : Code} : vw X N ρ D (.loop c) Q s H = CW X.P X.W N ρ (.loop c) Q s H := _root_.id rfl
theorem vw_range {g : Operand} {ps : Array Tmp} {a c : Code} : vw X N ρ D (.rangeFunc g ps a c) Q s H = CW X.P X.W N ρ (.rangeFunc g ps a c) Q s H := _root_.id rfl
theorem vcL_nil : vcL X N ops Q [] s H = Q .normal s H := _root_.id rfl
theorem vcL_cons {o : Oper} {l : List Oper} : vcL X N ops Q (o :: l) s H = vcStepO X N ops o Q (hold fun s' H' => vcL X N ops Q l s' H') s H := _root_.id rfl
theorem vcD_nil : vcD X N ops Q [] s H = Q .normal s H := _root_.id rfl
def vcDo1 (X : Cx) (N : Nat) (ops : Array Oper) (o : Option Oper) (Q : CP) (K : CA → Hp → Prop) (s : CA) (H : Hp) : Prop := match o with | some o => vcStepO X N ops o (Qo Q o) K s H | none => False
theorem vcD_cons {i : Nat} {ys : List Nat} {a b c : Nat} {l : Hint} : vcD X N ops Q (⟨i, ys, a, b, c⟩ :: l) s H = vcDo1 X N ops (ops[i]?) Q (hold fun s' H' => allP ys (stabI X N ops s H H') ∧ vcD X N ops Q l s' H') s H := by
  simp only [vcD, vcDo1, hold]
  cases ops[i]? <;> rfl
theorem vcDo1_some {o : Oper} {K : CA → Hp → Prop} : vcDo1 X N ops (some o) Q K s H = vcStepO X N ops o (hold (Qo Q o)) K s H := _root_.id rfl
def okK (d : Option Nat) (N : Nat) (P : Prop) : Prop := dstOk N d = true ∧ P
theorem step_none {d : Option Nat} {op : Op} {ty : TypeId} {pos : String} {af : Array Edge} {K : CA → Hp → Prop} : vcStepO X N ops ⟨d, op, ty, pos, af, none⟩ Q K s H = (dstOk N d = true ∧ vcDo X N ⟨d, op, ty, pos, af, none⟩ s H Q (hold fun c H' => K (s.put d c) H')) := by
  simp only [vcStepO, hold]
  split <;> simp_all
/-- The Dst of an operation of a list, by its place. -/
def gdL : List Oper → Nat → Option Nat
  | [], _ => none
  | o :: _, 0 => o.dst
  | _ :: l, n + 1 => gdL l n
theorem gdL_eq : ∀ (l : List Oper) (j : Nat), (l[j]?).bind (·.dst) = gdL l j
  | [], j => by simp [gdL]
  | o :: l, 0 => by simp [gdL]
  | o :: l, n + 1 => by simp [gdL, gdL_eq l n]
theorem gdL_zero {d : Option Nat} {op : Op} {ty : TypeId} {pos : String} {af : Array Edge} {g : Option (Nat × Bool)} {l : List Oper} : gdL (⟨d, op, ty, pos, af, g⟩ :: l) 0 = d := _root_.id rfl
theorem gdL_succ {o : Oper} {l : List Oper} {n : Nat} : gdL (o :: l) (n + 1) = gdL l n := _root_.id rfl
def guardK (X : Cx) (N : Nat) (s : CA) (od : Option Nat) (Kb : Nat → Bool → Prop) (Kn : Unit → Prop) : Prop :=
  match od with
  | some d => match evC X N s.env (.tmp d) with
    | .bool b => splitB b (hold (Kb d))
    | .tuple [] => Kn ()
    | _ => False
  | none => False
theorem step_some {d : Option Nat} {op : Op} {ty : TypeId} {pos : String} {af : Array Edge} {j : Nat} {want : Bool} {lo : List Oper} {K : CA → Hp → Prop} : vcStepO X N (List.toArray lo) ⟨d, op, ty, pos, af, some (j, want)⟩ Q K s H = (dstOk N d = true ∧ guardK X N s (gdL lo j) (hold fun g b' => if b' = want then vcDo X N ⟨d, op, ty, pos, af, some (j, want)⟩ (s.setv g (.bool b')) H Q (hold fun c H' => K ((s.setv g (.bool b')).put d c) H') else K ((s.setv g (.bool b')).put d (.tuple [])) H) (hold fun _ => K (s.put d (.tuple [])) H)) := by
  rw [← gdL_eq]
  simp only [vcStepO, hold, guardK, List.getElem?_toArray]
  by_cases hd : dstOk N d = true
  · simp only [hd, if_true, true_and]
    cases (lo[j]?).bind (·.dst) with
    | none => rfl
    | some g =>
      simp only []
      cases evC X N s.env (.tmp g) with
      | bool b => rfl
      | tuple cs => cases cs <;> rfl
      | _ => rfl
  · simp [hd]
theorem put_some {e : Env} {ds : List CD} {d : Nat} {c : CV} : (⟨e, ds⟩ : CA).put (some d) c = ⟨e.set d c, ds⟩ := _root_.id rfl
theorem put_none {s : CA} {c : CV} : s.put none c = s := _root_.id rfl
theorem setv_mk {e : Env} {ds : List CD} {d : Nat} {c : CV} : (⟨e, ds⟩ : CA).setv d c = ⟨e.set d c, ds⟩ := _root_.id rfl
theorem get_eq {e : Env} {d : Nat} {c : CV} : (e.set d c) d = c := by simp [Env.set]
theorem get_ne {e : Env} {d i : Nat} {c : CV} (h : i ≠ d) : (e.set d c) i = e i := by simp [Env.set, h]
theorem hset_ne {H : Hp} {l r : Nat} {o : Ob} (h : r ≠ l) : (H.set l o) r = H r := by simp [Hp.set, h]
theorem hset_none {H : Hp} {l r : Nat} {o : Ob} : ((H.set l o) r = none) = (r ≠ l ∧ l ≠ r ∧ H r = none) := by
  by_cases h : r = l
  · simp [Hp.set, h]
  · simp [Hp.set, h, Ne.symm h]
theorem then_normal {n : CA → Hp → Prop} : thenX n Q .normal s H = n s H := _root_.id rfl
theorem then_exit {n : CA → Hp → Prop} {i : Nat} : thenX n Q (.exit i) s H = Q (.exit i) s H := _root_.id rfl
theorem then_goto {n : CA → Hp → Prop} {i : Nat} : thenX n Q (.goto i) s H = Q (.goto i) s H := _root_.id rfl
theorem then_ret {n : CA → Hp → Prop} : thenX n Q .ret s H = Q .ret s H := _root_.id rfl
theorem then_panic {n : CA → Hp → Prop} {v : CV} : thenX n Q (.panic v) s H = Q (.panic v) s H := _root_.id rfl
theorem inb_normal {id : Nat} : inBlockX id Q .normal s H = Q .normal s H := _root_.id rfl
theorem inb_exit {id i : Nat} : inBlockX id Q (.exit i) s H = if i = id then Q .normal s H else Q (.exit i) s H := _root_.id rfl
theorem inb_goto {id i : Nat} : inBlockX id Q (.goto i) s H = Q (.goto i) s H := _root_.id rfl
theorem inb_ret {id : Nat} : inBlockX id Q .ret s H = Q .ret s H := _root_.id rfl
theorem inb_panic {id : Nat} {v : CV} : inBlockX id Q (.panic v) s H = Q (.panic v) s H := _root_.id rfl
theorem body_ret {rs : List ResultVar} {R : CE → Hp → Prop} : bodyQ X N rs R .ret s H = leaveQ X N rs R s.ds s H := _root_.id rfl
theorem body_panic {rs : List ResultVar} {R : CE → Hp → Prop} {v : CV} : bodyQ X N rs R (.panic v) s H = leaveP R v s.ds H := _root_.id rfl
theorem body_normal {rs : List ResultVar} {R : CE → Hp → Prop} : bodyQ X N rs R .normal s H = leaveQ X N rs R s.ds s H := _root_.id rfl
end
end Go.Cl
