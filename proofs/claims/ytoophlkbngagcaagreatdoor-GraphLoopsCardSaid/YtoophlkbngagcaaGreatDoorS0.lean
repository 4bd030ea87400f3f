/- DERIVED HERE. The clean layer: the walk by 'simp', in the code's order: what comes later is held back ('hold') until it is reached. DERIVED HERE. The clean layer: one unconditional lemma for each operation, for the walk by 'simp'. DERIVED HERE. The clean layer: what 'simp' unfolds in a walk (with 'hold'; to take S0's place). -/
import Derived.Test.YtoophlkbngagcaaGreatDoorHints
import Derived.Test.YtoophlkbngagcaaGreatDoorClE
set_option linter.unusedSimpArgs false
namespace Go.Cl
open Go.Proofs
universe u v w
noncomputable abbrev cx (W : World) (G : Nat → CV) : Cx := ⟨Tryz.prog, tab, W, G⟩
theorem mixed : Tryz.prog.follows .mixedOrders = true := by kernel_rfl
/-- 'simp' does not look into it. -/
inductive Tag {α : Sort u} (a : α) : Type where
  | mk
def hold {α : Sort u} (a : α) (_ : Tag a := Tag.mk) : α := a
section
variable {X : Cx} {N : Nat} {ρ : Option Nat} {D : Hints} {Q : CP} {s : CA} {H : Hp} {ops : Array Oper}
theorem hold1 {α : Sort u} {F : α → Prop} {t : Tag F} {a : α} : hold F t a = F a := _root_.id rfl
theorem hold2 {α : Sort u} {β : Sort v} {F : α → β → Prop} {t : Tag F} {a : α} {b : β} : hold F t a b = F a b := _root_.id rfl
theorem hold3 {α : Sort u} {β : Sort v} {γ : Sort w} {F : α → β → γ → Prop} {t : Tag F} {a : α} {b : β} {c : γ} : hold F t a b c = F a b c := _root_.id rfl
theorem vw_seq {a b : Code} : vw X N ρ D (.seq a b) Q s H = vw X N ρ D a (hold (thenX (fun s H => vw X N ρ D b Q s H) Q)) s H := _root_.id rfl
theorem vw_block {id : Nat} {c : Code} : vw X N ρ D (.block id c) Q s H = vw X N ρ D c (hold (inBlockX id Q)) s H := _root_.id rfl
def condK (v : CV) (K : Bool → Prop) : Prop := match v with | .bool t => splitB t K | _ => False
theorem vw_cond {c : Operand} {a b : Code} : vw X N ρ D (.cond c a b) Q s H = condK (evC X N s.env c) (hold fun t => match t with | true => vw X N ρ D a Q s H | false => vw X N ρ D b Q s H) := by
  simp only [vw, condK, hold]
  cases evC X N s.env c <;> rfl
theorem condK_bool {t : Bool} {K : Bool → Prop} : condK (.bool t) K = splitB t K := _root_.id rfl
theorem split_true {K : Bool → Prop} : splitB true K = K true := by simp [splitB]
theorem split_false {K : Bool → Prop} : splitB false K = K false := by simp [splitB]
theorem split_any {b : Bool} {K : Bool → Prop} : splitB b K = ((b = true → K true) ∧ (b = false → K false)) := _root_.id rfl
theorem vw_region {id : Nat} {l : List Oper} : vw X N ρ D (.region id (List.toArray l) false) Q s H = vcL X N (List.toArray l) Q l s H := _root_.id rfl
def vcDH (X : Cx) (N : Nat) (ops : Array Oper) (Q : CP) (h : Option Hint) (s : CA) (H : Hp) : Prop := match h with | some l => vcD X N ops Q l s H | none => False
theorem vw_draw {id : Nat} {l : List Oper} : vw X N ρ D (.region id (List.toArray l) true) Q s H = vcDH X N (List.toArray l) Q (hintOf D id) s H := by
  simp only [vw, vcDH]
  cases hintOf D id <;> rfl
theorem vcDH_some {l : Hint} : vcDH X N ops Q (some l) s H = vcD X N ops Q l s H := _root_.id rfl
theorem vw_skip : vw X N ρ D .skip Q s H = Q .normal s H := _root_.id rfl
theorem vw_label {l : Nat} : vw X N ρ D (.label l) Q s H = Q .normal s H := _root_.id rfl
theorem vw_exit {i : Nat} : vw X N ρ D (.exit i) Q s H = Q (.exit i) s H := _root_.id rfl
theorem vw_goto {i : Nat} : vw X N ρ D (.goto i) Q s H = Q (.goto i) s H := _root_.id rfl
theorem vw_ret : vw X N ρ D .ret Q s H = Q .ret s H := _root_.id rfl
theorem vw_loop {c : Code} : vw X N ρ D (.loop c) Q s H = CW X.P X.W N ρ (.loop c) Q s H := _root_.id rfl
theorem vw_range {g : Operand} {ps : Array Tmp} {a c : Code} : vw X N ρ D (.rangeFunc g ps a c) Q s H = CW X.P X.W N ρ (.rangeFunc g ps a c) Q s H := _root_.id rfl
theorem vcL_nil : vcL X N ops Q [] s H = Q .normal s H := _root_.id rfl
theorem vcL_cons {o : Oper} {l : List Oper} : vcL X N ops Q (o :: l) s H = vcStepO X N ops o Q (hold fun s' H' => vcL X N ops Q l s' H') s H := _root_.id rfl
theorem vcD_nil : vcD X N ops Q [] s H = Q .normal s H := _root_.id rfl
def vcDo1 (X : Cx) (N : Nat) (ops : Array Oper) (o : Option Oper) (Q : CP) (K : CA → Hp → Prop) (s : CA) (H : Hp) : Prop := match o with | some o => vcStepO X N ops o (Qo Q o) K s H | none => False
theorem vcD_cons {i : Nat} {ys : List Nat} {a b c : Nat} {l : Hint} : vcD X N ops Q (⟨i, ys, a, b, c⟩ :: l) s H = vcDo1 X N ops (ops[i]?) Q (hold fun s' H' => allP ys (stabI X N ops s H H') ∧ vcD X N ops Q l s' H') s H := by
  simp only [vcD, vcDo1, hold]
  cases ops[i]? <;> rfl
theorem vcDo1_some {o : Oper} {K : CA → Hp → Prop} : vcDo1 X N ops (some o) Q K s H = vcStepO X N ops o (hold (Qo Q o)) K s H := _root_.id rfl
def okK (d : Option Nat) (N : Nat) (P : Prop) : Prop := dstOk N d = true ∧ P
theorem step_none {d : Option Nat} {op : Op} {ty : TypeId} {pos : String} {af : Array Edge} {K : CA → Hp → Prop} : vcStepO X N ops ⟨d, op, ty, pos, af, none⟩ Q K s H = (dstOk N d = true ∧ vcDo X N ⟨d, op, ty, pos, af, none⟩ s H Q (hold fun c H' => K (s.put d c) H')) := by
  simp only [vcStepO, hold]
  split <;> simp_all
/-- The Dst of an operation of a list, by its place. -/
def gdL : List Oper → Nat → Option Nat
  | [], _ => none
  | o :: _, 0 => o.dst
  | _ :: l, n + 1 => gdL l n
theorem gdL_eq : ∀ (l : List Oper) (j : Nat), (l[j]?).bind (·.dst) = gdL l j
  | [], j => by simp [gdL]
  | o :: l, 0 => by simp [gdL]
  | o :: l, n + 1 => by simp [gdL, gdL_eq l n]
theorem gdL_zero {d : Option Nat} {op : Op} {ty : TypeId} {pos : String} {af : Array Edge} {g : Option (Nat × Bool)} {l : List Oper} : gdL (⟨d, op, ty, pos, af, g⟩ :: l) 0 = d := _root_.id rfl
theorem gdL_succ {o : Oper} {l : List Oper} {n : Nat} : gdL (o :: l) (n + 1) = gdL l n := _root_.id rfl
def guardK (X : Cx) (N : Nat) (s : CA) (od : Option Nat) (Kb : Nat → Bool → Prop) (Kn : Unit → Prop) : Prop :=
  match od with
  | some d => match evC X N s.env (.tmp d) with
    | .bool b => splitB b (hold (Kb d))
    | .tuple [] => Kn ()
    | _ => False
  | none => False
theorem step_some {d : Option Nat} {op : Op} {ty : TypeId} {pos : String} {af : Array Edge} {j : Nat} {want : Bool} {lo : List Oper} {K : CA → Hp → Prop} : vcStepO X N (List.toArray lo) ⟨d, op, ty, pos, af, some (j, want)⟩ Q K s H = (dstOk N d = true ∧ guardK X N s (gdL lo j) (hold fun g b' => if b' = want then vcDo X N ⟨d, op, ty, pos, af, some (j, want)⟩ (s.setv g (.bool b')) H Q (hold fun c H' => K ((s.setv g (.bool b')).put d c) H') else K ((s.setv g (.bool b')).put d (.tuple [])) H) (hold fun _ => K (s.put d (.tuple [])) H)) := by
  rw [← gdL_eq]
  simp only [vcStepO, hold, guardK, List.getElem?_toArray]
  by_cases hd : dstOk N d = true
  · simp only [hd, if_true, true_and]
    cases (lo[j]?).bind (·.dst) with
    | none => rfl
    | some g =>
      simp only []
      cases evC X N s.env (.tmp g) with
      | bool b => rfl
      | tuple cs => cases cs <;> rfl
      | _ => rfl
  · simp [hd]
theorem put_some {e : Env} {ds : List CD} {d : Nat} {c : CV} : (⟨e, ds⟩ : CA).put (some d) c = ⟨e.set d c, ds⟩ := _root_.id rfl
theorem put_none {s : CA} {c : CV} : s.put none c = s := _root_.id rfl
theorem setv_mk {e : Env} {ds : List CD} {d : Nat} {c : CV} : (⟨e, ds⟩ : CA).setv d c = ⟨e.set d c, ds⟩ := _root_.id rfl
theorem get_eq {e : Env} {d : Nat} {c : CV} : (e.set d c) d = c := by simp [Env.set]
theorem get_ne {e : Env} {d i : Nat} {c : CV} (h : i ≠ d) : (e.set d c) i = e i := by simp [Env.set, h]
theorem hset_ne {H : Hp} {l r : Nat} {o : Ob} (h : r ≠ l) : (H.set l o) r = H r := by simp [Hp.set, h]
theorem hset_none {H : Hp} {l r : Nat} {o : Ob} : ((H.set l o) r = none) = (r ≠ l ∧ l ≠ r ∧ H r = none) := by
  by_cases h : r = l
  · simp [Hp.set, h]
  · simp [Hp.set, h, Ne.symm h]
theorem then_normal {n : CA → Hp → Prop} : thenX n Q .normal s H = n s H := _root_.id rfl
theorem then_exit {n : CA → Hp → Prop} {i : Nat} : thenX n Q (.exit i) s H = Q (.exit i) s H := _root_.id rfl
theorem then_goto {n : CA → Hp → Prop} {i : Nat} : thenX n Q (.goto i) s H = Q (.goto i) s H := _root_.id rfl
theorem then_ret {n : CA → Hp → Prop} : thenX n Q .ret s H = Q .ret s H := _root_.id rfl
theorem then_panic {n : CA → Hp → Prop} {v : CV} : thenX n Q (.panic v) s H = Q (.panic v) s H := _root_.id rfl
theorem inb_normal {id : Nat} : inBlockX id Q .normal s H = Q .normal s H := _root_.id rfl
theorem inb_exit {id i : Nat} : inBlockX id Q (.exit i) s H = if i = id then Q .normal s H else Q (.exit i) s H := _root_.id rfl
theorem inb_goto {id i : Nat} : inBlockX id Q (.goto i) s H = Q (.goto i) s H := _root_.id rfl
theorem inb_ret {id : Nat} : inBlockX id Q .ret s H = Q .ret s H := _root_.id rfl
theorem inb_panic {id : Nat} {v : CV} : inBlockX id Q (.panic v) s H = Q (.panic v) s H := _root_.id rfl
theorem body_ret {rs : List ResultVar} {R : CE → Hp → Prop} : bodyQ X N rs R .ret s H = leaveQ X N rs R s.ds s H := _root_.id rfl
theorem body_panic {rs : List ResultVar} {R : CE → Hp → Prop} {v : CV} : bodyQ X N rs R (.panic v) s H = leaveP R v s.ds H := _root_.id rfl
theorem body_normal {rs : List ResultVar} {R : CE → Hp → Prop} : bodyQ X N rs R .normal s H = leaveQ X N rs R s.ds s H := _root_.id rfl
end
end Go.Cl
set_option linter.unusedSimpArgs false
namespace Go.Cl
open Go.Proofs
section
variable {X : Cx} {N : Nat} {Q : CP} {s : CA} {H : Hp} {K : CV → Hp → Prop} {d : Option Nat} {ty : TypeId} {pos : String} {af : Array Edge} {g : Option (Nat × Bool)} {e : Env}
theorem ev_tmp {t : Nat} (h : t < N) : evC X N e (.tmp t) = e t := by simp [evC, h]
theorem ev_const {v : Value} : evC X N e (.const v) = cvOf v := _root_.id rfl
theorem ev_global {i : Nat} : evC X N e (.global i) = X.G i := _root_.id rfl
theorem ev_func {f : FuncId} : evC X N e (.func f) = .func (.func f) [] [] := _root_.id rfl
theorem cv_int {k : IntKind} {n : Int} : cvOf (.int k n) = .int k n := _root_.id rfl
theorem cv_bool {b : Bool} : cvOf (.bool b) = .bool b := _root_.id rfl
theorem cv_str {x : ByteArray} : cvOf (.string x) = .str x := _root_.id rfl
theorem cv_nilp : cvOf (.pointer none) = .nilptr := _root_.id rfl
theorem cv_nils : cvOf (.slice none 0 0) = .nilsl := _root_.id rfl
theorem cv_nilf : cvOf .nilFunc = .nilfunc := _root_.id rfl
theorem cv_nili : cvOf .nilIface = .nilif := _root_.id rfl
theorem do_move {x : Operand} : vcDo X N ⟨d, .move x, ty, pos, af, g⟩ s H Q K = K (evC X N s.env x) H := _root_.id rfl
theorem do_assign {x : Operand} : vcDo X N ⟨d, .assign x, ty, pos, af, g⟩ s H Q K = K (evC X N s.env x) H := _root_.id rfl
def pickK (c a b : CV) (K : CV → Prop) : Prop := match c with | .bool t => splitB t fun t => K (if t = true then a else b) | _ => False
theorem pick_bool {t : Bool} {a b : CV} {K : CV → Prop} : pickK (.bool t) a b K = splitB t (hold fun t => K (if t = true then a else b)) := _root_.id rfl
theorem do_pick {c a b : Operand} : vcDo X N ⟨d, .pick c a b, ty, pos, af, g⟩ s H Q K = pickK (evC X N s.env c) (evC X N s.env a) (evC X N s.env b) (hold fun v => K v H) := _root_.id rfl
theorem do_alloc {t : TypeId} : vcDo X N ⟨d, .alloc t, ty, pos, af, g⟩ s H Q K = (match X.T t with | some ti => ∀ r, H r = none → K (.ptr r 0) (H.set r (.cells (ti.zero.map TZ.cv))) | none => False) := _root_.id rfl
def boxK (v : CV) (H : Hp) (K : CV → Hp → Prop) : Prop := v.stor = true ∧ ∀ r, H r = none → K (.ptr r 0) (H.set r (.cells v.cells))
theorem do_box {t : TypeId} {x : Operand} : vcDo X N ⟨d, .box t x, ty, pos, af, g⟩ s H Q K = boxK (evC X N s.env x) H K := _root_.id rfl
theorem box_int {k : IntKind} {n : Int} : boxK (.int k n) H K = ∀ r, H r = none → K (.ptr r 0) (H.set r (.cells [.int k n])) := by simp [boxK, CV.stor, CV.cells]
theorem box_agg {cs : List CV} : boxK (.agg cs) H K = ∀ r, H r = none → K (.ptr r 0) (H.set r (.cells cs)) := by simp [boxK, CV.stor, CV.cells]
theorem do_build {t : TypeId} {ps : Array (Nat × Operand)} : vcDo X N ⟨d, .build t ps, ty, pos, af, g⟩ s H Q K = vcOp X.T (.build t ps) (evC X N s.env) H K := _root_.id rfl
theorem do_buildSlice {t : TypeId} {n : Nat} {ps : Array (Nat × Operand)} : vcDo X N ⟨d, .buildSlice t n ps, ty, pos, af, g⟩ s H Q K = vcOp X.T (.buildSlice t n ps) (evC X N s.env) H K := _root_.id rfl
def ldK (ti : Option TI) (a : CV) (H : Hp) (K : CV → Prop) : Prop :=
  match ti with
  | some ti => match a with
    | .ptr r o => ∃ cs, H r = some (.cells cs) ∧ vcLoad ti cs o K
    | .iptr cs => vcLoad ti cs 0 K
    | _ => False
  | none => False
theorem do_load {t : TypeId} {a : Operand} : vcDo X N ⟨d, .load t a, ty, pos, af, g⟩ s H Q K = ldK (X.T t) (evC X N s.env a) H (hold fun c => K c H) := _root_.id rfl
theorem ld_ptr {ti : TI} {r o : Nat} {K : CV → Prop} : ldK (some ti) (.ptr r o) H K = ∃ cs, H r = some (.cells cs) ∧ vcLoad ti cs o K := _root_.id rfl
theorem ld_iptr {ti : TI} {cs : List CV} {K : CV → Prop} : ldK (some ti) (.iptr cs) H K = vcLoad ti cs 0 K := _root_.id rfl
def stK (ti : Option TI) (a v : CV) (H : Hp) (K : Hp → Prop) : Prop :=
  match ti with
  | some ti => match a with
    | .ptr r o => ∃ cs, H r = some (.cells cs) ∧ v.stor = true ∧ v.cells.length = ti.size ∧ o + ti.size ≤ cs.length ∧ K (H.set r (.cells (cs.take o ++ v.cells ++ cs.drop (o + ti.size))))
    | _ => False
  | none => False
theorem do_store {t : TypeId} {a v : Operand} : vcDo X N ⟨d, .store t a v, ty, pos, af, g⟩ s H Q K = stK (X.T t) (evC X N s.env a) (evC X N s.env v) H (hold fun H' => K .any H') := _root_.id rfl
theorem st_ptr {ti : TI} {r o : Nat} {v : CV} {K : Hp → Prop} : stK (some ti) (.ptr r o) v H K = ∃ cs, H r = some (.cells cs) ∧ v.stor = true ∧ v.cells.length = ti.size ∧ o + ti.size ≤ cs.length ∧ K (H.set r (.cells (cs.take o ++ v.cells ++ cs.drop (o + ti.size)))) := _root_.id rfl
theorem do_bin {op : BinOp} {t t' : TypeId} {x y : Operand} : vcDo X N ⟨d, .binOp op t x y t', ty, pos, af, g⟩ s H Q K = vcBin X.T op t (evC X N s.env x) (evC X N s.env y) (hold fun c => K c H) := _root_.id rfl
theorem bin_int {T : Tab} {op : BinOp} {t : TypeId} {k k' : IntKind} {a b : Int} {K : CV → Prop} : vcBin T op t (.int k a) (.int k' b) K = ((isShift op = true ∨ k = k') ∧ vcInt op k a b K) := _root_.id rfl
theorem bin_sl_nil {T : Tab} {op : BinOp} {t : TypeId} {sz : Nat} {xs : List (List CV)} {K : CV → Prop} : vcBin T op t (.sl sz xs) .nilsl K = (0 < xs.length ∧ (∃ ti e, T t = some ti ∧ ti.kind = .slice e) ∧ (match op with | .eql => K (.bool false) | .neq => K (.bool true) | _ => False)) := _root_.id rfl
theorem bin_ref_nil {T : Tab} {op : BinOp} {t : TypeId} {r o n c : Nat} {K : CV → Prop} : vcBin T op t (.ref r o n c) .nilsl K = ((∃ ti e, T t = some ti ∧ ti.kind = .slice e) ∧ (match op with | .eql => K (.bool false) | .neq => K (.bool true) | _ => False)) := _root_.id rfl
theorem bin_nil_nil {T : Tab} {op : BinOp} {t : TypeId} {K : CV → Prop} : vcBin T op t .nilsl .nilsl K = ((∃ ti e, T t = some ti ∧ ti.kind = .slice e) ∧ (match op with | .eql => K (.bool true) | .neq => K (.bool false) | _ => False)) := _root_.id rfl
theorem bin_bool {T : Tab} {op : BinOp} {t : TypeId} {a b : Bool} {K : CV → Prop} : vcBin T op t (.bool a) (.bool b) K = ((∃ ti, T t = some ti ∧ ti.kind = .bool) ∧ (match op with | .eql => K (.bool (a == b)) | .neq => K (.bool (!(a == b))) | _ => False)) := _root_.id rfl
theorem int_add {k : IntKind} {a b : Int} {K : CV → Prop} : vcInt .add k a b K = K (.int k (k.wrap (a + b))) := by simp [vcInt]
theorem int_sub {k : IntKind} {a b : Int} {K : CV → Prop} : vcInt .sub k a b K = K (.int k (k.wrap (a - b))) := by simp [vcInt]
theorem int_mul {k : IntKind} {a b : Int} {K : CV → Prop} : vcInt .mul k a b K = K (.int k (k.wrap (a * b))) := by simp [vcInt]
theorem int_quo {k : IntKind} {a b : Int} {K : CV → Prop} : vcInt .quo k a b K = (b ≠ 0 ∧ K (.int k (k.wrap (a.tdiv b)))) := by simp [vcInt]
theorem int_rem {k : IntKind} {a b : Int} {K : CV → Prop} : vcInt .rem k a b K = (b ≠ 0 ∧ K (.int k (a.tmod b))) := by simp [vcInt]
theorem int_and {k : IntKind} {a b : Int} {K : CV → Prop} : vcInt .and k a b K = K (.int k (zAnd k a b)) := _root_.id rfl
theorem int_or {k : IntKind} {a b : Int} {K : CV → Prop} : vcInt .or k a b K = K (.int k (zOr k a b)) := _root_.id rfl
theorem int_xor {k : IntKind} {a b : Int} {K : CV → Prop} : vcInt .xor k a b K = K (.int k (zXor k a b)) := _root_.id rfl
theorem int_andNot {k : IntKind} {a b : Int} {K : CV → Prop} : vcInt .andNot k a b K = K (.int k (zAndNot k a b)) := _root_.id rfl
theorem int_shl {k : IntKind} {a b : Int} {K : CV → Prop} : vcInt .shl k a b K = (0 ≤ b ∧ K (.int k (zShl k a b))) := _root_.id rfl
theorem int_shr {k : IntKind} {a b : Int} {K : CV → Prop} : vcInt .shr k a b K = (0 ≤ b ∧ K (.int k (zShr k a b))) := _root_.id rfl
theorem int_eql {k : IntKind} {a b : Int} {K : CV → Prop} : vcInt .eql k a b K = K (.bool (a == b)) := _root_.id rfl
theorem int_neq {k : IntKind} {a b : Int} {K : CV → Prop} : vcInt .neq k a b K = K (.bool (a != b)) := _root_.id rfl
theorem int_lss {k : IntKind} {a b : Int} {K : CV → Prop} : vcInt .lss k a b K = K (.bool (decide (a < b))) := _root_.id rfl
theorem int_leq {k : IntKind} {a b : Int} {K : CV → Prop} : vcInt .leq k a b K = K (.bool (decide (a ≤ b))) := _root_.id rfl
theorem int_gtr {k : IntKind} {a b : Int} {K : CV → Prop} : vcInt .gtr k a b K = K (.bool (decide (b < a))) := _root_.id rfl
theorem int_geq {k : IntKind} {a b : Int} {K : CV → Prop} : vcInt .geq k a b K = K (.bool (decide (b ≤ a))) := _root_.id rfl
def faK (ti : Option TI) (a : CV) (f : Nat) (K : CV → Prop) : Prop :=
  match ti with
  | some ti => match ti.kind with
    | .struct fs => match fs[f]? with
      | some (off, size, _) => size ≠ 0 ∧ (match a with | .ptr r o => K (.ptr r (o + off)) | .iptr cs => K (.iptr (cs.drop off)) | _ => False)
      | none => False
    | _ => False
  | none => False
theorem do_fieldAddr {t : TypeId} {x : Operand} {f : Nat} : vcDo X N ⟨d, .fieldAddr t x f, ty, pos, af, g⟩ s H Q K = faK (X.T t) (evC X N s.env x) f (hold fun c => K c H) := _root_.id rfl
def faP (x : Option (Nat × Nat × Bool)) (a : CV) (K : CV → Prop) : Prop := match x with
  | some (off, size, _) => size ≠ 0 ∧ (match a with | .ptr r o => K (.ptr r (o + off)) | .iptr cs => K (.iptr (cs.drop off)) | _ => False)
  | none => False
theorem fa_struct {fs : List (Nat × Nat × Bool)} {n b : Nat} {z : List TZ} {a : CV} {f : Nat} {K : CV → Prop} : faK (some ⟨.struct fs, n, b, z⟩) a f K = faP (fs[f]?) a K := _root_.id rfl
theorem fa_ptr {r o off size : Nat} {ag : Bool} {K : CV → Prop} : faP (some (off, size, ag)) (.ptr r o) K = (size ≠ 0 ∧ K (.ptr r (o + off))) := _root_.id rfl
theorem fa_iptr {cs : List CV} {off size : Nat} {ag : Bool} {K : CV → Prop} : faP (some (off, size, ag)) (.iptr cs) K = (size ≠ 0 ∧ K (.iptr (cs.drop off))) := _root_.id rfl
def ncK (a : CV) (K : CV → Prop) : Prop := match a with
  | .ptr r o => K (.ptr r o)
  | .iptr cs => K (.iptr cs)
  | .func (.func g) a b => K (.func (.func g) a b)
  | _ => False
theorem do_nilCheck {x : Operand} : vcDo X N ⟨d, .nilCheck x, ty, pos, af, g⟩ s H Q K = ncK (evC X N s.env x) (hold fun c => K c H) := _root_.id rfl
theorem nc_ptr {r o : Nat} {K : CV → Prop} : ncK (.ptr r o) K = K (.ptr r o) := _root_.id rfl
theorem nc_iptr {cs : List CV} {K : CV → Prop} : ncK (.iptr cs) K = K (.iptr cs) := _root_.id rfl
theorem nc_func {f : FuncId} {a b : List CV} {K : CV → Prop} : ncK (.func (.func f) a b) K = K (.func (.func f) a b) := _root_.id rfl
def unK (op : UnOp) (v : CV) (K : CV → Prop) : Prop := match op, v with
  | .not, .bool b => K (.bool (!b))
  | .neg, .int k n => ∃ z, k.wrap (0 - n) = z ∧ K (.int k z)
  | _, _ => False
theorem do_un {op : UnOp} {t : TypeId} {x : Operand} : vcDo X N ⟨d, .unOp op t x, ty, pos, af, g⟩ s H Q K = unK op (evC X N s.env x) (hold fun c => K c H) := _root_.id rfl
theorem un_not {b : Bool} {K : CV → Prop} : unK .not (.bool b) K = K (.bool (!b)) := _root_.id rfl
theorem un_neg {k : IntKind} {n : Int} {K : CV → Prop} : unK .neg (.int k n) K = K (.int k (k.wrap (0 - n))) := by simp [unK]
theorem do_convert {a b : TypeId} {x : Operand} : vcDo X N ⟨d, .convert a b x, ty, pos, af, g⟩ s H Q K = vcOp X.T (.convert a b x) (evC X N s.env) H K := _root_.id rfl
theorem do_makeInterface {a : TypeId} {x : Operand} : vcDo X N ⟨d, .makeInterface a x, ty, pos, af, g⟩ s H Q K = vcOp X.T (.makeInterface a x) (evC X N s.env) H K := _root_.id rfl
theorem do_makeFunc {f : Fn} {a b : Array Operand} : vcDo X N ⟨d, .makeFunc f a b, ty, pos, af, g⟩ s H Q K = K (.func f (a.toList.map (evC X N s.env)) (b.toList.map (evC X N s.env))) H := _root_.id rfl
theorem do_makeSlice {t : TypeId} {a b : Operand} : vcDo X N ⟨d, .makeSlice t a b, ty, pos, af, g⟩ s H Q K = vcOp X.T (.makeSlice t a b) (evC X N s.env) H K := _root_.id rfl
theorem do_slice {t : TypeId} {x : Operand} {lo hi mx : Option Operand} : vcDo X N ⟨d, .slice t x lo hi mx, ty, pos, af, g⟩ s H Q K = vcOp X.T (.slice t x lo hi mx) (evC X N s.env) H K := _root_.id rfl
theorem do_field {t : TypeId} {x : Operand} {f : Nat} : vcDo X N ⟨d, .field t x f, ty, pos, af, g⟩ s H Q K = vcOp X.T (.field t x f) (evC X N s.env) H K := _root_.id rfl
theorem do_indexAddr {t : TypeId} {x i : Operand} : vcDo X N ⟨d, .indexAddr t x i, ty, pos, af, g⟩ s H Q K = vcOp X.T (.indexAddr t x i) (evC X N s.env) H K := _root_.id rfl
theorem do_index {t : TypeId} {x i : Operand} : vcDo X N ⟨d, .index t x i, ty, pos, af, g⟩ s H Q K = vcOp X.T (.index t x i) (evC X N s.env) H K := _root_.id rfl
def exK (v : CV) (i : Nat) (K : CV → Prop) : Prop := match v with | .tuple cs => ∃ c, cs[i]? = some c ∧ K c | _ => False
theorem do_extract {x : Operand} {i : Nat} : vcDo X N ⟨d, .extract x i, ty, pos, af, g⟩ s H Q K = exK (evC X N s.env x) i (hold fun c => K c H) := _root_.id rfl
theorem ex_tuple {cs : List CV} {i : Nat} {K : CV → Prop} : exK (.tuple cs) i K = ∃ c, cs[i]? = some c ∧ K c := _root_.id rfl
/-! Maps. -/
def mkK (mt : Option (IntKind × TI)) (H : Hp) (K : CV → Hp → Prop) : Prop := match mt with
  | some (ik, _) => ∀ r, H r = none → K (.map r) (H.set r (.imap ik [] 0))
  | none => False
theorem do_makeMap {t : TypeId} : vcDo X N ⟨d, .makeMap t none, ty, pos, af, g⟩ s H Q K = mkK (mapT X.T t) H K := _root_.id rfl
theorem mk_some {ik : IntKind} {te : TI} : mkK (some (ik, te)) H K = ∀ r, H r = none → K (.map r) (H.set r (.imap ik [] 0)) := _root_.id rfl
def lkK (mt : Option (IntKind × TI)) (ok : Bool) (x i : CV) (H : Hp) (K : CV → Prop) : Prop := match mt, i with
  | some (ik, te), .int ik' n => ik' = ik ∧ (match x with
    | .nilmap => K (lkC ok (zeroC te) false)
    | .map r => ∃ es clk, H r = some (.imap ik es clk) ∧ K (lkC ok ((lkM es n).getD (zeroC te)) (lkM es n).isSome)
    | _ => False)
  | _, _ => False
theorem do_lookup {t : TypeId} {x i : Operand} {ok : Bool} : vcDo X N ⟨d, .lookup t x i ok, ty, pos, af, g⟩ s H Q K = lkK (mapT X.T t) ok (evC X N s.env x) (evC X N s.env i) H (hold fun c => K c H) := by
  simp only [vcDo, vcOp, vcMap, lkK, hold]
  cases mapT X.T t with
  | none => rfl
  | some p =>
    obtain ⟨ik, te⟩ := p
    cases evC X N s.env i <;> first | rfl | (cases evC X N s.env x <;> rfl)
theorem lk_map {ik ik' : IntKind} {te : TI} {ok : Bool} {r : Nat} {n : Int} {K : CV → Prop} : lkK (some (ik, te)) ok (.map r) (.int ik' n) H K = (ik' = ik ∧ ∃ es clk, H r = some (.imap ik es clk) ∧ K (lkC ok ((lkM es n).getD (zeroC te)) (lkM es n).isSome)) := _root_.id rfl
theorem lk_nil {ik ik' : IntKind} {te : TI} {ok : Bool} {n : Int} {K : CV → Prop} : lkK (some (ik, te)) ok .nilmap (.int ik' n) H K = (ik' = ik ∧ K (lkC ok (zeroC te) false)) := _root_.id rfl
def muK (mt : Option (IntKind × TI)) (m k x : CV) (H : Hp) (K : Hp → Prop) : Prop := match mt, m, k with
  | some (ik, _), .map r, .int ik' n => ik' = ik ∧ ∃ es clk, H r = some (.imap ik es clk) ∧ K (H.set r (.imap ik (putM es n clk x) (if (lkM es n).isSome = true then clk else clk + 1)))
  | _, _, _ => False
theorem do_mapUpdate {t : TypeId} {m k x : Operand} : vcDo X N ⟨d, .mapUpdate t m k x, ty, pos, af, g⟩ s H Q K = muK (mapT X.T t) (evC X N s.env m) (evC X N s.env k) (evC X N s.env x) H (hold fun H' => K .any H') := by
  simp only [vcDo, vcOp, vcMap, muK, hold]
  cases mapT X.T t with
  | none => rfl
  | some p =>
    obtain ⟨ik, te⟩ := p
    cases evC X N s.env m <;> first | rfl | (cases evC X N s.env k <;> rfl)
theorem mu_map {ik ik' : IntKind} {te : TI} {r : Nat} {n : Int} {x : CV} {K : Hp → Prop} : muK (some (ik, te)) (.map r) (.int ik' n) x H K = (ik' = ik ∧ ∃ es clk, H r = some (.imap ik es clk) ∧ K (H.set r (.imap ik (putM es n clk x) (if (lkM es n).isSome = true then clk else clk + 1)))) := _root_.id rfl
def rgK (mt : Option (IntKind × TI)) (x : CV) (H : Hp) (K : CV → Hp → Prop) : Prop := match mt, x with
  | some (ik, _), .map m => ∃ es clk, H m = some (.imap ik es clk) ∧ ∀ r, H r = none → K (.ptr r 0) (H.set r (.miter m clk [] clk))
  | _, _ => False
theorem do_range {t : TypeId} {x : Operand} : vcDo X N ⟨d, .range t x, ty, pos, af, g⟩ s H Q K = rgK (mapT X.T t) (evC X N s.env x) H K := by
  simp only [vcDo, vcOp, vcMap, rgK]
  cases mapT X.T t with
  | none => rfl
  | some p =>
    obtain ⟨ik, te⟩ := p
    cases evC X N s.env x <;> rfl
theorem rg_map {ik : IntKind} {te : TI} {m : Nat} : rgK (some (ik, te)) (.map m) H K = ∃ es clk, H m = some (.imap ik es clk) ∧ ∀ r, H r = none → K (.ptr r 0) (H.set r (.miter m clk [] clk)) := _root_.id rfl
def nxK (it : CV) (H : Hp) (K : CV → Hp → Prop) : Prop := match it with
  | .ptr r o => o = 0 ∧ ∃ m since seen last ik es clk, H r = some (.miter m since seen last) ∧ H m = some (.imap ik es clk) ∧ (∀ e ∈ es, e.2.1 < since) ∧ since ≤ last ∧ ((∀ e ∈ es, e.2.1 ∈ seen) → K (.tuple [.bool false]) H) ∧ ∀ e ∈ es, e.2.1 ∉ seen → K (.tuple [.bool true, .int ik e.1, e.2.2]) (H.set r (.miter m since (seen ++ [e.2.1]) clk))
  | _ => False
theorem do_next {it : Operand} : vcDo X N ⟨d, .next it false, ty, pos, af, g⟩ s H Q K = nxK (evC X N s.env it) H K := by
  simp only [vcDo, vcOp, vcMap, nxK]
  cases evC X N s.env it <;> rfl
theorem do_insert {t : TypeId} {m k x : Operand} : vcDo X N ⟨d, .insert t m k x, ty, pos, af, g⟩ s H Q K = muK (mapT X.T t) (evC X N s.env m) (evC X N s.env k) (evC X N s.env x) H (hold fun H' => K .any H') :=
  do_mapUpdate (t := t) (m := m) (k := k) (x := x) (ty := ty) (pos := pos) (af := af) (g := g) (d := d) (Q := Q)
theorem nx_ptr {r : Nat} {K : CV → Hp → Prop} : nxK (.ptr r 0) H K = ∃ m since seen last ik es clk, H r = some (.miter m since seen last) ∧ H m = some (.imap ik es clk) ∧ (∀ e ∈ es, e.2.1 < since) ∧ since ≤ last ∧ ((∀ e ∈ es, e.2.1 ∈ seen) → K (.tuple [.bool false]) H) ∧ ∀ e ∈ es, e.2.1 ∉ seen → K (.tuple [.bool true, .int ik e.1, e.2.2]) (H.set r (.miter m since (seen ++ [e.2.1]) clk)) := by
  simp [nxK]
def enK (it : CV) (H : Hp) (K : CV → Prop) : Prop := match it with
  | .ptr r o => o = 0 ∧ ∃ m since seen last ik es e st, H r = some (.miter m since seen last) ∧ H m = some (.imap ik es last) ∧ seen.getLast? = some st ∧ es.find? (fun e => e.2.1 == st) = some e ∧ K (.tuple [.int ik e.1, e.2.2])
  | _ => False
theorem do_entry {it : Operand} : vcDo X N ⟨d, .entry it, ty, pos, af, g⟩ s H Q K = enK (evC X N s.env it) H (hold fun c => K c H) := by
  simp only [vcDo, vcOp, vcMap, enK, hold]
  cases evC X N s.env it <;> rfl
theorem do_call {c : Call} : vcDo X N ⟨d, .call c, ty, pos, af, g⟩ s H Q K = vcCall X N c s H Q K := _root_.id rfl
theorem do_panic {x : Operand} : vcDo X N ⟨d, .panic x, ty, pos, af, g⟩ s H Q K = (match evC X N s.env x with | .iface t v => Q (.panic (.iface t v)) s H | _ => False) := _root_.id rfl
end
end Go.Cl
set_option linter.unusedSimpArgs false
namespace Go.Cl
open Go.Proofs
attribute [simp ↓] gdL_zero gdL_succ hold1 hold2 hold3 vw_seq vw_block vw_cond vw_region vw_draw vw_skip vw_label vw_exit vw_goto vw_ret vw_loop vw_range vcL_nil vcD_nil step_none step_some then_normal then_exit then_goto then_ret then_panic inb_normal inb_exit inb_goto inb_ret inb_panic body_ret body_normal body_panic
attribute [simp] condK_bool split_any vcDH_some hintOf vcDo1_some vcL_cons vcD_cons put_some put_none setv_mk get_eq get_ne set_at set_set hset_ne hset_none guardK
attribute [simp high] split_true split_false
attribute [simp ↓] do_insert do_entry do_makeMap do_lookup do_mapUpdate do_range do_next do_move do_assign do_pick do_alloc do_box do_build do_buildSlice do_load do_store do_bin do_fieldAddr do_nilCheck do_un do_convert do_makeInterface do_makeFunc do_makeSlice do_slice do_field do_indexAddr do_index do_extract do_call do_panic
attribute [simp] mk_some lk_map lk_nil mu_map rg_map mapT zeroC lkC lkM putM ev_tmp ev_const ev_global ev_func cv_int cv_bool cv_str cv_nilp cv_nils cv_nilf cv_nili pick_bool box_int box_agg ld_ptr ld_iptr st_ptr bin_int bin_sl_nil bin_ref_nil bin_nil_nil bin_bool int_add int_sub int_mul int_quo int_rem int_and int_or int_xor int_andNot int_shl int_shr int_eql int_neq int_lss int_leq int_gtr int_geq fa_struct fa_ptr fa_iptr nc_ptr nc_iptr nc_func un_not un_neg ex_tuple
attribute [simp] vcCall vcOp vcSl3 isShift evs dstOk leaveQ leaveP vcRes oneC vcBuiltin bnd vcAppend srcC isSl vcLoad Qo isPanic pset allP noP nextX roundX setps CV.stor CV.cells env0
attribute [simp] tab_1 tab_2 tab_3 tab_4 tab_5 tab_6 tab_7 tab_8 tab_9 tab_10 tab_11 tab_12 tab_13 tab_14 tab_15 tab_16 tab_17 tab_18 tab_19 tab_20 tab_21 tab_22 tab_23 tab_24 tab_25 tab_26 tab_27 tab_29 tab_30 tab_31 tab_32 tab_33 tab_34 tab_36 tab_37 tab_38 tab_39 tab_40 tab_41 tab_42 tab_43 tab_44 tab_45 tab_46 tab_48 tab_49 tab_50 tab_51 tab_52 tab_54 tab_55 tab_56 tab_58 tab_60 tab_61 tab_62 tab_63 tab_64 tab_65 tab_67 tab_68 tab_69 tab_71 tab_72 tab_73 tab_74 tab_75 tab_76 tab_77 tab_78 tab_79 tab_80 tab_81 tab_82 tab_83 tab_84 tab_85 tab_86 tab_87 tab_88 tab_89 tab_90 tab_91 tab_92 tab_93 tab_94 tab_95 tab_96 tab_97 tab_98 tab_99 tab_100 tab_101 tab_102 tab_103 tab_104 tab_105 tab_106 tab_107 tab_108 tab_109 tab_110 tab_111 tab_112 tab_113 tab_114 tab_115 tab_116 tab_117 tab_118 tab_119 tab_120 tab_121 tab_122 tab_123 tab_124 tab_125 tab_127 tab_128 tab_129 tab_130 tab_131 tab_132 tab_133 tab_134 tab_135 tab_136 tab_138 tab_139 tab_140 tab_142 tab_143 tab_144 tab_145 tab_146 tab_147 tab_148 tab_149 tab_150 tab_151 tab_153 tab_154 tab_155 tab_156 tab_157 tab_158 tab_159 tab_160 tab_161 tab_162 tab_163 tab_164 tab_165 tab_166 tab_167 tab_168 tab_169 tab_170 tab_171 tab_173 tab_174 tab_175 tab_176 tab_177 tab_181 tab_182 tab_183 tab_184 tab_185 tab_186 tab_187 tab_188 tab_189
attribute [simp] TK.agg zeroCs TZ.cv
variable {X : Cx} {H : Hp}
theorem CC.of_ev (hX : CxOk X) (hm : X.P.follows .mixedOrders = true) (D : Hints) {f : FuncId} {fn : Func} {c : Code} {args : List CV} {R : CE → Hp → Prop} (hf : X.P.funcs[f]? = some fn) (hb : fn.body = some c) (hnm : (fn.name == "runtime.NumGoroutine") = false) (hl : (args.length ≤ fn.ntmps)) (hD : drawsOk D c = true)
    (h : vw X fn.ntmps none D c (hold (bodyQ X fn.ntmps fn.results.toList R)) ⟨env0 args, []⟩ H) : CC X.P X.W f args H R := CC.of_vw hX hm D hf hb hnm hl hD h
theorem wrapI {n : Int} (h1 : -9223372036854775808 ≤ n) (h2 : n ≤ 9223372036854775807) : IntKind.i64.wrap n = n := wrap_i64 h1 h2
theorem tdivI {a b : Int} (h : 0 ≤ a) : a.tdiv b = a / b := Int.tdiv_eq_ediv_of_nonneg h
theorem tmodI {a b : Int} (h : 0 ≤ a) : a.tmod b = a % b := Int.tmod_eq_emod_of_nonneg h
end Go.Cl
