/- DERIVED HERE. The clean layer: one unconditional lemma for each operation, for the walk by 'simp'. -/
import Derived.Test.YtfkdjajpopocpaaDoorEv
set_option linter.unusedSimpArgs false
namespace Go.Cl
open Go.Proofs
section
variable {X : Cx} {N : Nat} {Q : CP} {s : CA} {H : Hp} {K : CV → Hp → Prop} {d : Option Nat} {ty : TypeId} {pos : String} {af : Array Edge} {g : Option (Nat × Bool)} {e : Env}
theorem ev_tmp {t : Nat} (h : t < N) : evC X N e (.tmp t) = e t := by simp [evC, h]
theorem ev_const {v : Value} : evC X N e (.const v) = cvOf v := _root_.id rfl
theorem ev_global {i : Nat} : evC X N e (.global i) = X.G i := _root_.id rfl
theorem ev_func {f : FuncId} : evC X N e (.func f) = .func (.func f) [] [] := _root_.id rfl
theorem cv_int {k : IntKind} {n : Int} : cvOf (.int k n) = .int k n := _root_.id rfl
theorem cv_bool {b : Bool} : cvOf (.bool b) = .bool b := _root_.id rfl
theorem cv_str {x : ByteArray} : cvOf (.string x) = .str x := _root_.id rfl
theorem cv_nilp : cvOf (.pointer none) = .nilptr := _root_.id rfl
theorem cv_nils : cvOf (.slice none 0 0) = .nilsl := _root_.id rfl
theorem cv_nilf : cvOf .nilFunc = .nilfunc := _root_.id rfl
theorem cv_nili : cvOf .nilIface = .nilif := _root_.id rfl
theorem do_move {x : Operand} : vcDo X N ⟨d, .move x, ty, pos, af, g⟩ s H Q K = K (evC X N s.env x) H := _root_.id rfl
theorem do_assign {x : Operand} : vcDo X N ⟨d, .assign x, ty, pos, af, g⟩ s H Q K = K (evC X N s.env x) H := _root_.id rfl
def pickK (c a b : CV) (K : CV → Prop) : Prop := match c with | .bool t => splitB t fun t => K (if t = true then a else b) | _ => False
theorem pick_bool {t : Bool} {a b : CV} {K : CV → Prop} : pickK (.bool t) a b K = splitB t (hold fun t => K (if t = true then a else b)) := _root_.id rfl
theorem do_pick {c a b : Operand} : vcDo X N ⟨d, .pick c a b, ty, pos, af, g⟩ s H Q K = pickK (evC X N s.env c) (evC X N s.env a) (evC X N s.env b) (hold fun v => K v H) := _root_.id rfl
theorem do_alloc {t : TypeId} : vcDo X N ⟨d, .alloc t, ty, pos, af, g⟩ s H Q K = (match X.T t with | some ti => ∀ r, H r = none → K (.ptr r 0) (H.set r (.cells (ti.zero.map TZ.cv))) | none => False) := _root_.id rfl
def boxK (v : CV) (H : Hp) (K : CV → Hp → Prop) : Prop := v.stor = true ∧ ∀ r, H r = none → K (.ptr r 0) (H.set r (.cells v.cells))
theorem do_box {t : TypeId} {x : Operand} : vcDo X N ⟨d, .box t x, ty, pos, af, g⟩ s H Q K = boxK (evC X N s.env x) H K := _root_.id rfl
theorem box_int {k : IntKind} {n : Int} : boxK (.int k n) H K = ∀ r, H r = none → K (.ptr r 0) (H.set r (.cells [.int k n])) := by simp [boxK, CV.stor, CV.cells]
theorem box_agg {cs : List CV} : boxK (.agg cs) H K = ∀ r, H r = none → K (.ptr r 0) (H.set r (.cells cs)) := by simp [boxK, CV.stor, CV.cells]
theorem do_build {t : TypeId} {ps : Array (Nat × Operand)} : vcDo X N ⟨d, .build t ps, ty, pos, af, g⟩ s H Q K = vcOp X.T (.build t ps) (evC X N s.env) H K := _root_.id rfl
theorem do_buildSlice {t : TypeId} {n : Nat} {ps : Array (Nat × Operand)} : vcDo X N ⟨d, .buildSlice t n ps, ty, pos, af, g⟩ s H Q K = vcOp X.T (.buildSlice t n ps) (evC X N s.env) H K := _root_.id rfl
def ldK (ti : Option TI) (a : CV) (H : Hp) (K : CV → Prop) : Prop :=
  match ti with
  | some ti => match a with
    | .ptr r o => ∃ cs, H r = some (.cells cs) ∧ vcLoad ti cs o K
    | .iptr cs => vcLoad ti cs 0 K
    | _ => False
  | none => False
theorem do_load {t : TypeId} {a : Operand} : vcDo X N ⟨d, .load t a, ty, pos, af, g⟩ s H Q K = ldK (X.T t) (evC X N s.env a) H (hold fun c => K c H) := _root_.id rfl
theorem ld_ptr {ti : TI} {r o : Nat} {K : CV → Prop} : ldK (some ti) (.ptr r o) H K = ∃ cs, H r = some (.cells cs) ∧ vcLoad ti cs o K := _root_.id rfl
theorem ld_iptr {ti : TI} {cs : List CV} {K : CV → Prop} : ldK (some ti) (.iptr cs) H K = vcLoad ti cs 0 K := _root_.id rfl
def stK (ti : Option TI) (a v : CV) (H : Hp) (K : Hp → Prop) : Prop :=
  match ti with
  | some ti => match a with
    | .ptr r o => ∃ cs, H r = some (.cells cs) ∧ v.stor = true ∧ v.cells.length = ti.size ∧ o + ti.size ≤ cs.length ∧ K (H.set r (.cells (cs.take o ++ v.cells ++ cs.drop (o + ti.size))))
    | _ => False
  | none => False
theorem do_store {t : TypeId} {a v : Operand} : vcDo X N ⟨d, .store t a v, ty, pos, af, g⟩ s H Q K = stK (X.T t) (evC X N s.env a) (evC X N s.env v) H (hold fun H' => K .any H') := _root_.id rfl
theorem st_ptr {ti : TI} {r o : Nat} {v : CV} {K : Hp → Prop} : stK (some ti) (.ptr r o) v H K = ∃ cs, H r = some (.cells cs) ∧ v.stor = true ∧ v.cells.length = ti.size ∧ o + ti.size ≤ cs.length ∧ K (H.set r (.cells (cs.take o ++ v.cells ++ cs.drop (o + ti.size)))) := _root_.id rfl
theorem do_bin {op : BinOp} {t t' : TypeId} {x y : Operand} : vcDo X N ⟨d, .binOp op t x y t', ty, pos, af, g⟩ s H Q K = vcBin X.T op t (evC X N s.env x) (evC X N s.env y) (hold fun c => K c H) := _root_.id rfl
theorem bin_int {T : Tab} {op : BinOp} {t : TypeId} {k k' : IntKind} {a b : Int} {K : CV → Prop} : vcBin T op t (.int k a) (.int k' b) K = ((isShift op = true ∨ k = k') ∧ vcInt op k a b K) := _root_.id rfl
theorem bin_sl_nil {T : Tab} {op : BinOp} {t : TypeId} {sz : Nat} {xs : List (List CV)} {K : CV → Prop} : vcBin T op t (.sl sz xs) .nilsl K = (0 < xs.length ∧ (∃ ti e, T t = some ti ∧ ti.kind = .slice e) ∧ (match op with | .eql => K (.bool false) | .neq => K (.bool true) | _ => False)) := _root_.id rfl
theorem bin_ref_nil {T : Tab} {op : BinOp} {t : TypeId} {r o n c : Nat} {K : CV → Prop} : vcBin T op t (.ref r o n c) .nilsl K = ((∃ ti e, T t = some ti ∧ ti.kind = .slice e) ∧ (match op with | .eql => K (.bool false) | .neq => K (.bool true) | _ => False)) := _root_.id rfl
theorem bin_nil_nil {T : Tab} {op : BinOp} {t : TypeId} {K : CV → Prop} : vcBin T op t .nilsl .nilsl K = ((∃ ti e, T t = some ti ∧ ti.kind = .slice e) ∧ (match op with | .eql => K (.bool true) | .neq => K (.bool false) | _ => False)) := _root_.id rfl
theorem bin_bool {T : Tab} {op : BinOp} {t : TypeId} {a b : Bool} {K : CV → Prop} : vcBin T op t (.bool a) (.bool b) K = ((∃ ti, T t = some ti ∧ ti.kind = .bool) ∧ (match op with | .eql => K (.bool (a == b)) | .neq => K (.bool (!(a == b))) | _ => False)) := _root_.id rfl
theorem int_add {k : IntKind} {a b : Int} {K : CV → Prop} : vcInt .add k a b K = K (.int k (k.wrap (a + b))) := by simp [vcInt]
theorem int_sub {k : IntKind} {a b : Int} {K : CV → Prop} : vcInt .sub k a b K = K (.int k (k.wrap (a - b))) := by simp [vcInt]
theorem int_mul {k : IntKind} {a b : Int} {K : CV → Prop} : vcInt .mul k a b K = K (.int k (k.wrap (a * b))) := by simp [vcInt]
theorem int_quo {k : IntKind} {a b : Int} {K : CV → Prop} : vcInt .quo k a b K = (b ≠ 0 ∧ K (.int k (k.wrap (a.tdiv b)))) := by simp [vcInt]
theorem int_rem {k : IntKind} {a b : Int} {K : CV → Prop} : vcInt .rem k a b K = (b ≠ 0 ∧ K (.int k (a.tmod b))) := by simp [vcInt]
theorem int_and {k : IntKind} {a b : Int} {K : CV → Prop} : vcInt .and k a b K = K (.int k (zAnd k a b)) := _root_.id rfl
theorem int_or {k : IntKind} {a b : Int} {K : CV → Prop} : vcInt .or k a b K = K (.int k (zOr k a b)) := _root_.id rfl
theorem int_xor {k : IntKind} {a b : Int} {K : CV → Prop} : vcInt .xor k a b K = K (.int k (zXor k a b)) := _root_.id rfl
theorem int_andNot {k : IntKind} {a b : Int} {K : CV → Prop} : vcInt .andNot k a b K = K (.int k (zAndNot k a b)) := _root_.id rfl
theorem int_shl {k : IntKind} {a b : Int} {K : CV → Prop} : vcInt .shl k a b K = (0 ≤ b ∧ K (.int k (zShl k a b))) := _root_.id rfl
theorem int_shr {k : IntKind} {a b : Int} {K : CV → Prop} : vcInt .shr k a b K = (0 ≤ b ∧ K (.int k (zShr k a b))) := _root_.id rfl
theorem int_eql {k : IntKind} {a b : Int} {K : CV → Prop} : vcInt .eql k a b K = K (.bool (a == b)) := _root_.id rfl
theorem int_neq {k : IntKind} {a b : Int} {K : CV → Prop} : vcInt .neq k a b K = K (.bool (a != b)) := _root_.id rfl
theorem int_lss {k : IntKind} {a b : Int} {K : CV → Prop} : vcInt .lss k a b K = K (.bool (decide (a < b))) := _root_.id rfl
theorem int_leq {k : IntKind} {a b : Int} {K : CV → Prop} : vcInt .leq k a b K = K (.bool (decide (a ≤ b))) := _root_.id rfl
theorem int_gtr {k : IntKind} {a b : Int} {K : CV → Prop} : vcInt .gtr k a b K = K (.bool (decide (b < a))) := _root_.id rfl
theorem int_geq {k : IntKind} {a b : Int} {K : CV → Prop} : vcInt .geq k a b K = K (.bool (decide (b ≤ a))) := _root_.id rfl
def faK (ti : Option TI) (a : CV) (f : Nat) (K : CV → Prop) : Prop :=
  match ti with
  | some ti => match ti.kind with
    | .struct fs => match fs[f]? with
      | some (off, size, _) => size ≠ 0 ∧ (match a with | .ptr r o => K (.ptr r (o + off)) | .iptr cs => K (.iptr (cs.drop off)) | _ => False)
      | none => False
    | _ => False
  | none => False
theorem do_fieldAddr {t : TypeId} {x : Operand} {f : Nat} : vcDo X N ⟨d, .fieldAddr t x f, ty, pos, af, g⟩ s H Q K = faK (X.T t) (evC X N s.env x) f (hold fun c => K c H) := _root_.id rfl
def faP (x : Option (Nat × Nat × Bool)) (a : CV) (K : CV → Prop) : Prop := match x with
  | some (off, size, _) => size ≠ 0 ∧ (match a with | .ptr r o => K (.ptr r (o + off)) | .iptr cs => K (.iptr (cs.drop off)) | _ => False)
  | none => False
theorem fa_struct {fs : List (Nat × Nat × Bool)} {n b : Nat} {z : List TZ} {a : CV} {f : Nat} {K : CV → Prop} : faK (some ⟨.struct fs, n, b, z⟩) a f K = faP (fs[f]?) a K := _root_.id rfl
theorem fa_ptr {r o off size : Nat} {ag : Bool} {K : CV → Prop} : faP (some (off, size, ag)) (.ptr r o) K = (size ≠ 0 ∧ K (.ptr r (o + off))) := _root_.id rfl
theorem fa_iptr {cs : List CV} {off size : Nat} {ag : Bool} {K : CV → Prop} : faP (some (off, size, ag)) (.iptr cs) K = (size ≠ 0 ∧ K (.iptr (cs.drop off))) := _root_.id rfl
def ncK (a : CV) (K : CV → Prop) : Prop := match a with
  | .ptr r o => K (.ptr r o)
  | .iptr cs => K (.iptr cs)
  | .func (.func g) a b => K (.func (.func g) a b)
  | _ => False
theorem do_nilCheck {x : Operand} : vcDo X N ⟨d, .nilCheck x, ty, pos, af, g⟩ s H Q K = ncK (evC X N s.env x) (hold fun c => K c H) := _root_.id rfl
theorem nc_ptr {r o : Nat} {K : CV → Prop} : ncK (.ptr r o) K = K (.ptr r o) := _root_.id rfl
theorem nc_iptr {cs : List CV} {K : CV → Prop} : ncK (.iptr cs) K = K (.iptr cs) := _root_.id rfl
theorem nc_func {f : FuncId} {a b : List CV} {K : CV → Prop} : ncK (.func (.func f) a b) K = K (.func (.func f) a b) := _root_.id rfl
def unK (op : UnOp) (v : CV) (K : CV → Prop) : Prop := match op, v with
  | .not, .bool b => K (.bool (!b))
  | .neg, .int k n => ∃ z, k.wrap (0 - n) = z ∧ K (.int k z)
  | _, _ => False
theorem do_un {op : UnOp} {t : TypeId} {x : Operand} : vcDo X N ⟨d, .unOp op t x, ty, pos, af, g⟩ s H Q K = unK op (evC X N s.env x) (hold fun c => K c H) := _root_.id rfl
theorem un_not {b : Bool} {K : CV → Prop} : unK .not (.bool b) K = K (.bool (!b)) := _root_.id rfl
theorem un_neg {k : IntKind} {n : Int} {K : CV → Prop} : unK .neg (.int k n) K = K (.int k (k.wrap (0 - n))) := by simp [unK]
theorem do_convert {a b : TypeId} {x : Operand} : vcDo X N ⟨d, .convert a b x, ty, pos, af, g⟩ s H Q K = vcOp X.T (.convert a b x) (evC X N s.env) H K := _root_.id rfl
theorem do_makeInterface {a : TypeId} {x : Operand} : vcDo X N ⟨d, .makeInterface a x, ty, pos, af, g⟩ s H Q K = vcOp X.T (.makeInterface a x) (evC X N s.env) H K := _root_.id rfl
theorem do_makeFunc {f : Fn} {a b : Array Operand} : vcDo X N ⟨d, .makeFunc f a b, ty, pos, af, g⟩ s H Q K = K (.func f (a.toList.map (evC X N s.env)) (b.toList.map (evC X N s.env))) H := _root_.id rfl
theorem do_makeSlice {t : TypeId} {a b : Operand} : vcDo X N ⟨d, .makeSlice t a b, ty, pos, af, g⟩ s H Q K = vcOp X.T (.makeSlice t a b) (evC X N s.env) H K := _root_.id rfl
theorem do_slice {t : TypeId} {x : Operand} {lo hi mx : Option Operand} : vcDo X N ⟨d, .slice t x lo hi mx, ty, pos, af, g⟩ s H Q K = vcOp X.T (.slice t x lo hi mx) (evC X N s.env) H K := _root_.id rfl
theorem do_field {t : TypeId} {x : Operand} {f : Nat} : vcDo X N ⟨d, .field t x f, ty, pos, af, g⟩ s H Q K = vcOp X.T (.field t x f) (evC X N s.env) H K := _root_.id rfl
theorem do_indexAddr {t : TypeId} {x i : Operand} : vcDo X N ⟨d, .indexAddr t x i, ty, pos, af, g⟩ s H Q K = vcOp X.T (.indexAddr t x i) (evC X N s.env) H K := _root_.id rfl
theorem do_index {t : TypeId} {x i : Operand} : vcDo X N ⟨d, .index t x i, ty, pos, af, g⟩ s H Q K = vcOp X.T (.index t x i) (evC X N s.env) H K := _root_.id rfl
def exK (v : CV) (i : Nat) (K : CV → Prop) : Prop := match v with | .tuple cs => ∃ c, cs[i]? = some c ∧ K c | _ => False
theorem do_extract {x : Operand} {i : Nat} : vcDo X N ⟨d, .extract x i, ty, pos, af, g⟩ s H Q K = exK (evC X N s.env x) i (hold fun c => K c H) := _root_.id rfl
theorem ex_tuple {cs : List CV} {i : Nat} {K : CV → Prop} : exK (.tuple cs) i K = ∃ c, cs[i]? = some c ∧ K c := _root_.id rfl
theorem do_call {c : Call} : vcDo X N ⟨d, .call c, ty, pos, af, g⟩ s H Q K = vcCall X N c s H Q K := _root_.id rfl
theorem do_panic {x : Operand} : vcDo X N ⟨d, .panic x, ty, pos, af, g⟩ s H Q K = (match evC X N s.env x with | .iface t v => Q (.panic (.iface t v)) s H | _ => False) := _root_.id rfl
end
end Go.Cl
