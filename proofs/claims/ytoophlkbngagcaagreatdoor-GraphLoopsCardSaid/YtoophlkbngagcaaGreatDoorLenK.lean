/- DERIVED HERE. The clean layer: the length of what is not known yet waits (what follows is not looked into before). -/
import Derived.Test.YtoophlkbngagcaaGreatDoorS2
set_option linter.unusedSimpArgs false
set_option linter.unusedVariables false
namespace Go.Cl
open Go.Proofs
section
variable {T : Tab} {t : TypeId} {x : CV} {H : Hp} {K : CV → Hp → Prop} {ti : TI}
def lenK (ti : Option TI) (x : CV) (H : Hp) (K : CV → Hp → Prop) : Prop :=
  match ti with
  | some ti => (match ti.kind, x with
    | .slice _, .sl _ ys => K (.int .i64 ys.length) H
    | .slice _, .ref _ _ n _ => K (.int .i64 n) H
    | .slice _, .nilsl => K (.int .i64 0) H
    | .str, .str s => K (.int .i64 s.size) H
    | .arr n _, _ => K (.int .i64 n) H
    | _, _ => False)
  | none => False
theorem do_len {X : Cx} {N : Nat} {Q : CP} {s : CA} {d : Option Nat} {ty : TypeId} {pos : String} {af : Array Edge} {g : Option (Nat × Bool)} {o : Operand} : vcDo X N ⟨d, .call ⟨.builtin .len, #[o], #[t]⟩, ty, pos, af, g⟩ s H Q K = lenK (X.T t) (evC X N s.env o) H (hold K) := _root_.id rfl
theorem len_sl {e z : Nat} {bs : Nat} {zr : List TZ} {sz : Nat} {ys : List (List CV)} : lenK (some ⟨.slice e, sz, bs, zr⟩) (.sl z ys) H K = K (.int .i64 ys.length) H := _root_.id rfl
theorem len_ref {e : Nat} {bs : Nat} {zr : List TZ} {sz r o n c : Nat} : lenK (some ⟨.slice e, sz, bs, zr⟩) (.ref r o n c) H K = K (.int .i64 n) H := _root_.id rfl
theorem len_nil {e : Nat} {bs : Nat} {zr : List TZ} {sz : Nat} : lenK (some ⟨.slice e, sz, bs, zr⟩) .nilsl H K = K (.int .i64 0) H := _root_.id rfl
theorem len_str {bs : Nat} {zr : List TZ} {sz : Nat} {s : ByteArray} : lenK (some ⟨.str, sz, bs, zr⟩) (.str s) H K = K (.int .i64 s.size) H := _root_.id rfl
end
attribute [simp ↓ high] do_len
attribute [simp] len_sl len_ref len_nil len_str
end Go.Cl
