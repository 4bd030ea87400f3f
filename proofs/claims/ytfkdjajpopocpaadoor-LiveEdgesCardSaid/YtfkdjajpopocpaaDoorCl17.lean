/- DERIVED HERE. The clean layer: a frozen call that hands back blocks of its own. -/
import Derived.Test.YtfkdjajpopocpaaDoorCl16
set_option linter.unusedSimpArgs false
set_option linter.unusedVariables false
namespace Go.Cl
open Go.RowKit
section
variable {X : Cx} {N : Nat} {ρ : Option Nat} {Q : CP} {s : CA} {H F : Hp} {P : Program} {W w : World}
/-- Values that say the same wherever, blocks of the call's own among them. -/
inductive Free : CV → Prop
  | any : Free .any
  | bool (b : Bool) : Free (.bool b)
  | int (k : IntKind) (n : Int) : Free (.int k n)
  | str (s : ByteArray) : Free (.str s)
  | nilptr : Free .nilptr
  | nilsl : Free .nilsl
  | nilif : Free .nilif
  | nilfunc : Free .nilfunc
  | nilmap : Free .nilmap
  | ptr (r o : Nat) : Free (.ptr r o)
  | ref (r o n c : Nat) : Free (.ref r o n c)
  | iface (t : TypeId) (v : CV) (h : Free v) : Free (.iface t v)
  | agg (cs : List CV) (h : ∀ (i : Nat) x, cs[i]? = some x → Free x) : Free (.agg cs)
  | tuple (cs : List CV) (h : ∀ (i : Nat) x, cs[i]? = some x → Free x) : Free (.tuple cs)
theorem Rep.free {W' : World} {x : CV} {v : Value} (h : Rep W x v) : Free x → Rep W' x v := by
  induction h with
  | any v => exact fun _ => .any v
  | bool b => exact fun _ => .bool b
  | int k n => exact fun _ => .int k n
  | str s => exact fun _ => .str s
  | nilptr => exact fun _ => .nilptr
  | nilsl => exact fun _ => .nilsl
  | nilfunc => exact fun _ => .nilfunc
  | nilif => exact fun _ => .nilif
  | nilmap => exact fun _ => .nilmap
  | ptr r o => exact fun _ => .ptr r o
  | ref r o n c => exact fun _ => .ref r o n c
  | iface t c v h ih => intro hp; cases hp with | iface _ _ hp => exact .iface t c v (ih hp)
  | tuple cs vs hl hr ih => intro hp; cases hp with | tuple _ hp => exact .tuple cs vs hl fun i x u hx hu => ih i x u hx hu (hp i x hx)
  | agg cs vs hl ho hr ih => intro hp; cases hp with | agg _ hp => exact .agg cs vs hl ho fun i x u hx hu => ih i x u hx hu (hp i x hx)
  | iptr => intro hp; cases hp
  | sl => intro hp; cases hp
  | func => intro hp; cases hp
  | map => intro hp; cases hp
def FreeOb : Ob → Prop
  | .cells cs => ∀ (i : Nat) x, cs[i]? = some x → Free x
  | .dfr => True
  | _ => False
def FreeHp (H : Hp) : Prop := ∀ r o, H r = some o → FreeOb o
def FreeEnd : CE → Prop
  | .ret v => Free v
  | .panic v => Free v
theorem RepOb.free {W' : World} {o : Ob} {ob : Obj} (hf : FreeOb o) (h : RepOb W o ob) : RepOb W' o ob := by
  cases o with
  | cells cs =>
    obtain ⟨c, t, rfl, h1, h2⟩ := h
    exact ⟨c, t, rfl, ⟨h1.1, fun i x v hx hv => (h1.2 i x v hx hv).free (hf i x hx)⟩, h2⟩
  | loop => exact hf.elim
  | dfr => exact h
/-- **A call whose arguments are frozen**: it is known at whatever world, holding nothing; what it hands back lies in blocks of its own. -/
theorem CC.freeze2 {f : FuncId} {args args' : List CV} {R : CE → Hp → Prop} (hl : args.length = args'.length) (hf : ∀ (i : Nat) x y, args[i]? = some x → args'[i]? = some y → Fz H x y) (hp : ∀ x H', R x H' → FreeEnd x ∧ FreeHp H')
    (h : ∀ w, Below W.heap.size W w → CC P w f args' (fun _ => none) R) : CC P W f args H fun x H2 => ∃ H', R x H' ∧ (∀ r o, H' r = some o → H r = none) ∧ H2 = hun H H' := by
  refine ⟨(h W (Below.refl _ W)).ent, fun F av w hd hr hh => ?_⟩
  have hr' : RepL w args' av.toList := ⟨by rw [← hl]; exact hr.1, fun i y v hy hv => by
    have hi := (List.getElem?_eq_some_iff.1 hy).1
    have hx := List.getElem?_eq_getElem (show i < args.length by omega)
    exact (hf i _ y hx hy).rep hd hh (hr.2 i _ v hx hv)⟩
  refine ((h w hh.below).out (fun _ => none) av w (fun i => .inl rfl) hr' (held_self w)).mono ?_
  rintro e w' ⟨x, H', hx, hd', hh', hR⟩
  obtain ⟨hfx, hfh⟩ := hp x H' hR
  have h0 : ∀ r, hun H' (fun _ => none) r = H' r := fun r => by simp [hun]
  have hnew : ∀ r o, H' r = some o → w.heap.size ≤ r := fun r o hr => (hh'.at_ r o (by rw [h0]; exact hr)).1
  have hold' : Held W (hun H F) w' := held_through hh hh'.below
  have hno : ∀ r o, H' r = some o → hun H F r = none := fun r o hr => by
    cases hc : hun H F r with
    | none => rfl
    | some o' => exact absurd (hh.lt hc) (by have := hnew r o hr; omega)
  refine ⟨x, hun H H', ?_, ?_, ⟨hold'.below, fun r o hr => ?_⟩, H', hR, fun r o hr => (hun_none.1 (hno r o hr)).1, rfl⟩
  · cases x <;> cases e <;> simp only [RepEnd] at hx ⊢ <;> first
      | exact hx.free hfx
      | (obtain ⟨v, h1, h2⟩ := hx; exact ⟨v, h1, h2.free hfx⟩)
  · intro r
    rcases hd r with d | d
    · cases hc : H' r with
      | none => exact .inl (by simp [hun, d, hc])
      | some o => exact .inr (hun_none.1 (hno r o hc)).2
    · exact .inr d
  · by_cases hc : hun H F r = some o
    · exact hold'.at_ r o hc
    · have hn : H' r = some o := by
        simp only [hun] at hr hc
        cases hH : H r with
        | some o' => rw [hH] at hr hc; simp at hr hc; exact absurd hr hc
        | none =>
          rw [hH] at hr hc
          simp at hr hc
          cases hH' : H' r with
          | none => rw [hH'] at hr; simp at hr; exact absurd hr hc
          | some o' => rw [hH'] at hr; simpa using hr
      obtain ⟨h1, ob, h2, h3⟩ := hh'.at_ r o (by rw [h0]; exact hn)
      have := hnew r o hn
      have hb := hh.below.size
      exact ⟨by omega, ob, h2, h3.free (hfh r o hn)⟩
end
end Go.Cl
