/- DERIVED HERE. The clean layer: what is held, frozen: a call that is handed it reads it as memory that was there ahead. -/
import Derived.Test.YtfkdjajpopocpaaDoorCl15
set_option linter.unusedSimpArgs false
set_option linter.unusedVariables false
namespace Go.Cl
open Go.RowKit

/-- The second is the first, read as memory that nobody writes. -/
inductive Fz (H : Hp) : CV → CV → Prop
  | same (c : CV) : Fz H c c
  | nil (sz : Nat) : Fz H .nilsl (.sl sz [])
  | ref (r o n c sz : Nat) (cs : List CV) (xs : List (List CV)) (hr : H r = some (.cells cs)) (hn : xs.length = n) (hc : n ≤ c) (hz : ∀ (i : Nat) e, xs[i]? = some e → e.length = sz)
      (y : Nat → Nat → CV) (hy : ∀ i j, i < n → j < sz → cs[o + (i * sz + j)]? = some (y i j)) (hf : ∀ (i j : Nat) e x, xs[i]? = some e → e[j]? = some x → Fz H (y i j) x) : Fz H (.ref r o n c) (.sl sz xs)
  | ptr (r o : Nat) (cs xs : List CV) (hr : H r = some (.cells cs)) (y : Nat → CV) (hy : ∀ j, j < xs.length → cs[o + j]? = some (y j)) (hf : ∀ (j : Nat) x, xs[j]? = some x → Fz H (y j) x) : Fz H (.ptr r o) (.iptr xs)
  | agg (cs ds : List CV) (hl : cs.length = ds.length) (y : Nat → CV) (hy : ∀ j, j < ds.length → cs[j]? = some (y j)) (hf : ∀ (j : Nat) x, ds[j]? = some x → Fz H (y j) x) : Fz H (.agg cs) (.agg ds)

section
variable {X : Cx} {N : Nat} {ρ : Option Nat} {Q : CP} {s : CA} {H F : Hp} {P : Program} {W w : World}
theorem Rep.later {x : CV} {v : Value} (hb : Below W.heap.size W w) (h : Rep W x v) : Rep w x v := by
  have hcell : ∀ {a : Addr} {v : Value}, W.cell? a = some v → w.cell? a = some v := fun {a v} h => (hb.cell (World.block_lt_of_cell? W a h)).trans h
  induction h with
  | any v => exact .any v
  | bool b => exact .bool b
  | int k n => exact .int k n
  | str s => exact .str s
  | nilptr => exact .nilptr
  | ptr r o => exact .ptr r o
  | iptr cs ad vs hc hr ih => exact .iptr cs ad vs (fun j hj => ⟨hcell (hc j hj).1, (hc j hj).2⟩) ih
  | nilsl => exact .nilsl
  | ref r o n c => exact .ref r o n c
  | sl sz xs A c vs hn hz hc hA hr ih =>
    refine .sl sz xs A c vs hn hz (fun i j hi hj => ?_) hA ih
    obtain ⟨ad, h1, h2, h3⟩ := hc i j hi hj
    exact ⟨ad, h1, hcell h2, h3⟩
  | func fn f c fv cv hf hc hfr hcr ih1 ih2 => exact .func fn f c fv cv hf hc ih1 ih2
  | nilfunc => exact .nilfunc
  | nilif => exact .nilif
  | iface t c v h ih => exact .iface t c v ih
  | agg cs vs hl ho hr ih => exact .agg cs vs hl ho ih
  | tuple cs vs hl hr ih => exact .tuple cs vs hl ih
  | nilmap => exact .nilmap
  | map r => exact .map r
theorem Fz.rep (hd : Disj H F) (hh : Held W (hun H F) w) {x y : CV} (hf : Fz H x y) : ∀ {v : Value}, Rep W x v → Rep w y v := by
  induction hf with
  | same c => intro v h; exact h.later hh.below
  | nil sz =>
    intro v h
    cases h with
    | nilsl => exact .sl sz [] none 0 (fun _ _ => undef) (by simp) (fun i e h => by simp at h) (fun i j h => by simp at h) (fun h => by simp at h) (fun i j e x h => by simp at h)
  | ref r o n c sz cs xs hr hn hc hz y hy hf ih =>
    intro v h
    cases h with
    | ref _ _ _ _ =>
      obtain ⟨arr, t, hb, hrep⟩ := hh.cellsAt (hun_left (F := F) hr)
      have hat : ∀ i j, i < n → j < sz → ∃ u, arr.toList[o + (i * sz + j)]? = some u ∧ Rep W (y i j) u ∧ u.oneCell' = true := by
        intro i j hi hj
        have h1 := hy i j hi hj
        have h2 := (List.getElem?_eq_some_iff.1 h1).1
        rw [hrep.1.1] at h2
        exact ⟨_, List.getElem?_eq_getElem h2, hrep.1.2 _ _ _ h1 (List.getElem?_eq_getElem h2), hrep.2 _ _ (List.getElem?_eq_getElem h2)⟩
      subst hn
      refine .sl sz xs (some ⟨r, o, none⟩) c (fun i j => (arr.toList[o + (i * sz + j)]?).getD undef) hc hz (fun i j hi hj => ?_) (fun _ => ⟨_, rfl⟩) (fun i j e x he hx => ?_)
      · obtain ⟨u, h1, h2, h3⟩ := hat i j hi hj
        refine ⟨_, rfl, ?_, by rw [h1]; exact h3⟩
        rw [add_plain, cell_at hb, h1]
        simpa using h1
      · have hi := (List.getElem?_eq_some_iff.1 he).1
        have hj : j < sz := by rw [← hz i e he]; exact (List.getElem?_eq_some_iff.1 hx).1
        obtain ⟨u, h1, h2, h3⟩ := hat i j hi hj
        rw [h1]
        exact ih i j e x he hx h2
  | ptr r o cs xs hr y hy hf ih =>
    intro v h
    cases h with
    | ptr _ _ =>
      obtain ⟨arr, t, hb, hrep⟩ := hh.cellsAt (hun_left (F := F) hr)
      have hat : ∀ j, j < xs.length → ∃ u, arr.toList[o + j]? = some u ∧ Rep W (y j) u ∧ u.oneCell' = true := by
        intro j hj
        have h1 := hy j hj
        have h2 := (List.getElem?_eq_some_iff.1 h1).1
        rw [hrep.1.1] at h2
        exact ⟨_, List.getElem?_eq_getElem h2, hrep.1.2 _ _ _ h1 (List.getElem?_eq_getElem h2), hrep.2 _ _ (List.getElem?_eq_getElem h2)⟩
      refine .iptr xs ⟨r, o, none⟩ (fun j => (arr.toList[o + j]?).getD undef) (fun j hj => ?_) (fun j x hx => ?_)
      · obtain ⟨u, h1, h2, h3⟩ := hat j hj
        rw [add_plain, cell_at hb, h1]
        exact ⟨by simpa using h1, h3⟩
      · have hj := (List.getElem?_eq_some_iff.1 hx).1
        obtain ⟨u, h1, h2, h3⟩ := hat j hj
        rw [h1]
        exact ih j x hx h2
  | agg cs ds hl y hy hf ih =>
    intro v h
    cases h with
    | agg _ vs hl' ho hr =>
      refine .agg ds vs (by omega) ho fun j x u hx hu => ?_
      have hj := (List.getElem?_eq_some_iff.1 hx).1
      exact ih j x hx (hr j _ u (hy j hj) hu)
theorem held_self (w : World) : Held w (hun (fun _ => none) (fun _ => none)) w := ⟨Below.refl _ w, fun r o h => by simp [hun] at h⟩
theorem held_through {w' : World} (hh : Held W H w) (hb : Below w.heap.size w w') : Held W H w' := by
  refine ⟨hh.below.trans (hb.mono hh.below.size), fun r o hr => ?_⟩
  obtain ⟨h1, ob, h2, h3⟩ := hh.at_ r o hr
  exact ⟨h1, ob, by rw [hb.block _ (hh.lt hr)]; exact h2, h3⟩
/-- Values that say the same wherever. -/
def plainV : CV → Bool
  | .bool _ | .int _ _ | .str _ | .nilptr | .nilsl | .nilif | .nilfunc | .nilmap => true
  | .tuple cs => cs.attach.all fun ⟨c, _⟩ => plainV c
  | _ => false
theorem Rep.plain {W' : World} : ∀ {x : CV} {v : Value}, plainV x = true → Rep W' x v → Rep W x v := by
  intro x v hp h
  induction h with
  | bool b => exact .bool b
  | int k n => exact .int k n
  | str s => exact .str s
  | nilptr => exact .nilptr
  | nilsl => exact .nilsl
  | nilfunc => exact .nilfunc
  | nilif => exact .nilif
  | nilmap => exact .nilmap
  | tuple cs vs hl hr ih =>
    refine .tuple cs vs hl fun i x u hx hu => ih i x u hx hu ?_
    simp only [plainV, List.all_eq_true] at hp
    exact hp ⟨x, List.mem_of_getElem? hx⟩ (List.mem_attach _ _)
  | _ => simp [plainV] at hp
/-- **A call whose arguments are frozen**: it is known at whatever world, holding nothing; it hands back plain values. -/
theorem CC.freeze {f : FuncId} {args args' : List CV} {R : CV → Prop} (hl : args.length = args'.length) (hf : ∀ (i : Nat) x y, args[i]? = some x → args'[i]? = some y → Fz H x y) (hp : ∀ v, R v → plainV v = true)
    (h : ∀ w, Below W.heap.size W w → CC P w f args' (fun _ => none) fun x _ => ∃ v, x = .ret v ∧ R v) : CC P W f args H fun x H' => ∃ v, x = .ret v ∧ R v ∧ H' = H := by
  refine ⟨(h W (Below.refl _ W)).ent, fun F av w hd hr hh => ?_⟩
  have hr' : RepL w args' av.toList := ⟨by rw [← hl]; exact hr.1, fun i y v hy hv => by
    have hi := (List.getElem?_eq_some_iff.1 hy).1
    have hx := List.getElem?_eq_getElem (show i < args.length by omega)
    exact (hf i _ y hx hy).rep hd hh (hr.2 i _ v hx hv)⟩
  refine ((h w hh.below).out (fun _ => none) av w (fun i => .inl rfl) hr' (held_self w)).mono ?_
  rintro e w' ⟨x, H', hx, hd', hh', v, rfl, hR⟩
  refine ⟨.ret v, H, ?_, hd, held_through hh hh'.below, v, rfl, hR, rfl⟩
  cases e <;> simp only [RepEnd] at hx ⊢
  exact hx.plain (hp v hR)
theorem CxOk.later (hX : CxOk X) (hb : Below X.W.heap.size X.W w) : CxOk { X with W := w } := ⟨hX.hT, fun g => (hX.hG g).later hb⟩
end
end Go.Cl
