/- DERIVED HERE. A unit that came in; the table of forms; what a call asks. -/
import Derived.Test.YtfkdjajpopocpaaDoorOpn
import Derived.LaidMore
import Derived.OpenShut
import Derived.Stop.Joined
import Derived.ProofKit
import Derived.Lib.LaidU8
import Derived.Test.YtfkdjajpopocpaaDoorRows
set_option linter.unusedSimpArgs false
set_option linter.unusedVariables false
namespace Go.Cl
open Go.Proofs
variable {W : World} {G : Nat → CV}
set_option maxRecDepth 100000
theorem dI : Dec Tryd.prog W 3 1 (RInt .i64) := dec_int (by kernel_rfl) (by kernel_rfl)
theorem dI2 : Dec Tryd.prog W 2 1 (RInt .i64) := dec_int (by kernel_rfl) (by kernel_rfl)
theorem dec_op : Dec Tryd.prog W 76 7 fun xs => ∃ o, xs = opC o :=
  (dec_struct [(3, 1, RInt .i64), (3, 1, RInt .i64), (3, 1, RInt .i64), (3, 1, RInt .i64), (3, 1, RInt .i64), (2, 1, RInt .i64), (3, 1, RInt .i64)] (by kernel_rfl) (by kernel_rfl) rfl (fun x hx => by
    simp only [List.mem_cons, List.not_mem_nil, or_false] at hx
    rcases hx with rfl | rfl | rfl | rfl | rfl | rfl | rfl <;> first | exact dI | exact dI2)).mono (by
    rintro xs ⟨_, _, rfl, ⟨n0, rfl⟩, _, _, rfl, ⟨n1, rfl⟩, _, _, rfl, ⟨n2, rfl⟩, _, _, rfl, ⟨n3, rfl⟩, _, _, rfl, ⟨n4, rfl⟩, _, _, rfl, ⟨n5, rfl⟩, _, _, rfl, ⟨n6, rfl⟩, h⟩
    cases h
    exact ⟨⟨n0, n1, n2, n3, n4, n5, n6⟩, rfl⟩)
theorem dec_end : Dec Tryd.prog W 61 4 fun xs => ∃ e, xs = endC e :=
  (dec_struct [(3, 1, RInt .i64), (3, 1, RInt .i64), (3, 1, RInt .i64), (3, 1, RInt .i64)] (by kernel_rfl) (by kernel_rfl) rfl (fun x hx => by
    simp only [List.mem_cons, List.not_mem_nil, or_false] at hx
    rcases hx with rfl | rfl | rfl | rfl <;> exact dI)).mono (by
    rintro xs ⟨_, _, rfl, ⟨n0, rfl⟩, _, _, rfl, ⟨n1, rfl⟩, _, _, rfl, ⟨n2, rfl⟩, _, _, rfl, ⟨n3, rfl⟩, h⟩
    cases h
    exact ⟨⟨n0, n1, n2, n3⟩, rfl⟩)
theorem dec_ops : Dec Tryd.prog W 59 1 fun xs => ∃ os : List UOp, xs = [.sl 7 (os.map opC)] :=
  (dec_slice (e := 76) (by kernel_rfl) (by kernel_rfl) dec_op).mono fun xs ⟨l, h1, h2⟩ => by
    obtain ⟨os, rfl⟩ := list_of h2
    exact ⟨os, h1⟩
theorem dec_blk : Dec Tryd.prog W 63 6 fun xs => ∃ b, xs = blkC b :=
  (dec_struct [(59, 1, fun xs => ∃ os : List UOp, xs = [.sl 7 (os.map opC)]), (61, 4, fun xs => ∃ e, xs = endC e), (3, 1, RInt .i64)] (by kernel_rfl) (by kernel_rfl) rfl (fun x hx => by
    simp only [List.mem_cons, List.not_mem_nil, or_false] at hx
    rcases hx with rfl | rfl | rfl
    · exact dec_ops
    · exact dec_end
    · exact dI)).mono (by
    rintro xs ⟨_, _, rfl, ⟨os, rfl⟩, _, _, rfl, ⟨e, rfl⟩, _, _, rfl, ⟨n2, rfl⟩, h⟩
    cases h
    exact ⟨⟨os, e, n2⟩, rfl⟩)
theorem dec_blks : Dec Tryd.prog W 23 1 fun xs => ∃ bs : List UBlk, xs = [.sl 6 (bs.map blkC)] :=
  (dec_slice (e := 63) (by kernel_rfl) (by kernel_rfl) dec_blk).mono fun xs ⟨l, h1, h2⟩ => by
    obtain ⟨os, rfl⟩ := list_of h2
    exact ⟨os, h1⟩
theorem dec_ints : Dec Tryd.prog W 22 1 fun xs => ∃ ns : List Int, xs = [.sl 1 (ns.map fun n => [ci n])] :=
  (dec_slice (e := 3) (by kernel_rfl) (by kernel_rfl) dI).mono fun xs ⟨l, h1, h2⟩ => by
    obtain ⟨os, rfl⟩ := list_of (f := fun n => [ci n]) h2
    exact ⟨os, h1⟩
theorem dec_unit : Dec Tryd.prog W 25 6 fun xs => ∃ u, xs = unitC u :=
  (dec_struct [(22, 1, fun xs => ∃ ns : List Int, xs = [.sl 1 (ns.map fun n => [ci n])]), (3, 1, RInt .i64), (3, 1, RInt .i64), (3, 1, RInt .i64), (3, 1, RInt .i64), (23, 1, fun xs => ∃ bs : List UBlk, xs = [.sl 6 (bs.map blkC)])] (by kernel_rfl) (by kernel_rfl) rfl (fun x hx => by
    simp only [List.mem_cons, List.not_mem_nil, or_false] at hx
    rcases hx with rfl | rfl | rfl | rfl | rfl | rfl
    · exact dec_ints
    · exact dI
    · exact dI
    · exact dI
    · exact dI
    · exact dec_blks)).mono (by
    rintro xs ⟨_, _, rfl, ⟨ns, rfl⟩, _, _, rfl, ⟨n1, rfl⟩, _, _, rfl, ⟨n2, rfl⟩, _, _, rfl, ⟨n3, rfl⟩, _, _, rfl, ⟨n4, rfl⟩, _, _, rfl, ⟨bs, rfl⟩, h⟩
    cases h
    exact ⟨⟨ns, n1, n2, n3, n4, bs⟩, rfl⟩)
/-- A unit that came in. -/
theorem unit_in {H : Type} {enc : TypeId × Value → H} {base : Nat} {spare : Nat → Bool} {held : Bool} {v : Value} {d : DataW H} {ps : List MemPlace} (h : DataW.Trod enc Tryd.prog W base spare held 25 v d ps) : ∃ u : UUnit, Rep W (.agg (unitC u)) v := by
  obtain ⟨fuel, h⟩ := h
  obtain ⟨_, ⟨u, rfl⟩, hl, hr⟩ := dec_unit.d _ _ _ _ _ _ _ h
  have hlen : v.cells.toList.length = 6 := by rw [← hr.1.1]; exact hl
  cases v with
  | agg vs =>
    refine ⟨u, .agg _ _ (by simpa [Value.cells] using hr.1.1) (fun i w hw => hr.2 i w (by simpa [Value.cells] using hw)) (fun i x w hx hw => hr.1.2 i x w hx (by simpa [Value.cells] using hw))⟩
  | _ => simp [Value.cells] at hlen
/-- The table of forms. -/
theorem form_el {H : Type} {enc : TypeId × Value → H} {base : Nat} {spare : Nat → Bool} {held : Bool} {fuel : Nat} {cs : List Value} {a b : Int} {s : DataW H} {p : List MemPlace}
    (h : DataW.trod enc Tryd.prog W base spare held fuel 162 cs = some (.agg [.lit (.int .i64 a), .lit (.int .i64 b), s], p)) : ∃ v, cs = [.int .i64 a, .int .i64 b, v] ∧ v.oneCell' = true := by
  have hs : structOk Tryd.prog 162 [(3, 0), (3, 1), (9, 2)] = true := by kernel_rfl
  have hc : Tryd.prog.cellsOf 162 = 3 := by kernel_rfl
  have c3 : Tryd.prog.cellsOf 3 = 1 := by kernel_rfl
  have c9 : Tryd.prog.cellsOf 9 = 1 := by kernel_rfl
  simp only [structOk] at hs
  split at hs
  · rename_i fs hu
    have hs := of_decide_eq_true hs
    obtain ⟨xs, m, rfl, hx, hl, hxl, hall⟩ := DataW.trod_struct hu h
    obtain ⟨fl⟩ := fs
    simp only at hs
    match fl, hs with
    | [f0, f1, f2], hs =>
      simp only [List.map_cons, List.map_nil, List.cons.injEq, Prod.mk.injEq] at hs
      obtain ⟨⟨t0, o0⟩, ⟨t1, o1⟩, ⟨t2, o2⟩, _⟩ := hs
      rw [hc] at hl
      match cs, hl with
      | [v0, v1, v2], _ =>
        have h0 := hall 0 f0 rfl
        have h1 := hall 1 f1 rfl
        have h2 := hall 2 f2 rfl
        rw [t0, o0, c3] at h0
        rw [t1, o1, c3] at h1
        rw [t2, o2, c9] at h2
        match xs, hxl with
        | [x0, x1, x2], _ =>
          obtain ⟨n0, e0, g0, _⟩ := DataW.trod_int (k := .i64) (by kernel_rfl) h0
          obtain ⟨n1, e1, g1, _⟩ := DataW.trod_int (k := .i64) (by kernel_rfl) h1
          obtain ⟨n2, e2, g2, _⟩ := DataW.trod_string (by kernel_rfl) h2
          subst g0; subst g1; subst g2
          simp at hx e0 e1 e2
          obtain ⟨⟨rfl, rfl, _⟩, _⟩ := hx
          subst e0; subst e1; subst e2
          exact ⟨_, rfl, rfl⟩
  · cases hs
theorem forms_at2 : ∀ i, i < 25 → ∃ s, (match (YtfkdjajpopocpaaDoor.Rows.laid_bireme_code_forms : DataW Unit) with | .agg l => l[i]? | _ => none) = some (.agg [.lit (.int .i64 (usesL.getD i 0)), .lit (.int .i64 (classL.getD i 0)), s]) := by
  intro i hi
  rcases i with _|_|_|_|_|_|_|_|_|_|_|_|_|_|_|_|_|_|_|_|_|_|_|_|_|i <;> first | exact ⟨_, rfl⟩ | omega
theorem forms_in (h : laidMetH Tryd.prog [("bireme/code.forms", YtfkdjajpopocpaaDoor.Rows.laid_bireme_code_forms)] W) : Rep W (.iptr formsC) (.pointer (some ⟨0, 0, none⟩)) := by
  rw [MakeChecks.laidMetH_plain _ _ _ (by kernel_rfl)] at h
  obtain ⟨ps, ⟨g0, t0, cs0, f0, p0, q0, hg0, ht0, hv0, hd0, _, _⟩, _, _⟩ := h
  obtain rfl := Option.some.inj ((show Tryd.prog.globalNamed "bireme/code.forms" = some 0 by kernel_rfl).symm.trans hg0)
  obtain rfl := Option.some.inj ((show (Tryd.prog.globals[0]?).map (·.type) = some 169 by kernel_rfl).symm.trans ht0)
  have hu : Tryd.prog.underlying 169 = some (.array 25 162) := by kernel_rfl
  obtain ⟨xs, m, rfl, hx, hl, hxl, hel⟩ := DataW.trod_array hu hd0
  have hc : Tryd.prog.cellsOf 162 = 3 := by kernel_rfl
  have hc2 : Tryd.prog.cellsOf 169 = 75 := by kernel_rfl
  rw [hc] at hel
  rw [hc2] at hl
  have key : ∀ i, i < 25 → ∃ v, (cs0.toList.drop (i * 3)).take 3 = [.int .i64 (usesL.getD i 0), .int .i64 (classL.getD i 0), v] ∧ v.oneCell' = true := fun i hi => by
    obtain ⟨s, hs⟩ := forms_at2 i hi
    have h1 := hel i hi
    have hxi : ∃ x, xs[i]? = some x := ⟨_, List.getElem?_eq_getElem (by omega)⟩
    obtain ⟨x, hxi⟩ := hxi
    rw [hxi] at h1
    simp only [Prod.mk.injEq] at hx
    rw [hx.1] at hs
    simp only [List.getElem?_map, hxi, Option.map_some, Option.some.injEq] at hs
    obtain ⟨x1, x2⟩ := x
    simp only at hs
    subst hs
    exact form_el h1
  have cell : ∀ j, W.cell? ((⟨0, 0, none⟩ : Addr).add j) = cs0.toList[j]? := fun j => by
    have := World.var?_cell hg0 hv0 j
    cases j <;> simpa [Addr.add] using this
  have form : ∀ j, j < 75 → ∃ v, cs0.toList[j]? = some v ∧ v.oneCell' = true ∧ ∀ x, formsC[j]? = some x → Rep W x v := fun j hj => by
    have hi : j / 3 < 25 := by omega
    obtain ⟨v, h1, h2⟩ := key (j / 3) hi
    have h3 := forms_at (j / 3) hi
    have e1 : cs0.toList[j]? = ((cs0.toList.drop (j / 3 * 3)).take 3)[j % 3]? := by
      rw [List.getElem?_take, if_pos (by omega), List.getElem?_drop]; congr 1; omega
    have e2 : formsC[j]? = ((formsC.drop (j / 3 * 3)).take 3)[j % 3]? := by
      rw [List.getElem?_take, if_pos (by omega), List.getElem?_drop]; congr 1; omega
    rw [e1, e2, h1, h3]
    have : j % 3 = 0 ∨ j % 3 = 1 ∨ j % 3 = 2 := by omega
    rcases this with e | e | e <;> rw [e]
    · exact ⟨_, rfl, rfl, fun x hx => by injection hx with hx; subst hx; exact .int _ _⟩
    · exact ⟨_, rfl, rfl, fun x hx => by injection hx with hx; subst hx; exact .int _ _⟩
    · exact ⟨_, rfl, h2, fun x hx => by injection hx with hx; subst hx; exact .any _⟩
  have hlen : formsC.length = 75 := by decide
  refine .iptr formsC _ (fun j => cs0.toList.getD j (.bool false)) (fun j hj => ?_) (fun j x hx => ?_)
  · rw [hlen] at hj
    obtain ⟨v, h1, h2, _⟩ := form j hj
    rw [cell, List.getD_eq_getElem?_getD, h1]
    exact ⟨rfl, h2⟩
  · have hj : j < 75 := by have := (List.getElem?_eq_some_iff.1 hx).1; omega
    obtain ⟨v, h1, _, h3⟩ := form j hj
    rw [List.getD_eq_getElem?_getD, h1]
    exact h3 x hx
theorem hX_of (G : Nat → CV) (h : ∀ g, Rep W (G g) (.pointer (some ⟨g, 0, none⟩))) : CxOk (cx W G) := ⟨tabOk_of (by kernel_rfl), h⟩
end Go.Cl
