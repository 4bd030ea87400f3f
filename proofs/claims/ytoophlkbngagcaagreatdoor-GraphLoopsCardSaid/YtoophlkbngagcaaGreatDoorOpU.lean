/- DERIVED HERE. The clean layer: what came in, read as a datum, is a clean value that nobody writes. DERIVED HERE. A unit that came in; the table of forms; what a call asks. -/
import Derived.Test.YtoophlkbngagcaaGreatDoorTAq
import Derived.Deep.Slices
import Derived.ChangeArms
import Derived.LaidMore
import Derived.OpenShut
import Derived.Stop.Joined
import Derived.ProofKit
import Derived.Lib.LaidU8
import Derived.Test.YtoophlkbngagcaaGreatDoorRows
set_option linter.unusedSimpArgs false
set_option linter.unusedVariables false
namespace Go.Cl
open Go.Proofs
/-- A type's cells, read as a datum, are clean values of a form. -/
structure Dec (P : Program) (W : World) (t : TypeId) (n : Nat) (R : List CV → Prop) : Prop where
  c : P.cellsOf t = n
  d : ∀ {H : Type} (enc : TypeId × Value → H) (base : Nat) (spare : Nat → Bool) (held : Bool) (fuel : Nat) (cs : List Value) (x : DataW H × List MemPlace), DataW.trod enc P W base spare held fuel t cs = some x → ∃ xs, R xs ∧ xs.length = n ∧ RepC W xs cs
section
variable {P : Program} {W : World}
theorem Dec.mono {t : TypeId} {n : Nat} {R R' : List CV → Prop} (h : Dec P W t n R) (hr : ∀ xs, R xs → R' xs) : Dec P W t n R' :=
  ⟨h.c, fun enc base spare held fuel cs x k => by obtain ⟨xs, h1, h2, h3⟩ := h.d enc base spare held fuel cs x k; exact ⟨xs, hr _ h1, h2, h3⟩⟩
theorem RepC.one {x : CV} {v : Value} (h : Rep W x v) (ho : v.oneCell' = true) : RepC W [x] [v] := by
  refine ⟨⟨rfl, fun i y u hy hu => ?_⟩, fun i u hu => ?_⟩
  · cases i with
    | zero => simp at hy hu; subst hy; subst hu; exact h
    | succ i => simp at hy
  · cases i with
    | zero => simp at hu; subst hu; exact ho
    | succ i => simp at hu
theorem RepC.app {a b : List CV} {A B : List Value} (h : RepC W a A) (k : RepC W b B) : RepC W (a ++ b) (A ++ B) := by
  have hl := h.1.1
  refine ⟨⟨by simp [hl, k.1.1], fun i x v hx hv => ?_⟩, fun i v hv => ?_⟩
  · rcases Nat.lt_or_ge i a.length with hi | hi
    · rw [List.getElem?_append_left hi] at hx
      rw [List.getElem?_append_left (by omega)] at hv
      exact h.1.2 i x v hx hv
    · rw [List.getElem?_append_right hi] at hx
      rw [List.getElem?_append_right (by omega), ← hl] at hv
      exact k.1.2 _ x v hx hv
  · rcases Nat.lt_or_ge i A.length with hi | hi
    · rw [List.getElem?_append_left hi] at hv
      exact h.2 i v hv
    · rw [List.getElem?_append_right hi] at hv
      exact k.2 _ v hv
def RInt (k : IntKind) (xs : List CV) : Prop := ∃ n, xs = [.int k n]
theorem dec_int {t : TypeId} {k : IntKind} (ht : P.underlying t = some (.int k)) (hc : P.cellsOf t = 1) : Dec P W t 1 (RInt k) :=
  ⟨hc, fun enc base spare held fuel cs x h => by
    obtain ⟨n, rfl, _, _⟩ := DataW.trod_int ht h
    exact ⟨[.int k n], ⟨n, rfl⟩, rfl, RepC.one (.int k n) rfl⟩⟩
def RSl (n : Nat) (R : List CV → Prop) (xs : List CV) : Prop := ∃ l, xs = [.sl n l] ∧ ∀ y ∈ l, R y
theorem dec_slice {t e : TypeId} {n : Nat} {R : List CV → Prop} (ht : P.underlying t = some (.slice e)) (hc : P.cellsOf t = 1) (he : Dec P W e n R) : Dec P W t 1 (RSl n R) :=
  ⟨hc, fun enc base spare held fuel cs x h => by
    rcases Deep.open_slice ht h with ⟨rfl, _⟩ | ⟨a, len, cap, m, k, D, Pl, rfl, hb, hl, hm, hmm, rfl, hx⟩
    · exact ⟨[.sl n []], ⟨[], rfl, fun y hy => by cases hy⟩, rfl, RepC.one (.sl n [] none 0 (fun _ _ => .bool false) (Nat.le_refl _) (fun i e he => by simp at he) (fun i j hi => by simp at hi) (fun h => by simp at h) (fun i j e x he => by simp at he)) rfl⟩
    · rw [he.c] at hx
      have hlm : len ≤ m := by rw [hmm]; split <;> omega
      have key : ∀ i, ∃ q : List CV × List Value, i < len → (R q.1 ∧ q.1.length = n ∧ RepC W q.1 q.2 ∧ ∀ j, j < n → W.cell? (a.add (i * n + j)) = q.2[j]?) := fun i => by
        by_cases hi : i < len
        · obtain ⟨cs', h1, h2⟩ := hx i (by omega)
          obtain ⟨xs, h3, h4, h5⟩ := he.d _ _ _ _ _ _ _ h2
          obtain ⟨_, h6, h7⟩ := World.cells?_some h1
          exact ⟨(xs, cs'), fun _ => ⟨h3, h4, h5, fun j hj => by rw [← Deep.add_add]; exact h7 j hj⟩⟩
        · exact ⟨([], []), fun h => absurd h hi⟩
      obtain ⟨f, hf⟩ := Classical.axiomOfChoice key
      refine ⟨[.sl n ((List.range len).map fun i => (f i).1)], ⟨_, rfl, fun y hy => ?_⟩, rfl, RepC.one ?_ rfl⟩
      · obtain ⟨i, hi, rfl⟩ := List.mem_map.1 hy
        exact (hf i (List.mem_range.1 hi)).1
      · have hlen : ((List.range len).map fun i => (f i).1).length = len := by simp
        have hget : ∀ (i : Nat) e, ((List.range len).map fun i => (f i).1)[i]? = some e → i < len ∧ e = (f i).1 := fun i e he => by
          have hi := (List.getElem?_eq_some_iff.1 he).1
          rw [hlen] at hi
          rw [List.getElem?_map, List.getElem?_range hi] at he
          injection he with he
          exact ⟨hi, he.symm⟩
        have := Rep.sl (W := W) n ((List.range len).map fun i => (f i).1) (some a) cap (fun i j => (f i).2.getD j (.bool false)) (by rw [hlen]; exact hl) (fun i e he => by obtain ⟨hi, rfl⟩ := hget i e he; exact (hf i hi).2.1) (fun i j hi hj => ?_) (fun _ => ⟨a, rfl⟩) (fun i j e x he hx => ?_)
        · rw [hlen] at this
          exact this
        · rw [hlen] at hi
          obtain ⟨h1, h2, h3, h4⟩ := hf i hi
          have hjl : j < (f i).2.length := by rw [← h3.1.1, h2]; exact hj
          refine ⟨a, rfl, ?_, ?_⟩
          · rw [h4 j hj, List.getD_eq_getElem?_getD, List.getElem?_eq_getElem hjl]; rfl
          · rw [List.getD_eq_getElem?_getD, List.getElem?_eq_getElem hjl]
            exact h3.2 j _ (List.getElem?_eq_getElem hjl)
        · obtain ⟨hi, rfl⟩ := hget i e he
          obtain ⟨h1, h2, h3, h4⟩ := hf i hi
          have hjl : j < (f i).2.length := by rw [← h3.1.1]; exact (List.getElem?_eq_some_iff.1 hx).1
          rw [List.getD_eq_getElem?_getD, List.getElem?_eq_getElem hjl]
          exact h3.1.2 j x _ hx (List.getElem?_eq_getElem hjl)⟩
abbrev DF := TypeId × Nat × (List CV → Prop)
def offs : Nat → List DF → List (TypeId × Nat)
  | _, [] => []
  | o, (t, n, _) :: l => (t, o) :: offs (o + n) l
def tot : List DF → Nat
  | [] => 0
  | (_, n, _) :: l => n + tot l
def Cat : List (List CV → Prop) → List CV → Prop
  | [], xs => xs = []
  | R :: Rs, xs => ∃ a b, xs = a ++ b ∧ R a ∧ Cat Rs b
theorem fields {H : Type} {enc : TypeId × Value → H} {base : Nat} {spare : Nat → Bool} {held : Bool} {fuel : Nat} {cs : List Value} : ∀ (l : List DF) (o : Nat), (∀ x ∈ l, Dec P W x.1 x.2.1 x.2.2) →
    (∀ p ∈ offs o l, ∃ x, DataW.trod enc P W base spare held fuel p.1 ((cs.drop p.2).take (P.cellsOf p.1)) = some x) → ∃ ys, Cat (l.map fun x => x.2.2) ys ∧ ys.length = tot l ∧ RepC W ys ((cs.drop o).take (tot l))
  | [], o, _, _ => ⟨[], rfl, rfl, by simp only [tot, List.take_zero]; exact RepC.nil W⟩
  | (t, n, R) :: l, o, hd, hx => by
    obtain ⟨x, h1⟩ := hx (t, o) (List.mem_cons_self ..)
    have h0 := hd (t, n, R) (List.mem_cons_self ..)
    simp only at h1 h0
    rw [h0.c] at h1
    obtain ⟨a, h2, h3, h4⟩ := h0.d _ _ _ _ _ _ _ h1
    obtain ⟨b, h5, h6, h7⟩ := fields l (o + n) (fun y hy => hd y (List.mem_cons_of_mem _ hy)) fun p hp => hx p (List.mem_cons_of_mem _ hp)
    refine ⟨a ++ b, ⟨a, b, rfl, h2, h5⟩, by simp [tot, h3, h6], ?_⟩
    simp only [tot]
    rw [List.take_add, List.drop_drop]
    exact h4.app h7
def structOk (P : Program) (t : TypeId) (l : List (TypeId × Nat)) : Bool := match P.underlying t with
  | some (.struct fs) => decide (fs.toList.map (fun f => (f.type, f.offset)) = l)
  | _ => false
theorem dec_struct {t : TypeId} {n : Nat} (l : List DF) (hs : structOk P t (offs 0 l) = true) (hc : P.cellsOf t = n) (hn : tot l = n) (hd : ∀ x ∈ l, Dec P W x.1 x.2.1 x.2.2) : Dec P W t n (Cat (l.map fun x => x.2.2)) :=
  ⟨hc, fun enc base spare held fuel cs x h => by
    simp only [structOk] at hs
    split at hs
    · rename_i fs hu
      have hs := of_decide_eq_true hs
      obtain ⟨xs, m, rfl, _, hl, hxl, hall⟩ := DataW.trod_struct hu h
      obtain ⟨ys, h1, h2, h3⟩ := fields (P := P) (W := W) (enc := enc) (base := base) (spare := spare) (held := held) (fuel := m) (cs := cs) l 0 hd fun p hp => by
        rw [← hs] at hp
        obtain ⟨f, hf, rfl⟩ := List.mem_map.1 hp
        obtain ⟨i, hi, hfi⟩ := List.mem_iff_getElem.1 hf
        have hi' : i < fs.size := by simpa using hi
        have := hall i f (by rw [Array.getElem?_eq_getElem hi']; congr 1)
        rw [List.getElem?_eq_getElem (by omega)] at this
        exact ⟨_, this⟩
      refine ⟨ys, h1, by rw [h2, hn], ?_⟩
      rw [List.drop_zero, hn, ← hc, ← hl, List.take_length] at h3
      exact h3
    · cases hs⟩
theorem list_of {α : Type} {l : List (List CV)} {f : α → List CV} (h : ∀ y ∈ l, ∃ o, y = f o) : ∃ os, l = List.map f os := by
  induction l with
  | nil => exact ⟨[], rfl⟩
  | cons y l ih =>
    obtain ⟨o, ho⟩ := h y (List.mem_cons_self ..)
    obtain ⟨os, hos⟩ := ih fun z hz => h z (List.mem_cons_of_mem _ hz)
    exact ⟨o :: os, by simp [ho, hos]⟩
end
end Go.Cl
set_option linter.unusedSimpArgs false
set_option linter.unusedVariables false
namespace Go.Cl
open Go.Proofs
variable {W : World} {G : Nat → CV}
set_option maxRecDepth 100000
theorem dI : Dec Tryz.prog W 3 1 (RInt .i64) := dec_int (by kernel_rfl) (by kernel_rfl)
theorem dI2 : Dec Tryz.prog W 2 1 (RInt .i64) := dec_int (by kernel_rfl) (by kernel_rfl)
theorem dec_op : Dec Tryz.prog W 84 7 fun xs => ∃ o, xs = opC o :=
  (dec_struct [(3, 1, RInt .i64), (3, 1, RInt .i64), (3, 1, RInt .i64), (3, 1, RInt .i64), (3, 1, RInt .i64), (2, 1, RInt .i64), (3, 1, RInt .i64)] (by kernel_rfl) (by kernel_rfl) rfl (fun x hx => by
    simp only [List.mem_cons, List.not_mem_nil, or_false] at hx
    rcases hx with rfl | rfl | rfl | rfl | rfl | rfl | rfl <;> first | exact dI | exact dI2)).mono (by
    rintro xs ⟨_, _, rfl, ⟨n0, rfl⟩, _, _, rfl, ⟨n1, rfl⟩, _, _, rfl, ⟨n2, rfl⟩, _, _, rfl, ⟨n3, rfl⟩, _, _, rfl, ⟨n4, rfl⟩, _, _, rfl, ⟨n5, rfl⟩, _, _, rfl, ⟨n6, rfl⟩, h⟩
    cases h
    exact ⟨⟨n0, n1, n2, n3, n4, n5, n6⟩, rfl⟩)
theorem dec_end : Dec Tryz.prog W 80 4 fun xs => ∃ e, xs = endC e :=
  (dec_struct [(3, 1, RInt .i64), (3, 1, RInt .i64), (3, 1, RInt .i64), (3, 1, RInt .i64)] (by kernel_rfl) (by kernel_rfl) rfl (fun x hx => by
    simp only [List.mem_cons, List.not_mem_nil, or_false] at hx
    rcases hx with rfl | rfl | rfl | rfl <;> exact dI)).mono (by
    rintro xs ⟨_, _, rfl, ⟨n0, rfl⟩, _, _, rfl, ⟨n1, rfl⟩, _, _, rfl, ⟨n2, rfl⟩, _, _, rfl, ⟨n3, rfl⟩, h⟩
    cases h
    exact ⟨⟨n0, n1, n2, n3⟩, rfl⟩)
theorem dec_ops : Dec Tryz.prog W 78 1 fun xs => ∃ os : List UOp, xs = [.sl 7 (os.map opC)] :=
  (dec_slice (e := 84) (by kernel_rfl) (by kernel_rfl) dec_op).mono fun xs ⟨l, h1, h2⟩ => by
    obtain ⟨os, rfl⟩ := list_of h2
    exact ⟨os, h1⟩
theorem dec_blk : Dec Tryz.prog W 82 6 fun xs => ∃ b, xs = blkC b :=
  (dec_struct [(78, 1, fun xs => ∃ os : List UOp, xs = [.sl 7 (os.map opC)]), (80, 4, fun xs => ∃ e, xs = endC e), (3, 1, RInt .i64)] (by kernel_rfl) (by kernel_rfl) rfl (fun x hx => by
    simp only [List.mem_cons, List.not_mem_nil, or_false] at hx
    rcases hx with rfl | rfl | rfl
    · exact dec_ops
    · exact dec_end
    · exact dI)).mono (by
    rintro xs ⟨_, _, rfl, ⟨os, rfl⟩, _, _, rfl, ⟨e, rfl⟩, _, _, rfl, ⟨n2, rfl⟩, h⟩
    cases h
    exact ⟨⟨os, e, n2⟩, rfl⟩)
theorem dec_blks : Dec Tryz.prog W 23 1 fun xs => ∃ bs : List UBlk, xs = [.sl 6 (bs.map blkC)] :=
  (dec_slice (e := 82) (by kernel_rfl) (by kernel_rfl) dec_blk).mono fun xs ⟨l, h1, h2⟩ => by
    obtain ⟨os, rfl⟩ := list_of h2
    exact ⟨os, h1⟩
theorem dec_ints : Dec Tryz.prog W 22 1 fun xs => ∃ ns : List Int, xs = [.sl 1 (ns.map fun n => [ci n])] :=
  (dec_slice (e := 3) (by kernel_rfl) (by kernel_rfl) dI).mono fun xs ⟨l, h1, h2⟩ => by
    obtain ⟨os, rfl⟩ := list_of (f := fun n => [ci n]) h2
    exact ⟨os, h1⟩
theorem dec_unit : Dec Tryz.prog W 25 6 fun xs => ∃ u, xs = unitC u :=
  (dec_struct [(22, 1, fun xs => ∃ ns : List Int, xs = [.sl 1 (ns.map fun n => [ci n])]), (3, 1, RInt .i64), (3, 1, RInt .i64), (3, 1, RInt .i64), (3, 1, RInt .i64), (23, 1, fun xs => ∃ bs : List UBlk, xs = [.sl 6 (bs.map blkC)])] (by kernel_rfl) (by kernel_rfl) rfl (fun x hx => by
    simp only [List.mem_cons, List.not_mem_nil, or_false] at hx
    rcases hx with rfl | rfl | rfl | rfl | rfl | rfl
    · exact dec_ints
    · exact dI
    · exact dI
    · exact dI
    · exact dI
    · exact dec_blks)).mono (by
    rintro xs ⟨_, _, rfl, ⟨ns, rfl⟩, _, _, rfl, ⟨n1, rfl⟩, _, _, rfl, ⟨n2, rfl⟩, _, _, rfl, ⟨n3, rfl⟩, _, _, rfl, ⟨n4, rfl⟩, _, _, rfl, ⟨bs, rfl⟩, h⟩
    cases h
    exact ⟨⟨ns, n1, n2, n3, n4, bs⟩, rfl⟩)
/-- A unit that came in. -/
theorem unit_in {H : Type} {enc : TypeId × Value → H} {base : Nat} {spare : Nat → Bool} {held : Bool} {v : Value} {d : DataW H} {ps : List MemPlace} (h : DataW.Trod enc Tryz.prog W base spare held 25 v d ps) : ∃ u : UUnit, Rep W (.agg (unitC u)) v := by
  obtain ⟨fuel, h⟩ := h
  obtain ⟨_, ⟨u, rfl⟩, hl, hr⟩ := dec_unit.d _ _ _ _ _ _ _ h
  have hlen : v.cells.toList.length = 6 := by rw [← hr.1.1]; exact hl
  cases v with
  | agg vs =>
    refine ⟨u, .agg _ _ (by simpa [Value.cells] using hr.1.1) (fun i w hw => hr.2 i w (by simpa [Value.cells] using hw)) (fun i x w hx hw => hr.1.2 i x w hx (by simpa [Value.cells] using hw))⟩
  | _ => simp [Value.cells] at hlen
/-- The table of forms. -/
theorem form_el {H : Type} {enc : TypeId × Value → H} {base : Nat} {spare : Nat → Bool} {held : Bool} {fuel : Nat} {cs : List Value} {a b : Int} {s : DataW H} {p : List MemPlace}
    (h : DataW.trod enc Tryz.prog W base spare held fuel 151 cs = some (.agg [.lit (.int .i64 a), .lit (.int .i64 b), s], p)) : ∃ v, cs = [.int .i64 a, .int .i64 b, v] ∧ v.oneCell' = true := by
  have hs : structOk Tryz.prog 151 [(3, 0), (3, 1), (9, 2)] = true := by kernel_rfl
  have hc : Tryz.prog.cellsOf 151 = 3 := by kernel_rfl
  have c3 : Tryz.prog.cellsOf 3 = 1 := by kernel_rfl
  have c9 : Tryz.prog.cellsOf 9 = 1 := by kernel_rfl
  simp only [structOk] at hs
  split at hs
  · rename_i fs hu
    have hs := of_decide_eq_true hs
    obtain ⟨xs, m, rfl, hx, hl, hxl, hall⟩ := DataW.trod_struct hu h
    obtain ⟨fl⟩ := fs
    simp only at hs
    match fl, hs with
    | [f0, f1, f2], hs =>
      simp only [List.map_cons, List.map_nil, List.cons.injEq, Prod.mk.injEq] at hs
      obtain ⟨⟨t0, o0⟩, ⟨t1, o1⟩, ⟨t2, o2⟩, _⟩ := hs
      rw [hc] at hl
      match cs, hl with
      | [v0, v1, v2], _ =>
        have h0 := hall 0 f0 rfl
        have h1 := hall 1 f1 rfl
        have h2 := hall 2 f2 rfl
        rw [t0, o0, c3] at h0
        rw [t1, o1, c3] at h1
        rw [t2, o2, c9] at h2
        match xs, hxl with
        | [x0, x1, x2], _ =>
          obtain ⟨n0, e0, g0, _⟩ := DataW.trod_int (k := .i64) (by kernel_rfl) h0
          obtain ⟨n1, e1, g1, _⟩ := DataW.trod_int (k := .i64) (by kernel_rfl) h1
          obtain ⟨n2, e2, g2, _⟩ := DataW.trod_string (by kernel_rfl) h2
          subst g0; subst g1; subst g2
          simp at hx e0 e1 e2
          obtain ⟨⟨rfl, rfl, _⟩, _⟩ := hx
          subst e0; subst e1; subst e2
          exact ⟨_, rfl, rfl⟩
  · cases hs
theorem forms_at2 : ∀ i, i < 25 → ∃ s, (match (YtoophlkbngagcaaGreatDoor.Rows.laid_bireme_code_forms : DataW Unit) with | .agg l => l[i]? | _ => none) = some (.agg [.lit (.int .i64 (usesL.getD i 0)), .lit (.int .i64 (classL.getD i 0)), s]) := by
  intro i hi
  rcases i with _|_|_|_|_|_|_|_|_|_|_|_|_|_|_|_|_|_|_|_|_|_|_|_|_|i <;> first | exact ⟨_, rfl⟩ | omega
theorem forms_in (h : laidMetH Tryz.prog [("bireme/code.forms", YtoophlkbngagcaaGreatDoor.Rows.laid_bireme_code_forms)] W) : Rep W (.iptr formsC) (.pointer (some ⟨0, 0, none⟩)) := by
  rw [MakeChecks.laidMetH_plain _ _ _ (by kernel_rfl)] at h
  obtain ⟨ps, ⟨g0, t0, cs0, f0, p0, q0, hg0, ht0, hv0, hd0, _, _⟩, _, _⟩ := h
  obtain rfl := Option.some.inj ((show Tryz.prog.globalNamed "bireme/code.forms" = some 0 by kernel_rfl).symm.trans hg0)
  obtain rfl := Option.some.inj ((show (Tryz.prog.globals[0]?).map (·.type) = some 168 by kernel_rfl).symm.trans ht0)
  have hu : Tryz.prog.underlying 168 = some (.array 25 151) := by kernel_rfl
  obtain ⟨xs, m, rfl, hx, hl, hxl, hel⟩ := DataW.trod_array hu hd0
  have hc : Tryz.prog.cellsOf 151 = 3 := by kernel_rfl
  have hc2 : Tryz.prog.cellsOf 168 = 75 := by kernel_rfl
  rw [hc] at hel
  rw [hc2] at hl
  have key : ∀ i, i < 25 → ∃ v, (cs0.toList.drop (i * 3)).take 3 = [.int .i64 (usesL.getD i 0), .int .i64 (classL.getD i 0), v] ∧ v.oneCell' = true := fun i hi => by
    obtain ⟨s, hs⟩ := forms_at2 i hi
    have h1 := hel i hi
    have hxi : ∃ x, xs[i]? = some x := ⟨_, List.getElem?_eq_getElem (by omega)⟩
    obtain ⟨x, hxi⟩ := hxi
    rw [hxi] at h1
    simp only [Prod.mk.injEq] at hx
    rw [hx.1] at hs
    simp only [List.getElem?_map, hxi, Option.map_some, Option.some.injEq] at hs
    obtain ⟨x1, x2⟩ := x
    simp only at hs
    subst hs
    exact form_el h1
  have cell : ∀ j, W.cell? ((⟨0, 0, none⟩ : Addr).add j) = cs0.toList[j]? := fun j => by
    have := World.var?_cell hg0 hv0 j
    cases j <;> simpa [Addr.add] using this
  have form : ∀ j, j < 75 → ∃ v, cs0.toList[j]? = some v ∧ v.oneCell' = true ∧ ∀ x, formsC[j]? = some x → Rep W x v := fun j hj => by
    have hi : j / 3 < 25 := by omega
    obtain ⟨v, h1, h2⟩ := key (j / 3) hi
    have h3 := forms_at (j / 3) hi
    have e1 : cs0.toList[j]? = ((cs0.toList.drop (j / 3 * 3)).take 3)[j % 3]? := by
      rw [List.getElem?_take, if_pos (by omega), List.getElem?_drop]; congr 1; omega
    have e2 : formsC[j]? = ((formsC.drop (j / 3 * 3)).take 3)[j % 3]? := by
      rw [List.getElem?_take, if_pos (by omega), List.getElem?_drop]; congr 1; omega
    rw [e1, e2, h1, h3]
    have : j % 3 = 0 ∨ j % 3 = 1 ∨ j % 3 = 2 := by omega
    rcases this with e | e | e <;> rw [e]
    · exact ⟨_, rfl, rfl, fun x hx => by injection hx with hx; subst hx; exact .int _ _⟩
    · exact ⟨_, rfl, rfl, fun x hx => by injection hx with hx; subst hx; exact .int _ _⟩
    · exact ⟨_, rfl, h2, fun x hx => by injection hx with hx; subst hx; exact .any _⟩
  have hlen : formsC.length = 75 := by decide
  refine .iptr formsC _ (fun j => cs0.toList.getD j (.bool false)) (fun j hj => ?_) (fun j x hx => ?_)
  · rw [hlen] at hj
    obtain ⟨v, h1, h2, _⟩ := form j hj
    rw [cell, List.getD_eq_getElem?_getD, h1]
    exact ⟨rfl, h2⟩
  · have hj : j < 75 := by have := (List.getElem?_eq_some_iff.1 hx).1; omega
    obtain ⟨v, h1, _, h3⟩ := form j hj
    rw [List.getD_eq_getElem?_getD, h1]
    exact h3 x hx
theorem hX_of (G : Nat → CV) (h : ∀ g, Rep W (G g) (.pointer (some ⟨g, 0, none⟩))) : CxOk (cx W G) := ⟨tabOk_of (by kernel_rfl), h⟩
end Go.Cl
