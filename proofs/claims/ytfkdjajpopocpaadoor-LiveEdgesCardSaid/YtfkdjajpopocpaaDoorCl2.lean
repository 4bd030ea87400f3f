/- DERIVED HERE. The clean layer's table of types; what single operations do to what a world holds. -/
import Derived.Test.YtfkdjajpopocpaaDoorCl1
namespace Go.Cl
open Go.RowKit

inductive TZ where
  | int (k : IntKind) | bool | str | ptr | sl | fn | ifc | map
  deriving DecidableEq
def TZ.cv : TZ → CV
  | .int k => .int k 0 | .bool => .bool false | .str => .str ⟨#[]⟩ | .ptr => .nilptr | .sl => .nilsl | .fn => .nilfunc | .ifc => .nilif | .map => .nilmap
def TZ.val : TZ → Value
  | .int k => .int k 0 | .bool => .bool false | .str => .string ⟨#[]⟩ | .ptr => .pointer none | .sl => .slice none 0 0 | .fn => .nilFunc | .ifc => .nilIface | .map => .map none
def zcOf : Value → Option TZ
  | .int k n => if n = 0 then some (.int k) else none
  | .bool false => some .bool
  | .string ⟨⟨[]⟩⟩ => some .str
  | .pointer none => some .ptr
  | .slice none 0 0 => some .sl
  | .nilFunc => some .fn
  | .nilIface => some .ifc
  | .map none => some .map
  | _ => none
theorem zcOf_eq {v : Value} {z : TZ} (h : zcOf v = some z) : v = z.val := by
  unfold zcOf at h
  split at h
  · split at h
    · injection h with h; subst h; subst_vars; rfl
    · cases h
  all_goals first | (injection h with h; subst h; rfl) | cases h
theorem TZ.rep (W : World) (z : TZ) : Rep W z.cv z.val := by cases z <;> constructor
theorem TZ.oneCell (z : TZ) : z.val.oneCell' = true := by cases z <;> rfl
def zcs : List Value → Option (List TZ)
  | [] => some []
  | v :: r => match zcOf v, zcs r with | some z, some zs => some (z :: zs) | _, _ => none
theorem zcs_eq : ∀ {vs : List Value} {zs : List TZ}, zcs vs = some zs → vs = zs.map TZ.val
  | [], zs, h => by simp [zcs] at h; subst h; rfl
  | v :: r, zs, h => by
    unfold zcs at h
    split at h
    · rename_i z zs' h1 h2
      injection h with h
      subst h
      rw [zcOf_eq h1, zcs_eq h2]; rfl
    · cases h
theorem repC_zeros (W : World) : ∀ zs : List TZ, RepC W (zs.map TZ.cv) (zs.map TZ.val)
  | [] => RepC.nil W
  | z :: zs => RepC.cons (z.rep W) z.oneCell (repC_zeros W zs)

/-- A type: its form, and its cells, bytes and zero. -/
inductive TK where
  | int (k : IntKind) | bool | str
  | slice (e : TypeId) | ptr (e : TypeId)
  | arr (n : Nat) (e : TypeId)
  | struct (fs : List (Nat × Nat × Bool))
  | map (k e : TypeId) | func | ifc
  deriving DecidableEq
structure TI where
  kind : TK
  size : Nat
  bytes : Nat
  zero : List TZ
def TK.agg : TK → Bool
  | .arr _ _ | .struct _ => true
  | _ => false
abbrev Tab := TypeId → Option TI

def aggD : Option TypeDesc → Bool
  | some (.struct _) | some (.array _ _) => true
  | _ => false
def flds (P : Program) : List Field → Option (List (Nat × Nat × Bool))
  | [] => some []
  | f :: r => match P.info? f.type, P.underlying f.type, flds P r with
    | some i, some d, some l => some ((f.offset, i.size, aggD (some d)) :: l)
    | _, _, _ => none
def kindB (P : Program) (d : TypeDesc) : TK → Bool
  | .int k => match d with | .int k' => k == k' | _ => false
  | .bool => match d with | .bool => true | _ => false
  | .str => match d with | .string => true | _ => false
  | .slice e => match d with | .slice e' => e == e' | _ => false
  | .ptr e => match d with | .pointer e' => e == e' | _ => false
  | .arr n e => match d with | .array n' e' => n == n' && e == e' | _ => false
  | .struct fs => match d with | .struct gs => flds P gs.toList == some fs | _ => false
  | .map k e => match d with | .map k' e' => k == k' && e == e' | _ => false
  | .func => match d with | .func .. => true | _ => false
  | .ifc => match d with | .interface _ => true | _ => false
def okT (P : Program) (t : TypeId) (ti : TI) : Bool :=
  match P.underlying t, P.info? t with
  | some d, some i => kindB P d ti.kind && i.size == ti.size && i.bytes == ti.bytes && (match i.zero with | some z => zcs z.cells.toList == some ti.zero | none => false) && ti.zero.length == ti.size && ti.size != 0 && ti.bytes != 0
  | _, _ => false
def TabOk (P : Program) (T : Tab) : Prop := ∀ t ti, T t = some ti → okT P t ti = true
def tabOf (l : List (TypeId × TI)) : Tab := fun t => (l.find? (·.1 == t)).map (·.2)
theorem tabOk_of {P : Program} {l : List (TypeId × TI)} (h : (l.all fun p => okT P p.1 p.2) = true) : TabOk P (tabOf l) := by
  intro t ti ht
  unfold tabOf at ht
  obtain ⟨p, hp, rfl⟩ := Option.map_eq_some_iff.1 ht
  have h1 := List.find?_some hp
  have h2 := List.mem_of_find?_eq_some hp
  have := List.all_eq_true.1 h p h2
  simp at h1
  subst h1
  exact this

section
variable {P : Program} {T : Tab}
structure TFact (P : Program) (t : TypeId) (ti : TI) where
  d : TypeDesc
  i : TypeInfo
  z : Value
  hd : P.underlying t = some d
  hi : P.info? t = some i
  hk : kindB P d ti.kind = true
  hs : i.size = ti.size
  hb : i.bytes = ti.bytes
  hz : i.zero = some z
  hzc : z.cells.toList = ti.zero.map TZ.val
  hl : ti.zero.length = ti.size
  h0 : ti.size ≠ 0
  hb0 : ti.bytes ≠ 0
theorem tfact (hT : TabOk P T) {t : TypeId} {ti : TI} (h : T t = some ti) : Nonempty (TFact P t ti) := by
  have h1 := hT t ti h
  unfold okT at h1
  split at h1
  · rename_i d i hd hi
    simp only [Bool.and_eq_true, beq_iff_eq, bne_iff_ne] at h1
    obtain ⟨⟨⟨⟨⟨⟨hk, hs⟩, hb⟩, hz⟩, hl⟩, h0⟩, hb0⟩ := h1
    split at hz
    · rename_i z hz'
      exact ⟨⟨d, i, z, hd, hi, hk, hs, hb, hz', zcs_eq (by simpa using hz), hl, h0, hb0⟩⟩
    · cases hz
  · cases h1
theorem TFact.size {t : TypeId} {ti : TI} (f : TFact P t ti) (w : World) : (sizeOf t).run P w = .ok ti.size w := by simp [sizeOf, typeInfo, f.hi, f.hs]
theorem TFact.und {t : TypeId} {ti : TI} (f : TFact P t ti) (w : World) : (underlying t).run P w = .ok f.d w := run_underlying f.hd w
theorem TFact.zerov {t : TypeId} {ti : TI} (f : TFact P t ti) (w : World) : (zeroValue t).run P w = .ok f.z w := by simp [zeroValue, typeInfo, f.hi, f.hz]
theorem TFact.agg {t : TypeId} {ti : TI} (f : TFact P t ti) : aggD (some f.d) = ti.kind.agg := by
  have hk := f.hk
  cases hd : f.d <;> rw [hd] at hk <;> cases hq : ti.kind <;> rw [hq] at hk <;> first | rfl | (simp [kindB] at hk; done)
theorem TFact.isAgg {t : TypeId} {ti : TI} (f : TFact P t ti) (w : World) : (isAgg t).run P w = .ok ti.kind.agg w := by
  rw [← f.agg]
  unfold Go.isAgg
  rw [Sem.run_bind, f.und]
  cases f.d <;> rfl
theorem TFact.rep {t : TypeId} {ti : TI} (f : TFact P t ti) (W : World) : RepC W (ti.zero.map TZ.cv) f.z.cells.toList := by rw [f.hzc]; exact repC_zeros W _

/-- What an operation's run must come to. -/
def GoodV (W : World) (F : Hp) (K : CV → Hp → Prop) (r : Result Value) : Prop := ∃ v w' c H', r = .ok v w' ∧ Rep W c v ∧ Disj H' F ∧ Held W (hun H' F) w' ∧ K c H'

variable {W : World} {H F : Hp} {w : World} {K : CV → Hp → Prop}
theorem GoodV.mk {v : Value} {c : CV} (hd : Disj H F) (hh : Held W (hun H F) w) (hr : Rep W c v) (h : K c H) : GoodV W F K (.ok v w) := ⟨v, w, c, H, rfl, hr, hd, hh, h⟩
/-- New cells. -/
theorem good_new {cs : List CV} {c : Array Value} {t : TypeId} (hd : Disj H F) (hh : Held W (hun H F) w) (hr : RepC W cs c.toList)
    {mk : Nat → Value} {mc : Nat → CV} (hm : ∀ r, Rep W (mc r) (mk r)) (h : ∀ r, H r = none → K (mc r) (H.set r (.cells cs))) : GoodV W F K (.ok (mk w.heap.size) (w.alloc (.cells c t))) := by
  have hf := hh.fresh
  rw [hun_none] at hf
  refine ⟨_, _, mc w.heap.size, H.set w.heap.size (.cells cs), rfl, hm _, disj_set_new hd hf.2, ?_, h _ hf.1⟩
  rw [hun_set]
  exact hh.alloc ⟨c, t, rfl, hr⟩

theorem run_loadVar_agg {t : TypeId} {ti : TI} (f : TFact P t ti) (ha : ti.kind.agg = true) (ad : Addr) (vs : List Value) (hl : vs.length = ti.size) (h : ∀ (j : Nat) v, vs[j]? = some v → w.cell? (ad.add j) = some v) :
    (loadVar t ad).run P w = .ok (.agg vs.toArray) w := by
  have := run_loadCells_list (P := P) w ad vs h
  rw [hl] at this
  simp only [loadVar, Sem.run_bind, f.isAgg, Result.andThen_ok, ha, if_true, f.size, this, Sem.run_pure]
theorem run_loadVar_one {t : TypeId} {ti : TI} (f : TFact P t ti) (ha : ti.kind.agg = false) (ad : Addr) (v : Value) (h : w.cell? ad = some v) :
    (loadVar t ad).run P w = .ok v w := by
  simp [loadVar, f.isAgg, ha, h]
theorem add_plain (g o j : Nat) : (⟨g, o, none⟩ : Addr).add j = ⟨g, o + j, none⟩ := by unfold Addr.add; split <;> simp_all
theorem add_add (a : Addr) (i j : Nat) : (a.add i).add j = a.add (i + j) := by
  unfold Addr.add
  by_cases h1 : i = 0 <;> by_cases h2 : j = 0 <;> simp [h1, h2, Nat.add_assoc]
theorem add_zero (a : Addr) : a.add 0 = a := by simp [Addr.add]

/-- A load, clean. -/
def vcLoad (ti : TI) (cs : List CV) (o : Nat) (K : CV → Prop) : Prop :=
  if ti.kind.agg then o + ti.size ≤ cs.length ∧ K (.agg ((cs.drop o).take ti.size)) else ∃ c, cs[o]? = some c ∧ K c
theorem good_load_cells {t : TypeId} {ti : TI} (f : TFact P t ti) (hd : Disj H F) (hh : Held W (hun H F) w) (ad : Addr) (cs : List CV) (vs : List Value) (hr : RepC W cs vs) (o : Nat)
    (hc : ∀ (j : Nat) v, vs[j]? = some v → w.cell? (ad.add j) = some v) (h : vcLoad ti cs o fun c => K c H) : GoodV W F K ((loadVar t (ad.add o)).run P w) := by
  unfold vcLoad at h
  split at h
  · rename_i ha
    obtain ⟨hl, hk⟩ := h
    have hr2 := (hr.drop o).take ti.size
    rw [run_loadVar_agg f ha (ad.add o) ((vs.drop o).take ti.size) (by rw [List.length_take, List.length_drop, ← hr.1.1]; omega) (fun j v hj => by
      rw [List.getElem?_take] at hj
      split at hj
      · rw [List.getElem?_drop] at hj
        rw [add_add]; exact hc _ _ hj
      · cases hj)]
    exact GoodV.mk hd hh (Rep.mkagg (by simpa using hr2)) hk
  · rename_i ha
    obtain ⟨c, hcs, hk⟩ := h
    have ho : o < vs.length := by rw [← hr.1.1]; exact (List.getElem?_eq_some_iff.1 hcs).1
    rw [run_loadVar_one f (by simpa using ha) (ad.add o) vs[o] (hc _ _ (List.getElem?_eq_getElem ho))]
    exact GoodV.mk hd hh (hr.1.2 o c _ hcs (List.getElem?_eq_getElem ho)) hk
theorem Held.cellsAt {H : Hp} (h : Held W H w) {r : Nat} {cs : List CV} (hr : H r = some (.cells cs)) : ∃ c t, w.heap[r]? = some (.cells c t (0, 0)) ∧ RepC W cs c.toList := by
  obtain ⟨_, ob, hb, c, t, rfl, hc⟩ := h.at_ r _ hr
  exact ⟨c, t, hb, hc⟩
theorem cell_at {r : Nat} {c : Array Value} {t : TypeId} {z : Nat × Nat} (h : w.heap[r]? = some (.cells c t z)) (j : Nat) : w.cell? ⟨r, j, none⟩ = c[j]? := by simp [World.cell?, h]
theorem cell_old (hh : Held W H w) {a : Addr} {v : Value} (h : W.cell? a = some v) : w.cell? a = some v := (hh.below.cell (World.block_lt_of_cell? W a h)).trans h

theorem good_load_ptr {t : TypeId} {ti : TI} (f : TFact P t ti) (hd : Disj H F) (hh : Held W (hun H F) w) {r o : Nat} {cs : List CV} (hr : H r = some (.cells cs)) (h : vcLoad ti cs o fun c => K c H) :
    GoodV W F K ((Instr.loadAt t (.pointer (some ⟨r, o, none⟩))).run P w) := by
  obtain ⟨c, t', hb, hc⟩ := hh.cellsAt (hun_left hr)
  have := good_load_cells f hd hh ⟨r, 0, none⟩ cs c.toList hc o (fun j v hj => by rw [add_plain, Nat.zero_add, cell_at hb]; simpa using hj) h
  rw [add_plain, Nat.zero_add] at this
  simpa [Instr.loadAt, Instr.sureAddr] using this
theorem load_ptr_run {t : TypeId} {ti : TI} (f : TFact P t ti) (hh : Held W (hun H F) w) {r o : Nat} {cs : List CV} {K : CV → Prop} (hr : H r = some (.cells cs)) (h : vcLoad ti cs o K) :
    ∃ v c, (loadVar t ⟨r, o, none⟩).run P w = .ok v w ∧ Rep W c v ∧ K c := by
  obtain ⟨c, t', hb, hr⟩ := hh.cellsAt (hun_left hr)
  have hc : ∀ (j : Nat) v, c.toList[j]? = some v → w.cell? ((⟨r, 0, none⟩ : Addr).add j) = some v := fun j v hj => by rw [add_plain, Nat.zero_add, cell_at hb]; simpa using hj
  unfold vcLoad at h
  have e0 : (⟨r, o, none⟩ : Addr) = (⟨r, 0, none⟩ : Addr).add o := by rw [add_plain, Nat.zero_add]
  split at h
  · rename_i ha
    obtain ⟨hl, hk⟩ := h
    have hr2 := (hr.drop o).take ti.size
    refine ⟨_, _, ?_, Rep.mkagg (vs := ((c.toList.drop o).take ti.size).toArray) (by simpa using hr2), hk⟩
    rw [e0]
    refine run_loadVar_agg f ha _ ((c.toList.drop o).take ti.size) (by rw [List.length_take, List.length_drop, ← hr.1.1]; omega) (fun j v hj => ?_)
    rw [List.getElem?_take] at hj
    split at hj
    · rw [List.getElem?_drop] at hj
      rw [add_add]; exact hc _ _ hj
    · cases hj
  · rename_i ha
    obtain ⟨x, hcs, hk⟩ := h
    have ho : o < c.toList.length := by rw [← hr.1.1]; exact (List.getElem?_eq_some_iff.1 hcs).1
    refine ⟨c.toList[o], x, ?_, hr.1.2 o x _ hcs (List.getElem?_eq_getElem ho), hk⟩
    rw [e0]
    exact run_loadVar_one f (by simpa using ha) _ _ (hc _ _ (List.getElem?_eq_getElem ho))
theorem good_load_iptr {t : TypeId} {ti : TI} (f : TFact P t ti) (hd : Disj H F) (hh : Held W (hun H F) w) {cs : List CV} {v : Value} (hr : Rep W (.iptr cs) v) (h : vcLoad ti cs 0 fun c => K c H) :
    GoodV W F K ((Instr.loadAt t v).run P w) := by
  cases hr with
  | iptr _ ad vs hc hr =>
    have := good_load_cells f hd hh ad cs ((List.range cs.length).map vs) ⟨⟨by simp, fun i x v hx hv => by
        have hi := (List.getElem?_eq_some_iff.1 hx).1
        simp [hi] at hv; subst hv; exact hr i x hx⟩, fun i v hv => by
        have hi : i < cs.length := by have := (List.getElem?_eq_some_iff.1 hv).1; simpa using this
        simp [hi] at hv; subst hv; exact (hc i hi).2⟩ 0 (fun j v hj => by
        have hi : j < cs.length := by have := (List.getElem?_eq_some_iff.1 hj).1; simpa using this
        simp [hi] at hj; subst hj; exact cell_old hh (hc j hi).1) h
    rw [add_zero] at this
    simpa [Instr.loadAt, Instr.sureAddr] using this
end
end Go.Cl
