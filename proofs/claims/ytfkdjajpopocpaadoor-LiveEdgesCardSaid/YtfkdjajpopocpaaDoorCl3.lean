/- DERIVED HERE. The clean layer's operations: what each asks and hands on ('vcOp'), and that the machine's operation does so. -/
import Derived.Test.YtfkdjajpopocpaaDoorCl2
namespace Go.Cl
open Go.RowKit

/-- By the value of a bit. -/
def splitB (b : Bool) (K : Bool → Prop) : Prop := (b = true → K true) ∧ (b = false → K false)
theorem splitB_of {b : Bool} {K : Bool → Prop} (h : b = true → K true) (h' : b = false → K false) : splitB b K := ⟨h, h'⟩
theorem splitB_elim {b : Bool} {K : Bool → Prop} (h : splitB b K) : K b := by cases b; exact h.2 rfl; exact h.1 rfl

def cfill (place : Nat → Option (Nat × Nat)) (cells : List CV) : List (Nat × CV) → Option (List CV)
  | [] => some cells
  | (i, v) :: rest =>
    match place i with
    | none => none
    | some (off, size) =>
      if v.stor = true ∧ v.cells.length = size ∧ off + size ≤ cells.length then cfill place (cells.take off ++ v.cells ++ cells.drop (off + size)) rest else none
def zeroCs (zs : List TZ) (n : Nat) : List CV := (List.range n).map fun i => ((zs.map TZ.cv).getD (i % zs.length) .any)

def vcCmp (op : BinOp) (a b : Int) (K : CV → Prop) : Prop :=
  match op with
  | .eql => K (.bool (a == b))
  | .neq => K (.bool (a != b))
  | .lss => K (.bool (decide (a < b)))
  | .leq => K (.bool (decide (a ≤ b)))
  | .gtr => K (.bool (decide (b < a)))
  | .geq => K (.bool (decide (b ≤ a)))
  | _ => False
def zAnd (k : IntKind) (a b : Int) : Int := k.wrap (BitVec.ofInt k.bits a &&& BitVec.ofInt k.bits b).toNat
def zOr (k : IntKind) (a b : Int) : Int := k.wrap (BitVec.ofInt k.bits a ||| BitVec.ofInt k.bits b).toNat
def zXor (k : IntKind) (a b : Int) : Int := k.wrap (BitVec.ofInt k.bits a ^^^ BitVec.ofInt k.bits b).toNat
def zAndNot (k : IntKind) (a b : Int) : Int := k.wrap (BitVec.ofInt k.bits a &&& ~~~(BitVec.ofInt k.bits b)).toNat
def zShl (k : IntKind) (a b : Int) : Int := k.wrap (a * 2 ^ (min b.toNat k.bits))
def zShr (k : IntKind) (a b : Int) : Int := a.fdiv (2 ^ (min b.toNat k.bits))
def vcInt (op : BinOp) (k : IntKind) (a b : Int) (K : CV → Prop) : Prop :=
  match op with
  | .add => ∃ z, k.wrap (a + b) = z ∧ K (.int k z)
  | .sub => ∃ z, k.wrap (a - b) = z ∧ K (.int k z)
  | .mul => ∃ z, k.wrap (a * b) = z ∧ K (.int k z)
  | .quo => b ≠ 0 ∧ ∃ z, k.wrap (a.tdiv b) = z ∧ K (.int k z)
  | .rem => b ≠ 0 ∧ ∃ z, a.tmod b = z ∧ K (.int k z)
  | .and => K (.int k (zAnd k a b))
  | .or => K (.int k (zOr k a b))
  | .xor => K (.int k (zXor k a b))
  | .andNot => K (.int k (zAndNot k a b))
  | .shl => 0 ≤ b ∧ K (.int k (zShl k a b))
  | .shr => 0 ≤ b ∧ K (.int k (zShr k a b))
  | op => vcCmp op a b K
def isShift : BinOp → Bool
  | .shl | .shr => true
  | _ => false
/-- Flat structs: their fields one after the other, none of them nested, all whole numbers of one kind or bools. -/
def flatEq : List CV → List CV → Option Bool
  | [], [] => some true
  | .int k a :: xs, .int k' b :: ys => if k = k' then (flatEq xs ys).map fun t => (a == b) && t else none
  | .bool a :: xs, .bool b :: ys => (flatEq xs ys).map fun t => (a == b) && t
  | _, _ => none
def vcBin (T : Tab) (op : BinOp) (t : TypeId) (x y : CV) (K : CV → Prop) : Prop :=
  match x, y with
  | .int k a, .int k' b => (isShift op = true ∨ k = k') ∧ vcInt op k a b K
  | .bool a, .bool b => (∃ ti, T t = some ti ∧ ti.kind = .bool) ∧ (match op with | .eql => K (.bool (a == b)) | .neq => K (.bool (!(a == b))) | _ => False)
  | .str a, .str b => match op with | .eql => K (.bool (a.toList == b.toList)) | .neq => K (.bool (!(a.toList == b.toList))) | _ => False
  | .ref _ _ _ _, .nilsl => (∃ ti e, T t = some ti ∧ ti.kind = .slice e) ∧ (match op with | .eql => K (.bool false) | .neq => K (.bool true) | _ => False)
  | .nilsl, .nilsl => (∃ ti e, T t = some ti ∧ ti.kind = .slice e) ∧ (match op with | .eql => K (.bool true) | .neq => K (.bool false) | _ => False)
  | .sl _ xs, .nilsl => 0 < xs.length ∧ (∃ ti e, T t = some ti ∧ ti.kind = .slice e) ∧ (match op with | .eql => K (.bool false) | .neq => K (.bool true) | _ => False)
  | _, _ => False

def bnd (x : Option CV) (d : Nat) (K : Nat → Prop) : Prop :=
  match x with
  | none => K d
  | some (.int _ n) => 0 ≤ n ∧ K n.toNat
  | _ => False

/-- A full slice from the beginning: s[:h:m]. -/
def vcSl3 (T : Tab) (t : TypeId) (x hi mx : CV) (K : CV → Prop) : Prop :=
  match T t with
  | some ti => match ti.kind, x, hi, mx with
    | .slice e, .ref r o _ c, .int _ h, .int _ m => 0 ≤ h ∧ h ≤ m ∧ m ≤ c ∧ (T e).isSome = true ∧ K (.ref r o h.toNat m.toNat)
    | .slice e, .nilsl, .int _ h, .int _ m => h = 0 ∧ m = 0 ∧ (T e).isSome = true ∧ K .nilsl
    | _, _, _, _ => False
  | none => False
def vcOp (T : Tab) (o : Op) (ev : Operand → CV) (H : Hp) (K : CV → Hp → Prop) : Prop :=
  match o with
  | .move x | .assign x => K (ev x) H
  | .pick c a b => match ev c with | .bool t => splitB t fun t => K (if t = true then ev a else ev b) H | _ => False
  | .alloc e => match T e with | some ti => ∀ r, H r = none → K (.ptr r 0) (H.set r (.cells (ti.zero.map TZ.cv))) | none => False
  | .box _ x => (ev x).stor = true ∧ ∀ r, H r = none → K (.ptr r 0) (H.set r (.cells (ev x).cells))
  | .build t parts => match T t with
    | some ti => match ti.kind with
      | .struct fs => ∃ cs, cfill (fun i => (fs[i]?).map fun f => (f.1, f.2.1)) (ti.zero.map TZ.cv) (parts.toList.map fun p => (p.1, ev p.2)) = some cs ∧ K (.agg cs) H
      | .arr _ e => match T e with
        | some te => ∃ cs, cfill (fun i => some (i * te.size, te.size)) (ti.zero.map TZ.cv) (parts.toList.map fun p => (p.1, ev p.2)) = some cs ∧ K (.agg cs) H
        | none => False
      | _ => False
    | none => False
  | .buildSlice t len parts => match T t with
    | some ti => match ti.kind with
      | .slice e => match T e with
        | some te => len * te.size ≤ 16777216 ∧ ∃ cs, cfill (fun i => some (i * te.size, te.size)) (zeroCs te.zero (len * te.size)) (parts.toList.map fun p => (p.1, ev p.2)) = some cs ∧ ∀ r, H r = none → K (.ref r 0 len len) (H.set r (.cells cs))
        | none => False
      | _ => False
    | none => False
  | .load t a => match T t with
    | some ti => match ev a with
      | .ptr r o => ∃ cs, H r = some (.cells cs) ∧ vcLoad ti cs o fun c => K c H
      | .iptr cs => vcLoad ti cs 0 fun c => K c H
      | _ => False
    | none => False
  | .store t a v => match T t with
    | some ti => match ev a with
      | .ptr r o => ∃ cs, H r = some (.cells cs) ∧ (ev v).stor = true ∧ (ev v).cells.length = ti.size ∧ o + ti.size ≤ cs.length ∧ K .any (H.set r (.cells (cs.take o ++ (ev v).cells ++ cs.drop (o + ti.size))))
      | _ => False
    | none => False
  | .nilCheck x => match ev x with
    | .ptr r o => K (.ptr r o) H
    | .iptr cs => K (.iptr cs) H
    | .func (.func g) a b => K (.func (.func g) a b) H
    | _ => False
  | .binOp op t x y _ => vcBin T op t (ev x) (ev y) fun c => K c H
  | .unOp op _ x => match op, ev x with
    | .not, .bool b => K (.bool (!b)) H
    | .neg, .int k n => ∃ z, k.wrap (0 - n) = z ∧ K (.int k z) H
    | _, _ => False
  | .convert src dst x => match T src, T dst, ev x with
    | some _, some td, .int _ n => (match td.kind with | .int k => ∃ z, k.wrap n = z ∧ K (.int k z) H | _ => False)
    | _, _, _ => False
  | .makeInterface t x => match T t with
    | some ti => ti.kind ≠ .ifc ∧ K (.iface t (ev x)) H
    | none => False
  | .makeFunc fn f c => K (.func fn (f.toList.map ev) (c.toList.map ev)) H
  | .makeSlice t l c => match T t with
    | some ti => match ti.kind with
      | .slice e => match T e with
        | some te => match ev l, ev c with
          | .int _ n, .int _ m => 0 ≤ n ∧ n ≤ m ∧ m * te.bytes ≤ 281474976710656 ∧ m ≤ 9223372036854775807 ∧ ∀ r, H r = none → K (.ref r 0 n.toNat m.toNat) (H.set r (.cells (zeroCs te.zero (m.toNat * te.size))))
          | _, _ => False
        | none => False
      | _ => False
    | none => False
  | .slice t x lo hi none => match T t with
    | some ti => match ti.kind with
      | .slice e => match T e with
        | some te => match ev x with
          | .sl sz xs => sz = te.size ∧ bnd (hi.map ev) xs.length fun h => h ≤ xs.length ∧ bnd (lo.map ev) 0 fun l => l ≤ h ∧ K (.sl sz ((xs.take h).drop l)) H
          | .ref r o n c => bnd (hi.map ev) n fun h => h ≤ c ∧ bnd (lo.map ev) 0 fun l => l ≤ h ∧ K (.ref r (if c = l then o else o + l * te.size) (h - l) (c - l)) H
          | .nilsl => bnd (hi.map ev) 0 fun h => h ≤ 0 ∧ bnd (lo.map ev) 0 fun l => l ≤ h ∧ K .nilsl H
          | _ => False
        | none => False
      | .str => match ev x with
        | .str s => bnd (hi.map ev) s.size fun h => h ≤ s.size ∧ bnd (lo.map ev) 0 fun l => l ≤ h ∧ K (.str (s.extract l h)) H
        | _ => False
      | _ => False
    | none => False
  | .slice t x none (some hi) (some mx) => vcSl3 T t (ev x) (ev hi) (ev mx) fun c => K c H
  | .fieldAddr t x f => match T t with
    | some ti => match ti.kind with
      | .struct fs => match fs[f]? with
        | some (off, size, _) => size ≠ 0 ∧ (match ev x with
          | .ptr r o => K (.ptr r (o + off)) H
          | .iptr cs => K (.iptr (cs.drop off)) H
          | _ => False)
        | none => False
      | _ => False
    | none => False
  | .field t x f => match T t with
    | some ti => match ti.kind with
      | .struct fs => match fs[f]? with
        | some (off, size, ag) => (match ev x with
          | .agg cs => if ag = true then off + size ≤ cs.length ∧ K (.agg ((cs.drop off).take size)) H else ∃ c, cs[off]? = some c ∧ K c H
          | _ => False)
        | none => False
      | _ => False
    | none => False
  | .indexAddr t x i => match T t with
    | some ti => match ti.kind with
      | .slice e => match T e, ev i with
        | some te, .int _ n => (match ev x with
          | .ref r o len _ => 0 ≤ n ∧ n < len ∧ K (.ptr r (o + n.toNat * te.size)) H
          | .sl sz xs => sz = te.size ∧ 0 ≤ n ∧ ∃ el, xs[n.toNat]? = some el ∧ K (.iptr el) H
          | _ => False)
        | _, _ => False
      | .arr len e => match T e, ev i with
        | some te, .int _ n => (match ev x with
          | .ptr r o => 0 ≤ n ∧ n < len ∧ K (.ptr r (o + n.toNat * te.size)) H
          | .iptr cs => 0 ≤ n ∧ n < len ∧ K (.iptr (cs.drop (n.toNat * te.size))) H
          | _ => False)
        | _, _ => False
      | _ => False
    | none => False
  | .index t x i => match T t with
    | some ti => match ti.kind, ev x, ev i with
      | .str, .str s, .int _ n => 0 ≤ n ∧ ∃ h : n.toNat < s.size, K (.int .u8 (s[n.toNat]).toNat) H
      | .arr len e, .agg cs, .int _ n => (match T e with
        | some te => te.kind.agg = false ∧ 0 ≤ n ∧ n < len ∧ ∃ c, cs[n.toNat * te.size]? = some c ∧ K c H
        | none => False)
      | _, _, _ => False
    | none => False
  | .extract x i => match ev x with
    | .tuple cs => ∃ c, cs[i]? = some c ∧ K c H
    | _ => False
  | _ => False

/-- What an operation comes to. -/
def GoodN (W : World) (F : Hp) (K : CV → Hp → Prop) (r : Result Next) : Prop :=
  ∃ nx w' c H', r = .ok nx w' ∧ ((∃ v, nx = .value v ∧ Rep W c v) ∨ (nx = .skip ∧ c = .any)) ∧ Disj H' F ∧ Held W (hun H' F) w' ∧ K c H'

section
variable {P : Program} {T : Tab} {W : World} {H F : Hp} {w : World} {K : CV → Hp → Prop}
theorem GoodV.next {s : Sem Value} (h : GoodV W F K (s.run P w)) : GoodN W F K ((do let v ← s; pure (Next.value v)).run P w) := by
  obtain ⟨v, w', c, H', hr, h1, h2, h3, h4⟩ := h
  exact ⟨.value v, w', c, H', by rw [Sem.run_bind, hr]; rfl, .inl ⟨v, rfl, h1⟩, h2, h3, h4⟩
theorem splice_toList (off : Nat) : ∀ (l : List Value) (k : Nat) (cells : Array Value), off + k + l.length ≤ cells.size →
    ((l.zipIdx k).foldl (fun cs (x : Value × Nat) => cs.setIfInBounds (off + x.2) x.1) cells).toList = cells.toList.take (off + k) ++ l ++ cells.toList.drop (off + k + l.length)
  | [], k, cells, _ => by simp
  | v :: r, k, cells, h => by
    have ih := splice_toList off r (k + 1) (cells.setIfInBounds (off + k) v) (by simp at h ⊢; omega)
    rw [List.zipIdx_cons, List.foldl_cons, ih]
    have e := list_seg_step cells.toList (off + k) v r (by simp at h ⊢; omega)
    simpa [Array.toList_setIfInBounds, Nat.add_assoc] using e
theorem fill_sound {place : Nat → Option (Nat × Nat)} : ∀ {ps : List (Nat × CV)} {vs : List (Nat × Value)} {cells : List CV} {cs : List CV} {arr : Array Value},
    cfill place cells ps = some cs → ps.length = vs.length → (∀ (i : Nat) p v, ps[i]? = some p → vs[i]? = some v → p.1 = v.1 ∧ Rep W p.2 v.2) → RepC W cells arr.toList → ∃ out, Instr.fill place arr vs = some out ∧ RepC W cs out.toList
  | [], [], cells, cs, arr, h, _, _, hr => by
    simp only [cfill, Option.some.injEq] at h
    subst h
    exact ⟨arr, rfl, hr⟩
  | (i, c) :: ps, (j, v) :: vs, cells, cs, arr, h, hl, hp, hr => by
    obtain ⟨e, hcv⟩ := hp 0 _ _ rfl rfl
    simp only at e hcv
    subst e
    unfold cfill at h
    unfold Instr.fill
    split at h
    · cases h
    · rename_i off size hpl
      simp only [hpl]
      split at h
      · rename_i hc
        obtain ⟨h1, h2, h3⟩ := hc
        have hcc := hcv.cells h1
        have hsz : v.cells.size = size := by rw [← h2]; exact (by simpa using hcc.1.1.symm)
        have hal : cells.length = arr.size := by simpa using hr.1.1
        have hif : (v.cells.size != size || decide (off + v.cells.size > arr.size)) = false := by
          rw [hsz]; simp; omega
        rw [if_neg (by rw [Bool.or_eq_true, not_or]; simp only [Bool.or_eq_false_iff] at hif ⊢; simpa using hif)]
        refine fill_sound h (by simpa using hl) (fun k p u hk hu => hp (k + 1) p u (by simpa using hk) (by simpa using hu)) ?_
        have es := splice_toList off v.cells.toList 0 arr (by simp; omega)
        rw [← Array.foldl_toList, Array.toList_zipIdx]
        have : (v.cells.toList.zipIdx.foldl (fun cs (x : Value × Nat) => cs.setIfInBounds (off + x.2) x.1) arr).toList = _ := es
        rw [show ((v.cells.toList.zipIdx.foldl (fun cs x => match x with | (c, j) => cs.setIfInBounds (off + j) c) arr).toList) = (v.cells.toList.zipIdx.foldl (fun cs (x : Value × Nat) => cs.setIfInBounds (off + x.2) x.1) arr).toList from rfl, this]
        rw [show (off + 0 + v.cells.toList.length) = off + size by simp [hsz], Nat.add_zero]
        exact ((hr.take off).append hcc).append (hr.drop (off + size))
      · cases h
  | [], _ :: _, _, _, _, _, hl, _, _ => by simp at hl
  | _ :: _, [], _, _, _, _, hl, _, _ => by simp at hl
theorem Held.setRow {H : Hp} (h : Held W H w) {r : Nat} {cs cs' : List CV} {arr : Array Value} (hr : H r = some (.cells cs)) (hc : RepC W cs' arr.toList) : Held W (H.set r (.cells cs')) (w.setRow r arr) := by
  obtain ⟨hb, ob, hob, c, t, rfl, _⟩ := h.at_ r _ hr
  refine ⟨h.below.trans ⟨rfl, rfl, rfl, by simp, fun k hk => setRow_other w r k arr (by omega)⟩, fun i o ho => ?_⟩
  by_cases e : i = r
  · subst e
    simp only [Hp.set, if_true, Option.some.injEq] at ho
    subst ho
    exact ⟨hb, _, setRow_heap w i c arr t (0, 0) hob, arr, t, rfl, hc⟩
  · simp only [Hp.set, if_neg e] at ho
    obtain ⟨h1, ob', h2, h3⟩ := h.at_ i o ho
    exact ⟨h1, ob', by rw [setRow_other w r i arr e]; exact h2, h3⟩
theorem good_store {t : TypeId} {ti : TI} (f : TFact P t ti) (hd : Disj H F) (hh : Held W (hun H F) w) {r o : Nat} {cs : List CV} {c : CV} {v : Value} (hr : H r = some (.cells cs)) (hv : Rep W c v) (h1 : c.stor = true) (h2 : c.cells.length = ti.size) (h3 : o + ti.size ≤ cs.length)
    (h : K .any (H.set r (.cells (cs.take o ++ c.cells ++ cs.drop (o + ti.size))))) : GoodN W F K ((do Instr.storeAt t (.pointer (some ⟨r, o, none⟩)) v; pure Next.skip).run P w) := by
  obtain ⟨arr, t', hb, hc⟩ := hh.cellsAt (hun_left hr)
  have hcc := hv.cells h1
  have hsz : v.cells.size = ti.size := by rw [← h2]; exact (by simpa using hcc.1.1.symm)
  have hal : cs.length = arr.size := by simpa using hc.1.1
  have hst := run_storeCells_at P r o t' v.cells.toList 0 arr w hb (by simp; omega) (fun u hu => by obtain ⟨i, hi⟩ := List.mem_iff_getElem?.1 hu; exact hcc.2 i u hi)
  refine ⟨.skip, w.setRow r (arr.toList.take o ++ v.cells.toList ++ arr.toList.drop (o + ti.size)).toArray, .any, H.set r (.cells (cs.take o ++ c.cells ++ cs.drop (o + ti.size))), ?_, .inr ⟨rfl, rfl⟩, disj_set_old hd hr, ?_, h⟩
  · simp only [Sem.run_bind, Instr.storeAt, Instr.sureAddr, Sem.run_pure, Result.andThen_ok, storeVar, f.size, hsz]
    simp only [Nat.add_zero, Array.length_toList, hsz] at hst
    simp [hst]
  · rw [hun_set]
    refine hh.setRow (hun_left hr) ?_
    simpa using ((hc.take o).append hcc).append (hc.drop (o + ti.size))
end
end Go.Cl
