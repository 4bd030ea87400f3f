/- DERIVED HERE. Clean values over the machine's values, partial heaps, what a world holds: the ground of the clean layer. -/
import Derived.RangeFuncLeaves
import Derived.Below
import Derived.WalkKit
namespace Go.Cl
open Go.RowKit

/-- Clean values: what the walk computes with. 'sl', 'iptr': memory that was there at the call and that nobody writes (deep); 'ref', 'ptr': blocks that the call has made. -/
inductive CV where
  | any
  | bool (b : Bool)
  | int (k : IntKind) (n : Int)
  | str (s : ByteArray)
  | nilptr
  | ptr (r o : Nat)
  | iptr (cs : List CV)
  | nilsl
  | ref (r o n c : Nat)
  | sl (sz : Nat) (xs : List (List CV))
  | func (fn : Fn) (first captured : List CV)
  | nilfunc
  | nilif
  | iface (t : TypeId) (v : CV)
  | agg (cs : List CV)
  | tuple (cs : List CV)
  | nilmap
  | map (r : Nat)
  deriving Inhabited

def CV.cells : CV → List CV
  | .agg cs => cs
  | v => [v]
/-- Surely one cell (an aggregate's cells are of themselves). -/
def CV.one : CV → Bool
  | .any | .agg _ | .tuple _ => false
  | _ => true
def CV.stor : CV → Bool
  | .any | .tuple _ => false
  | _ => true

inductive Rep (W : World) : CV → Value → Prop
  | any (v : Value) : Rep W .any v
  | bool (b : Bool) : Rep W (.bool b) (.bool b)
  | int (k : IntKind) (n : Int) : Rep W (.int k n) (.int k n)
  | str (s : ByteArray) : Rep W (.str s) (.string s)
  | nilptr : Rep W .nilptr (.pointer none)
  | ptr (r o : Nat) : Rep W (.ptr r o) (.pointer (some ⟨r, o, none⟩))
  | iptr (cs : List CV) (ad : Addr) (vs : Nat → Value) (hc : ∀ j, j < cs.length → W.cell? (ad.add j) = some (vs j) ∧ (vs j).oneCell' = true)
      (hr : ∀ j x, cs[j]? = some x → Rep W x (vs j)) : Rep W (.iptr cs) (.pointer (some ad))
  | nilsl : Rep W .nilsl (.slice none 0 0)
  | ref (r o n c : Nat) : Rep W (.ref r o n c) (.slice (some ⟨r, o, none⟩) n c)
  | sl (sz : Nat) (xs : List (List CV)) (A : Option Addr) (c : Nat) (vs : Nat → Nat → Value) (hn : xs.length ≤ c) (hz : ∀ (i : Nat) e, xs[i]? = some e → e.length = sz)
      (hc : ∀ i j, i < xs.length → j < sz → ∃ ad, A = some ad ∧ W.cell? (ad.add (i * sz + j)) = some (vs i j) ∧ (vs i j).oneCell' = true)
      (hA : 0 < xs.length → ∃ ad, A = some ad)
      (hr : ∀ (i j : Nat) e x, xs[i]? = some e → e[j]? = some x → Rep W x (vs i j)) : Rep W (.sl sz xs) (.slice A xs.length c)
  | func (fn : Fn) (f c : List CV) (fv cv : Array Value) (hf : f.length = fv.size) (hc : c.length = cv.size)
      (hfr : ∀ (i : Nat) x v, f[i]? = some x → fv[i]? = some v → Rep W x v) (hcr : ∀ (i : Nat) x v, c[i]? = some x → cv[i]? = some v → Rep W x v) : Rep W (.func fn f c) (.func fn fv cv)
  | nilfunc : Rep W .nilfunc .nilFunc
  | nilif : Rep W .nilif .nilIface
  | iface (t : TypeId) (c : CV) (v : Value) (h : Rep W c v) : Rep W (.iface t c) (.iface t v)
  | agg (cs : List CV) (vs : Array Value) (hl : cs.length = vs.size) (ho : ∀ (i : Nat) v, vs[i]? = some v → v.oneCell' = true) (hr : ∀ (i : Nat) x v, cs[i]? = some x → vs[i]? = some v → Rep W x v) : Rep W (.agg cs) (.agg vs)
  | tuple (cs : List CV) (vs : Array Value) (hl : cs.length = vs.size) (hr : ∀ (i : Nat) x v, cs[i]? = some x → vs[i]? = some v → Rep W x v) : Rep W (.tuple cs) (.tuple vs)
  | nilmap : Rep W .nilmap (.map none)
  | map (r : Nat) : Rep W (.map r) (.map (some r))

def RepL (W : World) (cs : List CV) (vs : List Value) : Prop := cs.length = vs.length ∧ ∀ (i : Nat) x v, cs[i]? = some x → vs[i]? = some v → Rep W x v
/-- As RepL, each value one cell. -/
def RepC (W : World) (cs : List CV) (vs : List Value) : Prop := RepL W cs vs ∧ ∀ (i : Nat) v, vs[i]? = some v → v.oneCell' = true

abbrev Env := Nat → CV
def Env.set (e : Env) (t : Nat) (v : CV) : Env := fun i => if i = t then v else e i
def Env.put (e : Env) (t : Option Nat) (v : CV) : Env := match t with | some d => e.set d v | none => e

inductive Ob where
  | cells (cs : List CV)
  | loop (N : Nat) (st : LoopState) (pend : Option Code) (fn : FuncId) (env : Env) (ps : Array Tmp) (asg body : Code) (d : Nat)
  | dfr
abbrev Hp := Nat → Option Ob
def Hp.set (H : Hp) (r : Nat) (o : Ob) : Hp := fun i => if i = r then some o else H i
def hun (H F : Hp) : Hp := fun r => (H r).or (F r)
def Disj (H F : Hp) : Prop := ∀ r, H r = none ∨ F r = none

/-- The temporaries: N of them, each as the environment tells. -/
def RepE (W : World) (N : Nat) (e : Env) (ts : Array Value) : Prop := ts.size = N ∧ ∀ t, t < N → Rep W (e t) (ts.getD t undef)

def RepOb (W : World) : Ob → Obj → Prop
  | .cells cs, o => ∃ c t, o = .cells c t (0, 0) ∧ RepC W cs c.toList
  | .loop N st pend fn env ps asg body d, o => ∃ ts, o = .loop { state := st, pending := pend, fn := fn, tmps := ts, params := ps, assign := asg, body := body, defers := d } ∧ RepE W N env ts
  | .dfr, o => o = .deferred (some [])

structure Held (W : World) (H : Hp) (w : World) : Prop where
  below : Below W.heap.size W w
  at_ : ∀ r o, H r = some o → W.heap.size ≤ r ∧ ∃ ob, w.heap[r]? = some ob ∧ RepOb W o ob

theorem Held.lt {W w : World} {H : Hp} (h : Held W H w) {r : Nat} {o : Ob} (hr : H r = some o) : r < w.heap.size := by
  obtain ⟨_, ob, hb, _⟩ := h.at_ r o hr
  exact (Array.getElem?_eq_some_iff.1 hb).1
theorem Held.fresh {W w : World} {H : Hp} (h : Held W H w) : H w.heap.size = none := by
  cases hr : H w.heap.size with
  | none => rfl
  | some o => exact absurd (h.lt hr) (Nat.lt_irrefl _)
theorem Held.le {W w : World} {H H' : Hp} (h : Held W H w) (hl : ∀ r o, H' r = some o → H r = some o) : Held W H' w := ⟨h.below, fun r o hr => h.at_ r o (hl r o hr)⟩
theorem hun_none {H F : Hp} {r : Nat} : hun H F r = none ↔ H r = none ∧ F r = none := by simp [hun, Option.or_eq_none_iff]
theorem hun_left {H F : Hp} {r : Nat} {o : Ob} (h : H r = some o) : hun H F r = some o := by simp [hun, h]
theorem hun_set {H F : Hp} {r : Nat} {o : Ob} : hun (H.set r o) F = (hun H F).set r o := by
  funext i
  simp only [hun, Hp.set]
  split <;> simp
theorem disj_set_new {H F : Hp} {r : Nat} {o : Ob} (h : Disj H F) (hr : F r = none) : Disj (H.set r o) F := by
  intro i
  by_cases e : i = r
  · subst e; exact .inr hr
  · rcases h i with h | h
    · exact .inl (by simp [Hp.set, e, h])
    · exact .inr h
theorem disj_set_old {H F : Hp} {r : Nat} {o o' : Ob} (h : Disj H F) (hr : H r = some o') : Disj (H.set r o) F :=
  disj_set_new h ((h r).resolve_left (by simp [hr]))
theorem Held.alloc {W w : World} {H : Hp} (h : Held W H w) {o : Ob} {ob : Obj} (ho : RepOb W o ob) : Held W (H.set w.heap.size o) (w.alloc ob) := by
  refine ⟨h.below.alloc h.below.size ob, fun r o' hr => ?_⟩
  by_cases e : r = w.heap.size
  · subst e
    simp only [Hp.set, if_true] at hr
    injection hr with hr
    subst hr
    exact ⟨h.below.size, ob, by show (w.heap.push ob)[_]? = _; simp, ho⟩
  · simp only [Hp.set, if_neg e] at hr
    obtain ⟨h1, ob', h2, h3⟩ := h.at_ r o' hr
    exact ⟨h1, ob', by rw [Below.heap_alloc _ _ _ (h.lt hr)]; exact h2, h3⟩
theorem Held.drew {W w : World} {H : Hp} (h : Held W H w) : Held W H w.drew := ⟨h.below.drew, h.at_⟩

theorem RepL.nil (W : World) : RepL W [] [] := ⟨rfl, fun i x v h => by simp at h⟩
theorem RepL.cons {W : World} {x : CV} {v : Value} {cs : List CV} {vs : List Value} (h : Rep W x v) (k : RepL W cs vs) : RepL W (x :: cs) (v :: vs) := by
  refine ⟨by simp [k.1], fun i y u hy hu => ?_⟩
  cases i with
  | zero => simp at hy hu; subst hy; subst hu; exact h
  | succ i => simp at hy hu; exact k.2 i y u hy hu
theorem RepL.append {W : World} {cs ds : List CV} {vs us : List Value} (h : RepL W cs vs) (k : RepL W ds us) : RepL W (cs ++ ds) (vs ++ us) := by
  refine ⟨by simp [h.1, k.1], fun i x v hx hv => ?_⟩
  rcases Nat.lt_or_ge i cs.length with hi | hi
  · rw [List.getElem?_append_left hi] at hx
    rw [List.getElem?_append_left (by rw [← h.1]; exact hi)] at hv
    exact h.2 i x v hx hv
  · rw [List.getElem?_append_right hi] at hx
    rw [List.getElem?_append_right (by rw [← h.1]; exact hi), ← h.1] at hv
    exact k.2 _ x v hx hv
theorem RepL.take {W : World} {cs : List CV} {vs : List Value} (h : RepL W cs vs) (n : Nat) : RepL W (cs.take n) (vs.take n) := by
  refine ⟨by simp [h.1], fun i x v hx hv => ?_⟩
  rw [List.getElem?_take] at hx hv
  split at hx
  · rename_i hi
    rw [if_pos hi] at hv
    exact h.2 i x v hx hv
  · cases hx
theorem RepL.drop {W : World} {cs : List CV} {vs : List Value} (h : RepL W cs vs) (n : Nat) : RepL W (cs.drop n) (vs.drop n) := by
  refine ⟨by simp [h.1], fun i x v hx hv => ?_⟩
  rw [List.getElem?_drop] at hx hv
  exact h.2 _ x v hx hv
theorem RepL.set {W : World} {cs : List CV} {vs : List Value} (h : RepL W cs vs) (n : Nat) {x : CV} {v : Value} (hx : Rep W x v) : RepL W (cs.set n x) (vs.set n v) := by
  refine ⟨by simp [h.1], fun i y u hy hu => ?_⟩
  rw [List.getElem?_set] at hy hu
  split at hy
  · rename_i e
    rw [if_pos e] at hu
    split at hy
    · rw [if_pos (by rw [← h.1]; assumption)] at hu
      injection hy with hy; injection hu with hu; subst hy; subst hu; exact hx
    · cases hy
  · rename_i e
    rw [if_neg e] at hu
    exact h.2 i y u hy hu
theorem RepC.nil (W : World) : RepC W [] [] := ⟨RepL.nil W, fun i v h => by simp at h⟩
theorem RepC.cons {W : World} {x : CV} {v : Value} {cs : List CV} {vs : List Value} (h : Rep W x v) (h1 : v.oneCell' = true) (k : RepC W cs vs) : RepC W (x :: cs) (v :: vs) := by
  refine ⟨RepL.cons h k.1, fun i u hu => ?_⟩
  cases i with
  | zero => simp at hu; subst hu; exact h1
  | succ i => simp at hu; exact k.2 i u hu
theorem RepC.append {W : World} {cs ds : List CV} {vs us : List Value} (h : RepC W cs vs) (k : RepC W ds us) : RepC W (cs ++ ds) (vs ++ us) := by
  refine ⟨h.1.append k.1, fun i v hv => ?_⟩
  rcases Nat.lt_or_ge i vs.length with hi | hi
  · rw [List.getElem?_append_left hi] at hv; exact h.2 i v hv
  · rw [List.getElem?_append_right hi] at hv; exact k.2 _ v hv
theorem RepC.take {W : World} {cs : List CV} {vs : List Value} (h : RepC W cs vs) (n : Nat) : RepC W (cs.take n) (vs.take n) := by
  refine ⟨h.1.take n, fun i v hv => ?_⟩
  rw [List.getElem?_take] at hv
  split at hv
  · exact h.2 i v hv
  · cases hv
theorem RepC.drop {W : World} {cs : List CV} {vs : List Value} (h : RepC W cs vs) (n : Nat) : RepC W (cs.drop n) (vs.drop n) :=
  ⟨h.1.drop n, fun i v hv => by rw [List.getElem?_drop] at hv; exact h.2 _ v hv⟩
theorem RepC.set {W : World} {cs : List CV} {vs : List Value} (h : RepC W cs vs) (n : Nat) {x : CV} {v : Value} (hx : Rep W x v) (h1 : v.oneCell' = true) : RepC W (cs.set n x) (vs.set n v) := by
  refine ⟨h.1.set n hx, fun i u hu => ?_⟩
  rw [List.getElem?_set] at hu
  split at hu
  · split at hu
    · injection hu with hu; subst hu; exact h1
    · cases hu
  · exact h.2 i u hu
theorem Rep.one {W : World} {c : CV} {v : Value} (h : Rep W c v) (h1 : c.one = true) : v.oneCell' = true ∧ v.cells = #[v] ∧ c.cells = [c] := by
  cases h <;> first | exact ⟨rfl, rfl, rfl⟩ | (simp [CV.one] at h1; done)
theorem Rep.cells {W : World} {c : CV} {v : Value} (h : Rep W c v) (h1 : c.stor = true) : RepC W c.cells v.cells.toList := by
  cases h with
  | any v => simp [CV.stor] at h1
  | tuple cs vs => simp [CV.stor] at h1
  | agg cs vs hl ho hr => exact ⟨⟨by simpa [CV.cells, Value.cells] using hl, fun i x v hx hv => hr i x v hx (by simpa [Value.cells] using hv)⟩, fun i v hv => ho i v (by simpa [Value.cells] using hv)⟩
  | _ => exact RepC.cons (by constructor <;> assumption) rfl (RepC.nil W)
theorem Rep.mkagg {W : World} {cs : List CV} {vs : Array Value} (h : RepC W cs vs.toList) : Rep W (.agg cs) (.agg vs) :=
  .agg cs vs (by simpa using h.1.1) (fun i v hv => h.2 i v (by simpa using hv)) (fun i x v hx hv => h.1.2 i x v hx (by simpa using hv))
theorem Rep.mktuple {W : World} {cs : List CV} {vs : Array Value} (h : RepL W cs vs.toList) : Rep W (.tuple cs) (.tuple vs) :=
  .tuple cs vs (by simpa using h.1) (fun i x v hx hv => h.2 i x v hx (by simpa using hv))

theorem RepE.put {W : World} {N : Nat} {e : Env} {ts : Array Value} (h : RepE W N e ts) {d : Nat} (hd : d < N) {c : CV} {v : Value} (hc : Rep W c v) : RepE W N (e.set d c) (ts.setIfInBounds d v) := by
  refine ⟨by simp [h.1], fun t ht => ?_⟩
  have h2 := h.2 t ht
  simp only [Env.set]
  rw [Array.getD_eq_getD_getElem?, Array.getElem?_setIfInBounds]
  by_cases e : t = d
  · subst e
    rw [if_pos rfl, if_pos rfl, if_pos (by rw [h.1]; exact ht)]
    exact hc
  · rw [if_neg e, if_neg (fun h => e h.symm), ← Array.getD_eq_getD_getElem?]
    exact h2

/-- A constant's clean value. -/
def cvOf : Value → CV
  | .bool b => .bool b
  | .int k n => .int k n
  | .string s => .str s
  | .pointer none => .nilptr
  | .slice none 0 0 => .nilsl
  | .nilFunc => .nilfunc
  | .nilIface => .nilif
  | .map none => .nilmap
  | _ => .any
theorem rep_cvOf (W : World) (v : Value) : Rep W (cvOf v) v := by
  unfold cvOf
  split <;> constructor
def cvsOf (vs : List Value) : List CV := vs.map cvOf
theorem repL_cvsOf (W : World) (vs : List Value) : RepL W (cvsOf vs) vs := by
  refine ⟨by simp [cvsOf], fun i x v hx hv => ?_⟩
  simp only [cvsOf, List.getElem?_map, hv, Option.map_some, Option.some.injEq] at hx
  subst hx
  exact rep_cvOf W v
end Go.Cl
