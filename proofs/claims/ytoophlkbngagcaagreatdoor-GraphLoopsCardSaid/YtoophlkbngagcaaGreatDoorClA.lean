/- DERIVED HERE. Clean values over the machine's values, partial heaps, what a world holds: the ground of the clean layer. DERIVED HERE. The clean layer's logic: code, calls and rounds over what a world holds, with a frame; the rules for code. DERIVED HERE. The clean layer's table of types; what single operations do to what a world holds. DERIVED HERE. The clean layer's operations: what each asks and hands on ('vcOp'), and that the machine's operation does so. -/
import Derived.RangeFuncLeaves
import Derived.Below
import Derived.WalkKit
import Derived.RangeFuncCalls
namespace Go.Cl
open Go.RowKit

/-- Clean values: what the walk computes with. 'sl', 'iptr': memory that was there at the call and that nobody writes (deep); 'ref', 'ptr': blocks that the call has made. -/
inductive CV where
  | any
  | bool (b : Bool)
  | int (k : IntKind) (n : Int)
  | str (s : ByteArray)
  | nilptr
  | ptr (r o : Nat)
  | iptr (cs : List CV)
  | nilsl
  | ref (r o n c : Nat)
  | sl (sz : Nat) (xs : List (List CV))
  | func (fn : Fn) (first captured : List CV)
  | nilfunc
  | nilif
  | iface (t : TypeId) (v : CV)
  | agg (cs : List CV)
  | tuple (cs : List CV)
  | nilmap
  | map (r : Nat)
  deriving Inhabited

def CV.cells : CV → List CV
  | .agg cs => cs
  | v => [v]
/-- Surely one cell (an aggregate's cells are of themselves). -/
def CV.one : CV → Bool
  | .any | .agg _ | .tuple _ => false
  | _ => true
def CV.stor : CV → Bool
  | .any | .tuple _ => false
  | _ => true

inductive Rep (W : World) : CV → Value → Prop
  | any (v : Value) : Rep W .any v
  | bool (b : Bool) : Rep W (.bool b) (.bool b)
  | int (k : IntKind) (n : Int) : Rep W (.int k n) (.int k n)
  | str (s : ByteArray) : Rep W (.str s) (.string s)
  | nilptr : Rep W .nilptr (.pointer none)
  | ptr (r o : Nat) : Rep W (.ptr r o) (.pointer (some ⟨r, o, none⟩))
  | iptr (cs : List CV) (ad : Addr) (vs : Nat → Value) (hc : ∀ j, j < cs.length → W.cell? (ad.add j) = some (vs j) ∧ (vs j).oneCell' = true)
      (hr : ∀ j x, cs[j]? = some x → Rep W x (vs j)) : Rep W (.iptr cs) (.pointer (some ad))
  | nilsl : Rep W .nilsl (.slice none 0 0)
  | ref (r o n c : Nat) : Rep W (.ref r o n c) (.slice (some ⟨r, o, none⟩) n c)
  | sl (sz : Nat) (xs : List (List CV)) (A : Option Addr) (c : Nat) (vs : Nat → Nat → Value) (hn : xs.length ≤ c) (hz : ∀ (i : Nat) e, xs[i]? = some e → e.length = sz)
      (hc : ∀ i j, i < xs.length → j < sz → ∃ ad, A = some ad ∧ W.cell? (ad.add (i * sz + j)) = some (vs i j) ∧ (vs i j).oneCell' = true)
      (hA : 0 < xs.length → ∃ ad, A = some ad)
      (hr : ∀ (i j : Nat) e x, xs[i]? = some e → e[j]? = some x → Rep W x (vs i j)) : Rep W (.sl sz xs) (.slice A xs.length c)
  | func (fn : Fn) (f c : List CV) (fv cv : Array Value) (hf : f.length = fv.size) (hc : c.length = cv.size)
      (hfr : ∀ (i : Nat) x v, f[i]? = some x → fv[i]? = some v → Rep W x v) (hcr : ∀ (i : Nat) x v, c[i]? = some x → cv[i]? = some v → Rep W x v) : Rep W (.func fn f c) (.func fn fv cv)
  | nilfunc : Rep W .nilfunc .nilFunc
  | nilif : Rep W .nilif .nilIface
  | iface (t : TypeId) (c : CV) (v : Value) (h : Rep W c v) : Rep W (.iface t c) (.iface t v)
  | agg (cs : List CV) (vs : Array Value) (hl : cs.length = vs.size) (ho : ∀ (i : Nat) v, vs[i]? = some v → v.oneCell' = true) (hr : ∀ (i : Nat) x v, cs[i]? = some x → vs[i]? = some v → Rep W x v) : Rep W (.agg cs) (.agg vs)
  | tuple (cs : List CV) (vs : Array Value) (hl : cs.length = vs.size) (hr : ∀ (i : Nat) x v, cs[i]? = some x → vs[i]? = some v → Rep W x v) : Rep W (.tuple cs) (.tuple vs)
  | nilmap : Rep W .nilmap (.map none)
  | map (r : Nat) : Rep W (.map r) (.map (some r))

def RepL (W : World) (cs : List CV) (vs : List Value) : Prop := cs.length = vs.length ∧ ∀ (i : Nat) x v, cs[i]? = some x → vs[i]? = some v → Rep W x v
/-- As RepL, each value one cell. -/
def RepC (W : World) (cs : List CV) (vs : List Value) : Prop := RepL W cs vs ∧ ∀ (i : Nat) v, vs[i]? = some v → v.oneCell' = true

abbrev Env := Nat → CV
def Env.set (e : Env) (t : Nat) (v : CV) : Env := fun i => if i = t then v else e i
def Env.put (e : Env) (t : Option Nat) (v : CV) : Env := match t with | some d => e.set d v | none => e

inductive Ob where
  | cells (cs : List CV)
  | loop (N : Nat) (st : LoopState) (pend : Option Code) (fn : FuncId) (env : Env) (ps : Array Tmp) (asg body : Code) (d : Nat)
  | dfr
  | imap (k : IntKind) (es : List (Int × Nat × CV)) (clk : Nat)
  | miter (m since : Nat) (seen : List Nat) (last : Nat)
abbrev Hp := Nat → Option Ob
def Hp.set (H : Hp) (r : Nat) (o : Ob) : Hp := fun i => if i = r then some o else H i
def hun (H F : Hp) : Hp := fun r => (H r).or (F r)
def Disj (H F : Hp) : Prop := ∀ r, H r = none ∨ F r = none

/-- The temporaries: N of them, each as the environment tells. -/
def RepE (W : World) (N : Nat) (e : Env) (ts : Array Value) : Prop := ts.size = N ∧ ∀ t, t < N → Rep W (e t) (ts.getD t undef)

def RepOb (W : World) : Ob → Obj → Prop
  | .cells cs, o => ∃ c t, o = .cells c t (0, 0) ∧ RepC W cs c.toList
  | .loop N st pend fn env ps asg body d, o => ∃ ts, o = .loop { state := st, pending := pend, fn := fn, tmps := ts, params := ps, assign := asg, body := body, defers := d } ∧ RepE W N env ts
  | .dfr, o => o = .deferred (some [])
  | .imap k es clk, o => ∃ arr : Array MapEntry, o = .map arr clk ∧ arr.toList.length = es.length ∧ ∀ (i : Nat) e v, es[i]? = some e → arr.toList[i]? = some v → v.key = .int k e.1 ∧ v.born = e.2.1 ∧ Rep W e.2.2 v.val
  | .miter m since seen last, o => o = .mapIter (some m) since seen.toArray last

structure Held (W : World) (H : Hp) (w : World) : Prop where
  below : Below W.heap.size W w
  at_ : ∀ r o, H r = some o → W.heap.size ≤ r ∧ ∃ ob, w.heap[r]? = some ob ∧ RepOb W o ob

theorem Held.lt {W w : World} {H : Hp} (h : Held W H w) {r : Nat} {o : Ob} (hr : H r = some o) : r < w.heap.size := by
  obtain ⟨_, ob, hb, _⟩ := h.at_ r o hr
  exact (Array.getElem?_eq_some_iff.1 hb).1
theorem Held.fresh {W w : World} {H : Hp} (h : Held W H w) : H w.heap.size = none := by
  cases hr : H w.heap.size with
  | none => rfl
  | some o => exact absurd (h.lt hr) (Nat.lt_irrefl _)
theorem Held.le {W w : World} {H H' : Hp} (h : Held W H w) (hl : ∀ r o, H' r = some o → H r = some o) : Held W H' w := ⟨h.below, fun r o hr => h.at_ r o (hl r o hr)⟩
theorem hun_none {H F : Hp} {r : Nat} : hun H F r = none ↔ H r = none ∧ F r = none := by simp [hun, Option.or_eq_none_iff]
theorem hun_left {H F : Hp} {r : Nat} {o : Ob} (h : H r = some o) : hun H F r = some o := by simp [hun, h]
theorem hun_set {H F : Hp} {r : Nat} {o : Ob} : hun (H.set r o) F = (hun H F).set r o := by
  funext i
  simp only [hun, Hp.set]
  split <;> simp
theorem disj_set_new {H F : Hp} {r : Nat} {o : Ob} (h : Disj H F) (hr : F r = none) : Disj (H.set r o) F := by
  intro i
  by_cases e : i = r
  · subst e; exact .inr hr
  · rcases h i with h | h
    · exact .inl (by simp [Hp.set, e, h])
    · exact .inr h
theorem disj_set_old {H F : Hp} {r : Nat} {o o' : Ob} (h : Disj H F) (hr : H r = some o') : Disj (H.set r o) F :=
  disj_set_new h ((h r).resolve_left (by simp [hr]))
theorem Held.alloc {W w : World} {H : Hp} (h : Held W H w) {o : Ob} {ob : Obj} (ho : RepOb W o ob) : Held W (H.set w.heap.size o) (w.alloc ob) := by
  refine ⟨h.below.alloc h.below.size ob, fun r o' hr => ?_⟩
  by_cases e : r = w.heap.size
  · subst e
    simp only [Hp.set, if_true] at hr
    injection hr with hr
    subst hr
    exact ⟨h.below.size, ob, by show (w.heap.push ob)[_]? = _; simp, ho⟩
  · simp only [Hp.set, if_neg e] at hr
    obtain ⟨h1, ob', h2, h3⟩ := h.at_ r o' hr
    exact ⟨h1, ob', by rw [Below.heap_alloc _ _ _ (h.lt hr)]; exact h2, h3⟩
theorem Held.drew {W w : World} {H : Hp} (h : Held W H w) : Held W H w.drew := ⟨h.below.drew, h.at_⟩

theorem RepL.nil (W : World) : RepL W [] [] := ⟨rfl, fun i x v h => by simp at h⟩
theorem RepL.cons {W : World} {x : CV} {v : Value} {cs : List CV} {vs : List Value} (h : Rep W x v) (k : RepL W cs vs) : RepL W (x :: cs) (v :: vs) := by
  refine ⟨by simp [k.1], fun i y u hy hu => ?_⟩
  cases i with
  | zero => simp at hy hu; subst hy; subst hu; exact h
  | succ i => simp at hy hu; exact k.2 i y u hy hu
theorem RepL.append {W : World} {cs ds : List CV} {vs us : List Value} (h : RepL W cs vs) (k : RepL W ds us) : RepL W (cs ++ ds) (vs ++ us) := by
  refine ⟨by simp [h.1, k.1], fun i x v hx hv => ?_⟩
  rcases Nat.lt_or_ge i cs.length with hi | hi
  · rw [List.getElem?_append_left hi] at hx
    rw [List.getElem?_append_left (by rw [← h.1]; exact hi)] at hv
    exact h.2 i x v hx hv
  · rw [List.getElem?_append_right hi] at hx
    rw [List.getElem?_append_right (by rw [← h.1]; exact hi), ← h.1] at hv
    exact k.2 _ x v hx hv
theorem RepL.take {W : World} {cs : List CV} {vs : List Value} (h : RepL W cs vs) (n : Nat) : RepL W (cs.take n) (vs.take n) := by
  refine ⟨by simp [h.1], fun i x v hx hv => ?_⟩
  rw [List.getElem?_take] at hx hv
  split at hx
  · rename_i hi
    rw [if_pos hi] at hv
    exact h.2 i x v hx hv
  · cases hx
theorem RepL.drop {W : World} {cs : List CV} {vs : List Value} (h : RepL W cs vs) (n : Nat) : RepL W (cs.drop n) (vs.drop n) := by
  refine ⟨by simp [h.1], fun i x v hx hv => ?_⟩
  rw [List.getElem?_drop] at hx hv
  exact h.2 _ x v hx hv
theorem RepL.set {W : World} {cs : List CV} {vs : List Value} (h : RepL W cs vs) (n : Nat) {x : CV} {v : Value} (hx : Rep W x v) : RepL W (cs.set n x) (vs.set n v) := by
  refine ⟨by simp [h.1], fun i y u hy hu => ?_⟩
  rw [List.getElem?_set] at hy hu
  split at hy
  · rename_i e
    rw [if_pos e] at hu
    split at hy
    · rw [if_pos (by rw [← h.1]; assumption)] at hu
      injection hy with hy; injection hu with hu; subst hy; subst hu; exact hx
    · cases hy
  · rename_i e
    rw [if_neg e] at hu
    exact h.2 i y u hy hu
theorem RepC.nil (W : World) : RepC W [] [] := ⟨RepL.nil W, fun i v h => by simp at h⟩
theorem RepC.cons {W : World} {x : CV} {v : Value} {cs : List CV} {vs : List Value} (h : Rep W x v) (h1 : v.oneCell' = true) (k : RepC W cs vs) : RepC W (x :: cs) (v :: vs) := by
  refine ⟨RepL.cons h k.1, fun i u hu => ?_⟩
  cases i with
  | zero => simp at hu; subst hu; exact h1
  | succ i => simp at hu; exact k.2 i u hu
theorem RepC.append {W : World} {cs ds : List CV} {vs us : List Value} (h : RepC W cs vs) (k : RepC W ds us) : RepC W (cs ++ ds) (vs ++ us) := by
  refine ⟨h.1.append k.1, fun i v hv => ?_⟩
  rcases Nat.lt_or_ge i vs.length with hi | hi
  · rw [List.getElem?_append_left hi] at hv; exact h.2 i v hv
  · rw [List.getElem?_append_right hi] at hv; exact k.2 _ v hv
theorem RepC.take {W : World} {cs : List CV} {vs : List Value} (h : RepC W cs vs) (n : Nat) : RepC W (cs.take n) (vs.take n) := by
  refine ⟨h.1.take n, fun i v hv => ?_⟩
  rw [List.getElem?_take] at hv
  split at hv
  · exact h.2 i v hv
  · cases hv
theorem RepC.drop {W : World} {cs : List CV} {vs : List Value} (h : RepC W cs vs) (n : Nat) : RepC W (cs.drop n) (vs.drop n) :=
  ⟨h.1.drop n, fun i v hv => by rw [List.getElem?_drop] at hv; exact h.2 _ v hv⟩
theorem RepC.set {W : World} {cs : List CV} {vs : List Value} (h : RepC W cs vs) (n : Nat) {x : CV} {v : Value} (hx : Rep W x v) (h1 : v.oneCell' = true) : RepC W (cs.set n x) (vs.set n v) := by
  refine ⟨h.1.set n hx, fun i u hu => ?_⟩
  rw [List.getElem?_set] at hu
  split at hu
  · split at hu
    · injection hu with hu; subst hu; exact h1
    · cases hu
  · exact h.2 i u hu
theorem Rep.one {W : World} {c : CV} {v : Value} (h : Rep W c v) (h1 : c.one = true) : v.oneCell' = true ∧ v.cells = #[v] ∧ c.cells = [c] := by
  cases h <;> first | exact ⟨rfl, rfl, rfl⟩ | (simp [CV.one] at h1; done)
theorem Rep.cells {W : World} {c : CV} {v : Value} (h : Rep W c v) (h1 : c.stor = true) : RepC W c.cells v.cells.toList := by
  cases h with
  | any v => simp [CV.stor] at h1
  | tuple cs vs => simp [CV.stor] at h1
  | agg cs vs hl ho hr => exact ⟨⟨by simpa [CV.cells, Value.cells] using hl, fun i x v hx hv => hr i x v hx (by simpa [Value.cells] using hv)⟩, fun i v hv => ho i v (by simpa [Value.cells] using hv)⟩
  | _ => exact RepC.cons (by constructor <;> assumption) rfl (RepC.nil W)
theorem Rep.mkagg {W : World} {cs : List CV} {vs : Array Value} (h : RepC W cs vs.toList) : Rep W (.agg cs) (.agg vs) :=
  .agg cs vs (by simpa using h.1.1) (fun i v hv => h.2 i v (by simpa using hv)) (fun i x v hx hv => h.1.2 i x v hx (by simpa using hv))
theorem Rep.mktuple {W : World} {cs : List CV} {vs : Array Value} (h : RepL W cs vs.toList) : Rep W (.tuple cs) (.tuple vs) :=
  .tuple cs vs (by simpa using h.1) (fun i x v hx hv => h.2 i x v hx (by simpa using hv))

theorem RepE.put {W : World} {N : Nat} {e : Env} {ts : Array Value} (h : RepE W N e ts) {d : Nat} (hd : d < N) {c : CV} {v : Value} (hc : Rep W c v) : RepE W N (e.set d c) (ts.setIfInBounds d v) := by
  refine ⟨by simp [h.1], fun t ht => ?_⟩
  have h2 := h.2 t ht
  simp only [Env.set]
  rw [Array.getD_eq_getD_getElem?, Array.getElem?_setIfInBounds]
  by_cases e : t = d
  · subst e
    rw [if_pos rfl, if_pos rfl, if_pos (by rw [h.1]; exact ht)]
    exact hc
  · rw [if_neg e, if_neg (fun h => e h.symm), ← Array.getD_eq_getD_getElem?]
    exact h2

/-- A constant's clean value. -/
def cvOf : Value → CV
  | .bool b => .bool b
  | .int k n => .int k n
  | .string s => .str s
  | .pointer none => .nilptr
  | .slice none 0 0 => .nilsl
  | .nilFunc => .nilfunc
  | .nilIface => .nilif
  | .map none => .nilmap
  | _ => .any
theorem rep_cvOf (W : World) (v : Value) : Rep W (cvOf v) v := by
  unfold cvOf
  split <;> constructor
def cvsOf (vs : List Value) : List CV := vs.map cvOf
theorem repL_cvsOf (W : World) (vs : List Value) : RepL W (cvsOf vs) vs := by
  refine ⟨by simp [cvsOf], fun i x v hx hv => ?_⟩
  simp only [cvsOf, List.getElem?_map, hv, Option.map_some, Option.some.injEq] at hx
  subst hx
  exact rep_cvOf W v
end Go.Cl
namespace Go.Cl
open Go.RowKit

/-- A deferred call, or a loop's mark. -/
inductive CD where
  | mark (r : Nat)
  | call (fn : Fn) (captured args : List CV)
structure CA where
  env : Env
  ds : List CD

def RepD (W : World) : CD → Deferred → Prop
  | .mark r, d => d = { target := .collected r, args := #[] }
  | .call fn c as, d => ∃ cv av, d = { target := .fn fn cv, args := av } ∧ RepL W c cv.toList ∧ RepL W as av.toList
def RepDs (W : World) : List CD → List Deferred → Prop
  | [], [] => True
  | x :: xs, d :: ds => RepD W x d ∧ RepDs W xs ds
  | _, _ => False
def RepA (W : World) (N : Nat) (s : CA) (a : Act) : Prop := RepE W N s.env a.tmps ∧ RepDs W s.ds a.defers

inductive CX where
  | normal
  | exit (id : Nat)
  | goto (l : Nat)
  | ret
  | panic (v : CV)
def RepX (W : World) : CX → Exit → Prop
  | .normal, .normal => True
  | .exit i, .exit j => i = j
  | .goto i, .goto j => i = j
  | .ret, .ret => True
  | .panic c, .panic ch => ∃ v, ch = [{ v, recovered := false }] ∧ Rep W c v
  | _, _ => False
inductive CE where
  | ret (v : CV)
  | panic (v : CV)
def RepEnd (W : World) : CE → Ending → Prop
  | .ret c, .returned v => Rep W c v
  | .panic c, .panicked ch => ∃ v, ch = [{ v, recovered := false }] ∧ Rep W c v
  | _, _ => False

abbrev CP := CX → CA → Hp → Prop
def fen (ρ : Option Nat) : Fence := { fn := fun _ => True, depth := none, alive := false, round := ρ }
def lift (W : World) (N : Nat) (F : Hp) (Q : CP) : Exit → Act → World → Prop := fun e a w => ∃ x s H, RepX W x e ∧ RepA W N s a ∧ Disj H F ∧ Held W (hun H F) w ∧ Q x s H

/-- Code, over what the world holds: whatever else is held (F) is left as it is. -/
structure CW (P : Program) (W : World) (N : Nat) (ρ : Option Nat) (c : Code) (Q : CP) (s : CA) (H : Hp) : Prop where
  out : ∀ (F : Hp) (a : Act) (w : World), Disj H F → RepA W N s a → Held W (hun H F) w → c.wpIn (fen ρ) 0 P (lift W N F Q) a w
structure CO (P : Program) (W : World) (N : Nat) (ρ : Option Nat) (ops : Array Oper) (l : List Nat) (Q : CP) (s : CA) (H : Hp) : Prop where
  out : ∀ (F : Hp) (a : Act) (w : World), Disj H F → RepA W N s a → Held W (hun H F) w → wpOpsIn (fen ρ) 0 P ops (lift W N F Q) l a w
/-- A call's contract. -/
structure CC (P : Program) (W : World) (f : FuncId) (args : List CV) (H : Hp) (R : CE → Hp → Prop) : Prop where
  ent : ∃ fn, P.funcs[f]? = some fn ∧ fn.body.isSome = true ∧ (fn.name == "runtime.NumGoroutine") = false
  out : ∀ (F : Hp) (av : Array Value) (w : World), Disj H F → RepL W args av.toList → Held W (hun H F) w →
    CallsIn (fen none) 0 P f av w (fun e w' => ∃ x H', RepEnd W x e ∧ Disj H' F ∧ Held W (hun H' F) w' ∧ R x H')
/-- A round's contract: yield, called. -/
structure CY (P : Program) (W : World) (l : Nat) (args : List CV) (H : Hp) (R : Bool → Hp → Prop) : Prop where
  out : ∀ (F : Hp) (av : Array Value) (w : World), Disj H F → RepL W args av.toList → Held W (hun H F) w →
    ∃ fn ts asg body, (Instr.yield l av).run P w = .ok (.round l fn ts asg body) w ∧
      RoundIn (fen none) 0 P l fn ts asg body w (fun e w' => ∃ b H', e = .returned (.bool b) ∧ Disj H' F ∧ Held W (hun H' F) w' ∧ R b H')

section
variable {P : Program} {W : World} {N : Nat} {ρ : Option Nat} {Q : CP} {s : CA} {H : Hp}

theorem lift_mono {F : Hp} {Q Q' : CP} (h : ∀ x s H, Q x s H → Q' x s H) : ∀ e a w, lift W N F Q e a w → lift W N F Q' e a w :=
  fun _ _ _ ⟨x, s, H, h1, h2, h3, h4, h5⟩ => ⟨x, s, H, h1, h2, h3, h4, h _ _ _ h5⟩
theorem CW.mono {c : Code} {Q' : CP} (h : CW P W N ρ c Q s H) (hq : ∀ x s H, Q x s H → Q' x s H) : CW P W N ρ c Q' s H :=
  ⟨fun F a w d r k => wpIn_mono (h.out F a w d r k) (lift_mono hq)⟩
theorem CC.mono {f : FuncId} {args : List CV} {R R' : CE → Hp → Prop} (h : CC P W f args H R) (hr : ∀ x H', R x H' → R' x H') : CC P W f args H R' :=
  ⟨h.ent, fun F av w d r k => (h.out F av w d r k).mono fun _ _ ⟨x, H', a, b, c, e⟩ => ⟨x, H', a, b, c, hr _ _ e⟩⟩
theorem CY.mono {l : Nat} {args : List CV} {R R' : Bool → Hp → Prop} (h : CY P W l args H R) (hr : ∀ x H', R x H' → R' x H') : CY P W l args H R' :=
  ⟨fun F av w d r k => by
    obtain ⟨fn, ts, asg, body, h1, h2⟩ := h.out F av w d r k
    exact ⟨fn, ts, asg, body, h1, h2.mono fun _ _ ⟨x, H', a, b, c, e⟩ => ⟨x, H', a, b, c, hr _ _ e⟩⟩⟩
/-- What is held may be forgotten. -/
theorem CW.forget {c : Code} {H' : Hp} (h : CW P W N ρ c Q s H') (hl : ∀ r o, H' r = some o → H r = some o) : CW P W N ρ c Q s H :=
  ⟨fun F a w d r k => h.out F a w (fun i => by
      rcases d i with d | d
      · cases hi : H' i with
        | none => exact .inl rfl
        | some o => rw [hl i o hi] at d; cases d
      · exact .inr d) r (k.le fun i o ho => by
      simp only [hun] at ho ⊢
      cases hi : H' i with
      | none => rw [hi] at ho; simp at ho; rcases d i with d | d
                · simp [d, ho]
                · rw [d] at ho; cases ho
      | some o' => rw [hi] at ho; simp at ho; subst ho; simp [hl i o' hi])⟩

theorem CW.skip (h : Q .normal s H) : CW P W N ρ .skip Q s H := ⟨fun _ _ _ d r k => wpIn_skip ⟨.normal, s, H, trivial, r, d, k, h⟩⟩
theorem CW.label {l : Nat} (h : Q .normal s H) : CW P W N ρ (.label l) Q s H := ⟨fun _ _ _ d r k => wpIn_label ⟨.normal, s, H, trivial, r, d, k, h⟩⟩
theorem CW.exit {id : Nat} (h : Q (.exit id) s H) : CW P W N ρ (.exit id) Q s H := ⟨fun _ _ _ d r k => wpIn_exit ⟨.exit id, s, H, rfl, r, d, k, h⟩⟩
theorem CW.goto {l : Nat} (h : Q (.goto l) s H) : CW P W N ρ (.goto l) Q s H := ⟨fun _ _ _ d r k => wpIn_goto ⟨.goto l, s, H, rfl, r, d, k, h⟩⟩
theorem CW.ret (h : Q .ret s H) : CW P W N ρ .ret Q s H := ⟨fun _ _ _ d r k => wpIn_ret ⟨.ret, s, H, trivial, r, d, k, h⟩⟩
def thenX (next : CA → Hp → Prop) (Q : CP) : CP := fun x s H => match x with | .normal => next s H | x => Q x s H
theorem CW.seq {x y : Code} (h : CW P W N ρ x (thenX (CW P W N ρ y Q) Q) s H) : CW P W N ρ (.seq x y) Q s H :=
  ⟨fun F a w d r k => wpIn_seq (wpIn_mono (h.out F a w d r k) fun e a' w' ⟨x', s', H', h1, h2, h3, h4, h5⟩ => by
    have h0 := h1
    cases x' <;> cases e <;> simp only [RepX] at h1 <;> first
      | exact h5.out F a' w' h3 h2 h4
      | exact ⟨_, s', H', h0, h2, h3, h4, h5⟩)⟩
theorem CW.cond {o : Operand} {x y : Code} {b : Bool} (hc : ∀ a, RepA W N s a → a.eval o = .bool b) (ht : b = true → CW P W N ρ x Q s H) (hf : b = false → CW P W N ρ y Q s H) : CW P W N ρ (.cond o x y) Q s H :=
  ⟨fun F a w d r k => wpIn_cond_split (hc a r) (fun h => (ht h).out F a w d r k) (fun h => (hf h).out F a w d r k)⟩
def inBlockX (id : Nat) (Q : CP) : CP := fun x s H => match x with | .exit i => if i = id then Q .normal s H else Q (.exit i) s H | x => Q x s H
theorem CW.block {id : Nat} {c : Code} (h : CW P W N ρ c (inBlockX id Q) s H) : CW P W N ρ (.block id c) Q s H :=
  ⟨fun F a w d r k => wpIn_block (wpIn_mono (h.out F a w d r k) fun e a' w' ⟨x', s', H', h1, h2, h3, h4, h5⟩ => by
    have h0 := h1
    cases x' <;> cases e <;> simp only [RepX] at h1 <;> first
      | exact ⟨_, s', H', h0, h2, h3, h4, h5⟩
      | (subst h1
         simp only [inBlockX] at h5
         simp only [Exit.inBlock]
         split at h5
         · rename_i e; rw [if_pos e]; exact ⟨.normal, s', H', trivial, h2, h3, h4, h5⟩
         · rename_i e; rw [if_neg e]; exact ⟨.exit _, s', H', rfl, h2, h3, h4, h5⟩))⟩

theorem wpIn_loopN {F : Fence} {n : Nat} {P : Program} {Q : Exit → Act → World → Prop} {c : Code} (I : Nat → Act → World → Prop)
    (round : ∀ m a w, I m a w → c.wpIn F n P (Exit.then (fun a' w' => ∃ m', m' < m ∧ I m' a' w') Q) a w) {m : Nat} {a : Act} {w : World} (h₀ : I m a w) : (Code.loop c).wpIn F n P Q a w := by
  intro b k cs hro hb hr
  have key : ∀ m a w, I m a w →
      ∃ e a' w', Q e a' w' ∧ ArrivesIn (Machine.fenced P F) P (lone (b.atR a (.code c :: .inLoop c :: k)) cs w) b k cs e a' w' := by
    intro m
    induction m using Nat.strongRecOn with
    | _ m ih =>
      intro a w hI
      obtain ⟨e, a₁, w₁, hq, harr⟩ := round m a w hI b (.inLoop c :: k) cs hro hb hr
      cases e with
      | normal =>
        obtain ⟨m', hlt, hI₁⟩ := hq
        obtain ⟨e₂, a₂, w₂, hq₂, harr₂⟩ := ih m' hlt a₁ w₁ hI₁
        exact ⟨e₂, a₂, w₂, hq₂, .of_steps (StepsIn.trans harr (.one (fenced_calm hb hr rfl) stepR_inLoop)) harr₂⟩
      | exit id => exact ⟨_, a₁, w₁, hq, .pass (x := .inLoop c) rfl (fun _ _ => .inl (by simp)) harr⟩
      | goto l => exact ⟨_, a₁, w₁, hq, .pass (x := .inLoop c) rfl (fun _ _ => .inl (by simp)) harr⟩
      | ret => exact ⟨_, a₁, w₁, hq, .pass (x := .inLoop c) rfl (fun _ _ => .inl (by simp)) harr⟩
      | panic ch => exact ⟨_, a₁, w₁, hq, .pass (x := .inLoop c) rfl (fun _ _ => .inl (by simp)) harr⟩
      | outgrown => exact ⟨_, a₁, w₁, hq, .pass (x := .inLoop c) rfl (fun _ _ => .inl (by simp)) harr⟩
  obtain ⟨e, a', w', hq, harr⟩ := key m a w h₀
  exact ⟨e, a', w', hq, .of_steps (.one (fenced_calm hb hr rfl) stepR_loop) harr⟩
/-- A loop: a relation, with a number that every round lowers. -/
theorem CW.loop {c : Code} (I : Nat → CA → Hp → Prop) (round : ∀ m s H, I m s H → CW P W N ρ c (thenX (fun s' H' => ∃ m', m' < m ∧ I m' s' H') Q) s H) {m : Nat} (h : I m s H) : CW P W N ρ (.loop c) Q s H :=
  ⟨fun F a w d r k => wpIn_loopN (fun m a w => ∃ s H, RepA W N s a ∧ Disj H F ∧ Held W (hun H F) w ∧ I m s H)
    (fun m a w ⟨s, H, h1, h2, h3, h4⟩ => wpIn_mono ((round m s H h4).out F a w h2 h1 h3) fun e a' w' ⟨x', s', H', k1, k2, k3, k4, k5⟩ => by
      have k0 := k1
      cases x' <;> cases e <;> simp only [RepX] at k1 <;> first
        | exact ⟨_, s', H', k0, k2, k3, k4, k5⟩
        | (obtain ⟨m', hm, hI⟩ := k5; exact ⟨m', hm, s', H', k2, k3, k4, hI⟩))
    ⟨s, H, r, d, k, h⟩⟩
theorem CW.region {id : Nat} {ops : Array Oper} (h : CO P W N ρ ops (List.range ops.size) Q s H) : CW P W N ρ (.region id ops false) Q s H :=
  ⟨fun F a w d r k => wpIn_region (h.out F a w d r k)⟩
theorem CW.region_draw {id : Nat} {ops : Array Oper} (h : ∀ t, CO P W N ρ ops (Region.schedule (P.follows .mixedOrders) ops t) Q s H) : CW P W N ρ (.region id ops true) Q s H :=
  ⟨fun F a w d r k => wpIn_region_draw fun t => (h t).out F a _ d r k.drew⟩
theorem CO.nil {ops : Array Oper} (h : Q .normal s H) : CO P W N ρ ops [] Q s H := ⟨fun _ _ _ d r k => ⟨.normal, s, H, trivial, r, d, k, h⟩⟩
end
end Go.Cl
namespace Go.Cl
open Go.RowKit

inductive TZ where
  | int (k : IntKind) | bool | str | ptr | sl | fn | ifc | map
  deriving DecidableEq
def TZ.cv : TZ → CV
  | .int k => .int k 0 | .bool => .bool false | .str => .str ⟨#[]⟩ | .ptr => .nilptr | .sl => .nilsl | .fn => .nilfunc | .ifc => .nilif | .map => .nilmap
def TZ.val : TZ → Value
  | .int k => .int k 0 | .bool => .bool false | .str => .string ⟨#[]⟩ | .ptr => .pointer none | .sl => .slice none 0 0 | .fn => .nilFunc | .ifc => .nilIface | .map => .map none
def zcOf : Value → Option TZ
  | .int k n => if n = 0 then some (.int k) else none
  | .bool false => some .bool
  | .string ⟨⟨[]⟩⟩ => some .str
  | .pointer none => some .ptr
  | .slice none 0 0 => some .sl
  | .nilFunc => some .fn
  | .nilIface => some .ifc
  | .map none => some .map
  | _ => none
theorem zcOf_eq {v : Value} {z : TZ} (h : zcOf v = some z) : v = z.val := by
  unfold zcOf at h
  split at h
  · split at h
    · injection h with h; subst h; subst_vars; rfl
    · cases h
  all_goals first | (injection h with h; subst h; rfl) | cases h
theorem TZ.rep (W : World) (z : TZ) : Rep W z.cv z.val := by cases z <;> constructor
theorem TZ.oneCell (z : TZ) : z.val.oneCell' = true := by cases z <;> rfl
def zcs : List Value → Option (List TZ)
  | [] => some []
  | v :: r => match zcOf v, zcs r with | some z, some zs => some (z :: zs) | _, _ => none
theorem zcs_eq : ∀ {vs : List Value} {zs : List TZ}, zcs vs = some zs → vs = zs.map TZ.val
  | [], zs, h => by simp [zcs] at h; subst h; rfl
  | v :: r, zs, h => by
    unfold zcs at h
    split at h
    · rename_i z zs' h1 h2
      injection h with h
      subst h
      rw [zcOf_eq h1, zcs_eq h2]; rfl
    · cases h
theorem repC_zeros (W : World) : ∀ zs : List TZ, RepC W (zs.map TZ.cv) (zs.map TZ.val)
  | [] => RepC.nil W
  | z :: zs => RepC.cons (z.rep W) z.oneCell (repC_zeros W zs)

def TZ.flat : TZ → Bool
  | .int _ | .bool => true
  | _ => false
/-- A type: its form, and its cells, bytes and zero. -/
inductive TK where
  | int (k : IntKind) | bool | str
  | slice (e : TypeId) | ptr (e : TypeId)
  | arr (n : Nat) (e : TypeId)
  | struct (fs : List (Nat × Nat × Bool))
  | map (k e : TypeId) | func | ifc
  deriving DecidableEq
structure TI where
  kind : TK
  size : Nat
  bytes : Nat
  zero : List TZ
def TK.agg : TK → Bool
  | .arr _ _ | .struct _ => true
  | _ => false
abbrev Tab := TypeId → Option TI

def aggD : Option TypeDesc → Bool
  | some (.struct _) | some (.array _ _) => true
  | _ => false
def flds (P : Program) : List Field → Option (List (Nat × Nat × Bool))
  | [] => some []
  | f :: r => match P.info? f.type, P.underlying f.type, flds P r with
    | some i, some d, some l => some ((f.offset, i.size, aggD (some d)) :: l)
    | _, _, _ => none
def kindB (P : Program) (d : TypeDesc) : TK → Bool
  | .int k => match d with | .int k' => k == k' | _ => false
  | .bool => match d with | .bool => true | _ => false
  | .str => match d with | .string => true | _ => false
  | .slice e => match d with | .slice e' => e == e' | _ => false
  | .ptr e => match d with | .pointer e' => e == e' | _ => false
  | .arr n e => match d with | .array n' e' => n == n' && e == e' | _ => false
  | .struct fs => match d with | .struct gs => flds P gs.toList == some fs | _ => false
  | .map k e => match d with | .map k' e' => k == k' && e == e' | _ => false
  | .func => match d with | .func .. => true | _ => false
  | .ifc => match d with | .interface _ => true | _ => false
/-- The fields of a flat struct: each one cell, a whole number or a bool, one after the other, with a name. -/
def fldEq (P : Program) : List Field → List TZ → Nat → Bool
  | [], [], _ => true
  | f :: r, z :: zs, n => f.name != "_" && f.offset == n && (match P.underlying f.type, z with | some (.int k), .int k' => k == k' | some .bool, .bool => true | _, _ => false) && fldEq P r zs (n + 1)
  | _, _, _ => false
/-- Flat structs may be held against each other. -/
def eqB (P : Program) (t : TypeId) (zs : List TZ) : Bool :=
  match P.underlying t with
  | some (.struct gs) => !P.stoodInHeld t && !P.eqGuardType P.depth t && fldEq P gs.toList zs 0
  | _ => false
def flatS (fs : List (Nat × Nat × Bool)) (zs : List TZ) : Bool := fs.all (fun f => !f.2.2) && zs.all TZ.flat
def okEq (P : Program) (t : TypeId) (ti : TI) : Bool := match ti.kind with | .struct fs => !flatS fs ti.zero || eqB P t ti.zero | _ => true
def zAgg : Value → Bool
  | .agg _ => true
  | _ => false
def okT (P : Program) (t : TypeId) (ti : TI) : Bool :=
  match P.underlying t, P.info? t with
  | some d, some i => kindB P d ti.kind && i.size == ti.size && i.bytes == ti.bytes && (match i.zero with | some z => zcs z.cells.toList == some ti.zero | none => false) && ti.zero.length == ti.size && ti.size != 0 && ti.bytes != 0 && okEq P t ti && (match i.zero with | some z => zAgg z == ti.kind.agg | none => false)
  | _, _ => false
def TabOk (P : Program) (T : Tab) : Prop := ∀ t ti, T t = some ti → okT P t ti = true
def tabOf (l : List (TypeId × TI)) : Tab := fun t => (l.find? (·.1 == t)).map (·.2)
theorem tabOk_of {P : Program} {l : List (TypeId × TI)} (h : (l.all fun p => okT P p.1 p.2) = true) : TabOk P (tabOf l) := by
  intro t ti ht
  unfold tabOf at ht
  obtain ⟨p, hp, rfl⟩ := Option.map_eq_some_iff.1 ht
  have h1 := List.find?_some hp
  have h2 := List.mem_of_find?_eq_some hp
  have := List.all_eq_true.1 h p h2
  simp at h1
  subst h1
  exact this

section
variable {P : Program} {T : Tab}
structure TFact (P : Program) (t : TypeId) (ti : TI) where
  d : TypeDesc
  i : TypeInfo
  z : Value
  hd : P.underlying t = some d
  hi : P.info? t = some i
  hk : kindB P d ti.kind = true
  hs : i.size = ti.size
  hb : i.bytes = ti.bytes
  hz : i.zero = some z
  hzc : z.cells.toList = ti.zero.map TZ.val
  hl : ti.zero.length = ti.size
  h0 : ti.size ≠ 0
  hb0 : ti.bytes ≠ 0
  he : okEq P t ti = true
  ha : zAgg z = ti.kind.agg
theorem tfact (hT : TabOk P T) {t : TypeId} {ti : TI} (h : T t = some ti) : Nonempty (TFact P t ti) := by
  have h1 := hT t ti h
  unfold okT at h1
  split at h1
  · rename_i d i hd hi
    simp only [Bool.and_eq_true, beq_iff_eq, bne_iff_ne] at h1
    obtain ⟨⟨⟨⟨⟨⟨⟨⟨hk, hs⟩, hb⟩, hz⟩, hl⟩, h0⟩, hb0⟩, he⟩, ha⟩ := h1
    split at hz
    · rename_i z hz'
      exact ⟨⟨d, i, z, hd, hi, hk, hs, hb, hz', zcs_eq (by simpa using hz), hl, h0, hb0, he, by rw [hz'] at ha; simpa using ha⟩⟩
    · cases hz
  · cases h1
theorem TFact.size {t : TypeId} {ti : TI} (f : TFact P t ti) (w : World) : (sizeOf t).run P w = .ok ti.size w := by simp [sizeOf, typeInfo, f.hi, f.hs]
theorem TFact.und {t : TypeId} {ti : TI} (f : TFact P t ti) (w : World) : (underlying t).run P w = .ok f.d w := run_underlying f.hd w
theorem TFact.zerov {t : TypeId} {ti : TI} (f : TFact P t ti) (w : World) : (zeroValue t).run P w = .ok f.z w := by simp [zeroValue, typeInfo, f.hi, f.hz]
theorem TFact.agg {t : TypeId} {ti : TI} (f : TFact P t ti) : aggD (some f.d) = ti.kind.agg := by
  have hk := f.hk
  cases hd : f.d <;> rw [hd] at hk <;> cases hq : ti.kind <;> rw [hq] at hk <;> first | rfl | (simp [kindB] at hk; done)
theorem TFact.isAgg {t : TypeId} {ti : TI} (f : TFact P t ti) (w : World) : (isAgg t).run P w = .ok ti.kind.agg w := by
  rw [← f.agg]
  unfold Go.isAgg
  rw [Sem.run_bind, f.und]
  cases f.d <;> rfl
theorem TFact.rep {t : TypeId} {ti : TI} (f : TFact P t ti) (W : World) : RepC W (ti.zero.map TZ.cv) f.z.cells.toList := by rw [f.hzc]; exact repC_zeros W _

/-- What an operation's run must come to. -/
def GoodV (W : World) (F : Hp) (K : CV → Hp → Prop) (r : Result Value) : Prop := ∃ v w' c H', r = .ok v w' ∧ Rep W c v ∧ Disj H' F ∧ Held W (hun H' F) w' ∧ K c H'

variable {W : World} {H F : Hp} {w : World} {K : CV → Hp → Prop}
theorem GoodV.mk {v : Value} {c : CV} (hd : Disj H F) (hh : Held W (hun H F) w) (hr : Rep W c v) (h : K c H) : GoodV W F K (.ok v w) := ⟨v, w, c, H, rfl, hr, hd, hh, h⟩
/-- New cells. -/
theorem good_new {cs : List CV} {c : Array Value} {t : TypeId} (hd : Disj H F) (hh : Held W (hun H F) w) (hr : RepC W cs c.toList)
    {mk : Nat → Value} {mc : Nat → CV} (hm : ∀ r, Rep W (mc r) (mk r)) (h : ∀ r, H r = none → K (mc r) (H.set r (.cells cs))) : GoodV W F K (.ok (mk w.heap.size) (w.alloc (.cells c t))) := by
  have hf := hh.fresh
  rw [hun_none] at hf
  refine ⟨_, _, mc w.heap.size, H.set w.heap.size (.cells cs), rfl, hm _, disj_set_new hd hf.2, ?_, h _ hf.1⟩
  rw [hun_set]
  exact hh.alloc ⟨c, t, rfl, hr⟩

theorem run_loadVar_agg {t : TypeId} {ti : TI} (f : TFact P t ti) (ha : ti.kind.agg = true) (ad : Addr) (vs : List Value) (hl : vs.length = ti.size) (h : ∀ (j : Nat) v, vs[j]? = some v → w.cell? (ad.add j) = some v) :
    (loadVar t ad).run P w = .ok (.agg vs.toArray) w := by
  have := run_loadCells_list (P := P) w ad vs h
  rw [hl] at this
  simp only [loadVar, Sem.run_bind, f.isAgg, Result.andThen_ok, ha, if_true, f.size, this, Sem.run_pure]
theorem run_loadVar_one {t : TypeId} {ti : TI} (f : TFact P t ti) (ha : ti.kind.agg = false) (ad : Addr) (v : Value) (h : w.cell? ad = some v) :
    (loadVar t ad).run P w = .ok v w := by
  simp [loadVar, f.isAgg, ha, h]
theorem add_plain (g o j : Nat) : (⟨g, o, none⟩ : Addr).add j = ⟨g, o + j, none⟩ := by unfold Addr.add; split <;> simp_all
theorem add_add (a : Addr) (i j : Nat) : (a.add i).add j = a.add (i + j) := by
  unfold Addr.add
  by_cases h1 : i = 0 <;> by_cases h2 : j = 0 <;> simp [h1, h2, Nat.add_assoc]
theorem add_zero (a : Addr) : a.add 0 = a := by simp [Addr.add]

/-- A load, clean. -/
def vcLoad (ti : TI) (cs : List CV) (o : Nat) (K : CV → Prop) : Prop :=
  if ti.kind.agg then o + ti.size ≤ cs.length ∧ K (.agg ((cs.drop o).take ti.size)) else ∃ c, cs[o]? = some c ∧ K c
theorem good_load_cells {t : TypeId} {ti : TI} (f : TFact P t ti) (hd : Disj H F) (hh : Held W (hun H F) w) (ad : Addr) (cs : List CV) (vs : List Value) (hr : RepC W cs vs) (o : Nat)
    (hc : ∀ (j : Nat) v, vs[j]? = some v → w.cell? (ad.add j) = some v) (h : vcLoad ti cs o fun c => K c H) : GoodV W F K ((loadVar t (ad.add o)).run P w) := by
  unfold vcLoad at h
  split at h
  · rename_i ha
    obtain ⟨hl, hk⟩ := h
    have hr2 := (hr.drop o).take ti.size
    rw [run_loadVar_agg f ha (ad.add o) ((vs.drop o).take ti.size) (by rw [List.length_take, List.length_drop, ← hr.1.1]; omega) (fun j v hj => by
      rw [List.getElem?_take] at hj
      split at hj
      · rw [List.getElem?_drop] at hj
        rw [add_add]; exact hc _ _ hj
      · cases hj)]
    exact GoodV.mk hd hh (Rep.mkagg (by simpa using hr2)) hk
  · rename_i ha
    obtain ⟨c, hcs, hk⟩ := h
    have ho : o < vs.length := by rw [← hr.1.1]; exact (List.getElem?_eq_some_iff.1 hcs).1
    rw [run_loadVar_one f (by simpa using ha) (ad.add o) vs[o] (hc _ _ (List.getElem?_eq_getElem ho))]
    exact GoodV.mk hd hh (hr.1.2 o c _ hcs (List.getElem?_eq_getElem ho)) hk
theorem Held.cellsAt {H : Hp} (h : Held W H w) {r : Nat} {cs : List CV} (hr : H r = some (.cells cs)) : ∃ c t, w.heap[r]? = some (.cells c t (0, 0)) ∧ RepC W cs c.toList := by
  obtain ⟨_, ob, hb, c, t, rfl, hc⟩ := h.at_ r _ hr
  exact ⟨c, t, hb, hc⟩
theorem cell_at {r : Nat} {c : Array Value} {t : TypeId} {z : Nat × Nat} (h : w.heap[r]? = some (.cells c t z)) (j : Nat) : w.cell? ⟨r, j, none⟩ = c[j]? := by simp [World.cell?, h]
theorem cell_old (hh : Held W H w) {a : Addr} {v : Value} (h : W.cell? a = some v) : w.cell? a = some v := (hh.below.cell (World.block_lt_of_cell? W a h)).trans h

theorem good_load_ptr {t : TypeId} {ti : TI} (f : TFact P t ti) (hd : Disj H F) (hh : Held W (hun H F) w) {r o : Nat} {cs : List CV} (hr : H r = some (.cells cs)) (h : vcLoad ti cs o fun c => K c H) :
    GoodV W F K ((Instr.loadAt t (.pointer (some ⟨r, o, none⟩))).run P w) := by
  obtain ⟨c, t', hb, hc⟩ := hh.cellsAt (hun_left hr)
  have := good_load_cells f hd hh ⟨r, 0, none⟩ cs c.toList hc o (fun j v hj => by rw [add_plain, Nat.zero_add, cell_at hb]; simpa using hj) h
  rw [add_plain, Nat.zero_add] at this
  simpa [Instr.loadAt, Instr.sureAddr] using this
theorem load_ptr_run {t : TypeId} {ti : TI} (f : TFact P t ti) (hh : Held W (hun H F) w) {r o : Nat} {cs : List CV} {K : CV → Prop} (hr : H r = some (.cells cs)) (h : vcLoad ti cs o K) :
    ∃ v c, (loadVar t ⟨r, o, none⟩).run P w = .ok v w ∧ Rep W c v ∧ K c := by
  obtain ⟨c, t', hb, hr⟩ := hh.cellsAt (hun_left hr)
  have hc : ∀ (j : Nat) v, c.toList[j]? = some v → w.cell? ((⟨r, 0, none⟩ : Addr).add j) = some v := fun j v hj => by rw [add_plain, Nat.zero_add, cell_at hb]; simpa using hj
  unfold vcLoad at h
  have e0 : (⟨r, o, none⟩ : Addr) = (⟨r, 0, none⟩ : Addr).add o := by rw [add_plain, Nat.zero_add]
  split at h
  · rename_i ha
    obtain ⟨hl, hk⟩ := h
    have hr2 := (hr.drop o).take ti.size
    refine ⟨_, _, ?_, Rep.mkagg (vs := ((c.toList.drop o).take ti.size).toArray) (by simpa using hr2), hk⟩
    rw [e0]
    refine run_loadVar_agg f ha _ ((c.toList.drop o).take ti.size) (by rw [List.length_take, List.length_drop, ← hr.1.1]; omega) (fun j v hj => ?_)
    rw [List.getElem?_take] at hj
    split at hj
    · rw [List.getElem?_drop] at hj
      rw [add_add]; exact hc _ _ hj
    · cases hj
  · rename_i ha
    obtain ⟨x, hcs, hk⟩ := h
    have ho : o < c.toList.length := by rw [← hr.1.1]; exact (List.getElem?_eq_some_iff.1 hcs).1
    refine ⟨c.toList[o], x, ?_, hr.1.2 o x _ hcs (List.getElem?_eq_getElem ho), hk⟩
    rw [e0]
    exact run_loadVar_one f (by simpa using ha) _ _ (hc _ _ (List.getElem?_eq_getElem ho))
theorem good_load_iptr {t : TypeId} {ti : TI} (f : TFact P t ti) (hd : Disj H F) (hh : Held W (hun H F) w) {cs : List CV} {v : Value} (hr : Rep W (.iptr cs) v) (h : vcLoad ti cs 0 fun c => K c H) :
    GoodV W F K ((Instr.loadAt t v).run P w) := by
  cases hr with
  | iptr _ ad vs hc hr =>
    have := good_load_cells f hd hh ad cs ((List.range cs.length).map vs) ⟨⟨by simp, fun i x v hx hv => by
        have hi := (List.getElem?_eq_some_iff.1 hx).1
        simp [hi] at hv; subst hv; exact hr i x hx⟩, fun i v hv => by
        have hi : i < cs.length := by have := (List.getElem?_eq_some_iff.1 hv).1; simpa using this
        simp [hi] at hv; subst hv; exact (hc i hi).2⟩ 0 (fun j v hj => by
        have hi : j < cs.length := by have := (List.getElem?_eq_some_iff.1 hj).1; simpa using this
        simp [hi] at hj; subst hj; exact cell_old hh (hc j hi).1) h
    rw [add_zero] at this
    simpa [Instr.loadAt, Instr.sureAddr] using this
end
end Go.Cl
namespace Go.Cl
open Go.RowKit

/-- By the value of a bit. -/
def splitB (b : Bool) (K : Bool → Prop) : Prop := (b = true → K true) ∧ (b = false → K false)
theorem splitB_of {b : Bool} {K : Bool → Prop} (h : b = true → K true) (h' : b = false → K false) : splitB b K := ⟨h, h'⟩
theorem splitB_elim {b : Bool} {K : Bool → Prop} (h : splitB b K) : K b := by cases b; exact h.2 rfl; exact h.1 rfl

def cfill (place : Nat → Option (Nat × Nat)) (cells : List CV) : List (Nat × CV) → Option (List CV)
  | [] => some cells
  | (i, v) :: rest =>
    match place i with
    | none => none
    | some (off, size) =>
      if v.stor = true ∧ v.cells.length = size ∧ off + size ≤ cells.length then cfill place (cells.take off ++ v.cells ++ cells.drop (off + size)) rest else none
def zeroCs (zs : List TZ) (n : Nat) : List CV := (List.range n).map fun i => ((zs.map TZ.cv).getD (i % zs.length) .any)

def vcCmp (op : BinOp) (a b : Int) (K : CV → Prop) : Prop :=
  match op with
  | .eql => K (.bool (a == b))
  | .neq => K (.bool (a != b))
  | .lss => K (.bool (decide (a < b)))
  | .leq => K (.bool (decide (a ≤ b)))
  | .gtr => K (.bool (decide (b < a)))
  | .geq => K (.bool (decide (b ≤ a)))
  | _ => False
def zAnd (k : IntKind) (a b : Int) : Int := k.wrap (BitVec.ofInt k.bits a &&& BitVec.ofInt k.bits b).toNat
def zOr (k : IntKind) (a b : Int) : Int := k.wrap (BitVec.ofInt k.bits a ||| BitVec.ofInt k.bits b).toNat
def zXor (k : IntKind) (a b : Int) : Int := k.wrap (BitVec.ofInt k.bits a ^^^ BitVec.ofInt k.bits b).toNat
def zAndNot (k : IntKind) (a b : Int) : Int := k.wrap (BitVec.ofInt k.bits a &&& ~~~(BitVec.ofInt k.bits b)).toNat
def zShl (k : IntKind) (a b : Int) : Int := k.wrap (a * 2 ^ (min b.toNat k.bits))
def zShr (k : IntKind) (a b : Int) : Int := a.fdiv (2 ^ (min b.toNat k.bits))
def vcInt (op : BinOp) (k : IntKind) (a b : Int) (K : CV → Prop) : Prop :=
  match op with
  | .add => ∃ z, k.wrap (a + b) = z ∧ K (.int k z)
  | .sub => ∃ z, k.wrap (a - b) = z ∧ K (.int k z)
  | .mul => ∃ z, k.wrap (a * b) = z ∧ K (.int k z)
  | .quo => b ≠ 0 ∧ ∃ z, k.wrap (a.tdiv b) = z ∧ K (.int k z)
  | .rem => b ≠ 0 ∧ ∃ z, a.tmod b = z ∧ K (.int k z)
  | .and => K (.int k (zAnd k a b))
  | .or => K (.int k (zOr k a b))
  | .xor => K (.int k (zXor k a b))
  | .andNot => K (.int k (zAndNot k a b))
  | .shl => 0 ≤ b ∧ K (.int k (zShl k a b))
  | .shr => 0 ≤ b ∧ K (.int k (zShr k a b))
  | op => vcCmp op a b K
def isShift : BinOp → Bool
  | .shl | .shr => true
  | _ => false
/-- A flat struct's cells are of the kinds that the type says. -/
def fits : List CV → List TZ → Bool
  | [], [] => true
  | .int k _ :: xs, .int k' :: zs => k == k' && fits xs zs
  | .bool _ :: xs, .bool :: zs => fits xs zs
  | _, _ => false
def eqAll : List CV → List CV → Bool
  | [], [] => true
  | .int _ a :: xs, .int _ b :: ys => (a == b) && eqAll xs ys
  | .bool a :: xs, .bool b :: ys => (a == b) && eqAll xs ys
  | _, _ => false
def vcBin (T : Tab) (op : BinOp) (t : TypeId) (x y : CV) (K : CV → Prop) : Prop :=
  match x, y with
  | .int k a, .int k' b => (isShift op = true ∨ k = k') ∧ vcInt op k a b K
  | .bool a, .bool b => (∃ ti, T t = some ti ∧ ti.kind = .bool) ∧ (match op with | .eql => K (.bool (a == b)) | .neq => K (.bool (!(a == b))) | _ => False)
  | .str a, .str b => match op with | .eql => K (.bool (a.toList == b.toList)) | .neq => K (.bool (!(a.toList == b.toList))) | _ => False
  | .ref _ _ _ _, .nilsl => (∃ ti e, T t = some ti ∧ ti.kind = .slice e) ∧ (match op with | .eql => K (.bool false) | .neq => K (.bool true) | _ => False)
  | .nilsl, .nilsl => (∃ ti e, T t = some ti ∧ ti.kind = .slice e) ∧ (match op with | .eql => K (.bool true) | .neq => K (.bool false) | _ => False)
  | .sl _ xs, .nilsl => 0 < xs.length ∧ (∃ ti e, T t = some ti ∧ ti.kind = .slice e) ∧ (match op with | .eql => K (.bool false) | .neq => K (.bool true) | _ => False)
  | .agg xs, .agg ys => (∃ ti fs, T t = some ti ∧ ti.kind = .struct fs ∧ flatS fs ti.zero = true ∧ fits xs ti.zero = true ∧ fits ys ti.zero = true) ∧ (match op with | .eql => K (.bool (eqAll xs ys)) | .neq => K (.bool (!(eqAll xs ys))) | _ => False)
  | _, _ => False

def bnd (x : Option CV) (d : Nat) (K : Nat → Prop) : Prop :=
  match x with
  | none => K d
  | some (.int _ n) => 0 ≤ n ∧ K n.toNat
  | _ => False

/-- A full slice from the beginning: s[:h:m]. -/
def vcSl3 (T : Tab) (t : TypeId) (x hi mx : CV) (K : CV → Prop) : Prop :=
  match T t with
  | some ti => match ti.kind, x, hi, mx with
    | .slice e, .ref r o _ c, .int _ h, .int _ m => 0 ≤ h ∧ h ≤ m ∧ m ≤ c ∧ (T e).isSome = true ∧ K (.ref r o h.toNat m.toNat)
    | .slice e, .nilsl, .int _ h, .int _ m => h = 0 ∧ m = 0 ∧ (T e).isSome = true ∧ K .nilsl
    | _, _, _, _ => False
  | none => False
/-! ### Maps with whole numbers as keys -/
/-- What a map has at a key. -/
def lkM : List (Int × Nat × CV) → Int → Option CV
  | [], _ => none
  | e :: es, n => if e.1 = n then some e.2.2 else lkM es n
/-- A map's entries with a key's value put. -/
def putM : List (Int × Nat × CV) → Int → Nat → CV → List (Int × Nat × CV)
  | [], n, c, v => [(n, c, v)]
  | e :: es, n, c, v => if e.1 = n then (n, e.2.1, v) :: es else e :: putM es n c v
def delM : List (Int × Nat × CV) → Int → List (Int × Nat × CV)
  | [], _ => []
  | e :: es, n => if e.1 = n then es else e :: delM es n
/-- A map type: the kind of its keys, its elements. -/
def mapT (T : Tab) (t : TypeId) : Option (IntKind × TI) :=
  match T t with
  | some ti => match ti.kind with
    | .map k e => match T k, T e with
      | some tk, some te => (match tk.kind with | .int ik => some (ik, te) | _ => none)
      | _, _ => none
    | _ => none
  | none => none
def zeroC (te : TI) : CV := if te.kind.agg = true then .agg (te.zero.map TZ.cv) else (te.zero.map TZ.cv).headD .any
def lkC (ok : Bool) (v : CV) (b : Bool) : CV := if ok = true then .tuple [v, .bool b] else v
def vcMap (T : Tab) (o : Op) (ev : Operand → CV) (H : Hp) (K : CV → Hp → Prop) : Prop :=
  match o with
  | .makeMap t none => (match mapT T t with | some (ik, _) => ∀ r, H r = none → K (.map r) (H.set r (.imap ik [] 0)) | none => False)
  | .lookup t x i ok => (match mapT T t, ev i with
    | some (ik, te), .int ik' n => ik' = ik ∧ (match ev x with
      | .nilmap => K (lkC ok (zeroC te) false) H
      | .map r => ∃ es clk, H r = some (.imap ik es clk) ∧ K (lkC ok ((lkM es n).getD (zeroC te)) (lkM es n).isSome) H
      | _ => False)
    | _, _ => False)
  | .mapUpdate t m k x => (match mapT T t, ev m, ev k with
    | some (ik, _), .map r, .int ik' n => ik' = ik ∧ ∃ es clk, H r = some (.imap ik es clk) ∧ K .any (H.set r (.imap ik (putM es n clk (ev x)) (if (lkM es n).isSome = true then clk else clk + 1)))
    | _, _, _ => False)
  | .range t x => (match mapT T t, ev x with
    | some (ik, _), .map m => ∃ es clk, H m = some (.imap ik es clk) ∧ ∀ r, H r = none → K (.ptr r 0) (H.set r (.miter m clk [] clk))
    | _, _ => False)
  | .next it false => (match ev it with
    | .ptr r o => o = 0 ∧ ∃ m since seen last ik es clk, H r = some (.miter m since seen last) ∧ H m = some (.imap ik es clk) ∧ (∀ e ∈ es, e.2.1 < since) ∧ since ≤ last ∧ ((∀ e ∈ es, e.2.1 ∈ seen) → K (.tuple [.bool false]) H) ∧ ∀ e ∈ es, e.2.1 ∉ seen → K (.tuple [.bool true, .int ik e.1, e.2.2]) (H.set r (.miter m since (seen ++ [e.2.1]) clk))
    | _ => False)
  | .entry it => (match ev it with
    | .ptr r o => o = 0 ∧ ∃ m since seen last ik es e st, H r = some (.miter m since seen last) ∧ H m = some (.imap ik es last) ∧ seen.getLast? = some st ∧ es.find? (fun e => e.2.1 == st) = some e ∧ K (.tuple [.int ik e.1, e.2.2]) H
    | _ => False)
  | _ => False
def vcOp (T : Tab) (o : Op) (ev : Operand → CV) (H : Hp) (K : CV → Hp → Prop) : Prop :=
  match o with
  | .makeMap t h => vcMap T (.makeMap t h) ev H K
  | .lookup t x i ok => vcMap T (.lookup t x i ok) ev H K
  | .mapUpdate t m k x => vcMap T (.mapUpdate t m k x) ev H K
  | .range t x => vcMap T (.range t x) ev H K
  | .next it s => vcMap T (.next it s) ev H K
  | .insert t m k x => vcMap T (.mapUpdate t m k x) ev H K
  | .entry it => vcMap T (.entry it) ev H K
  | .move x | .assign x => K (ev x) H
  | .pick c a b => match ev c with | .bool t => splitB t fun t => K (if t = true then ev a else ev b) H | _ => False
  | .alloc e => match T e with | some ti => ∀ r, H r = none → K (.ptr r 0) (H.set r (.cells (ti.zero.map TZ.cv))) | none => False
  | .box _ x => (ev x).stor = true ∧ ∀ r, H r = none → K (.ptr r 0) (H.set r (.cells (ev x).cells))
  | .build t parts => match T t with
    | some ti => match ti.kind with
      | .struct fs => ∃ cs, cfill (fun i => (fs[i]?).map fun f => (f.1, f.2.1)) (ti.zero.map TZ.cv) (parts.toList.map fun p => (p.1, ev p.2)) = some cs ∧ K (.agg cs) H
      | .arr _ e => match T e with
        | some te => ∃ cs, cfill (fun i => some (i * te.size, te.size)) (ti.zero.map TZ.cv) (parts.toList.map fun p => (p.1, ev p.2)) = some cs ∧ K (.agg cs) H
        | none => False
      | _ => False
    | none => False
  | .buildSlice t len parts => match T t with
    | some ti => match ti.kind with
      | .slice e => match T e with
        | some te => len * te.size ≤ 16777216 ∧ ∃ cs, cfill (fun i => some (i * te.size, te.size)) (zeroCs te.zero (len * te.size)) (parts.toList.map fun p => (p.1, ev p.2)) = some cs ∧ ∀ r, H r = none → K (.ref r 0 len len) (H.set r (.cells cs))
        | none => False
      | _ => False
    | none => False
  | .load t a => match T t with
    | some ti => match ev a with
      | .ptr r o => ∃ cs, H r = some (.cells cs) ∧ vcLoad ti cs o fun c => K c H
      | .iptr cs => vcLoad ti cs 0 fun c => K c H
      | _ => False
    | none => False
  | .store t a v => match T t with
    | some ti => match ev a with
      | .ptr r o => ∃ cs, H r = some (.cells cs) ∧ (ev v).stor = true ∧ (ev v).cells.length = ti.size ∧ o + ti.size ≤ cs.length ∧ K .any (H.set r (.cells (cs.take o ++ (ev v).cells ++ cs.drop (o + ti.size))))
      | _ => False
    | none => False
  | .nilCheck x => match ev x with
    | .ptr r o => K (.ptr r o) H
    | .iptr cs => K (.iptr cs) H
    | .func (.func g) a b => K (.func (.func g) a b) H
    | _ => False
  | .binOp op t x y _ => vcBin T op t (ev x) (ev y) fun c => K c H
  | .unOp op _ x => match op, ev x with
    | .not, .bool b => K (.bool (!b)) H
    | .neg, .int k n => ∃ z, k.wrap (0 - n) = z ∧ K (.int k z) H
    | _, _ => False
  | .convert src dst x => match T src, T dst, ev x with
    | some _, some td, .int _ n => (match td.kind with | .int k => ∃ z, k.wrap n = z ∧ K (.int k z) H | _ => False)
    | _, _, _ => False
  | .makeInterface t x => match T t with
    | some ti => ti.kind ≠ .ifc ∧ K (.iface t (ev x)) H
    | none => False
  | .makeFunc fn f c => K (.func fn (f.toList.map ev) (c.toList.map ev)) H
  | .makeSlice t l c => match T t with
    | some ti => match ti.kind with
      | .slice e => match T e with
        | some te => match ev l, ev c with
          | .int _ n, .int _ m => 0 ≤ n ∧ n ≤ m ∧ m * te.bytes ≤ 281474976710656 ∧ m ≤ 9223372036854775807 ∧ ∀ r, H r = none → K (.ref r 0 n.toNat m.toNat) (H.set r (.cells (zeroCs te.zero (m.toNat * te.size))))
          | _, _ => False
        | none => False
      | _ => False
    | none => False
  | .slice t x lo hi none => match T t with
    | some ti => match ti.kind with
      | .slice e => match T e with
        | some te => match ev x with
          | .sl sz xs => sz = te.size ∧ bnd (hi.map ev) xs.length fun h => h ≤ xs.length ∧ bnd (lo.map ev) 0 fun l => l ≤ h ∧ K (.sl sz ((xs.take h).drop l)) H
          | .ref r o n c => bnd (hi.map ev) n fun h => h ≤ c ∧ bnd (lo.map ev) 0 fun l => l ≤ h ∧ K (.ref r (if c = l then o else o + l * te.size) (h - l) (c - l)) H
          | .nilsl => bnd (hi.map ev) 0 fun h => h ≤ 0 ∧ bnd (lo.map ev) 0 fun l => l ≤ h ∧ K .nilsl H
          | _ => False
        | none => False
      | .str => match ev x with
        | .str s => bnd (hi.map ev) s.size fun h => h ≤ s.size ∧ bnd (lo.map ev) 0 fun l => l ≤ h ∧ K (.str (s.extract l h)) H
        | _ => False
      | _ => False
    | none => False
  | .slice t x none (some hi) (some mx) => vcSl3 T t (ev x) (ev hi) (ev mx) fun c => K c H
  | .fieldAddr t x f => match T t with
    | some ti => match ti.kind with
      | .struct fs => match fs[f]? with
        | some (off, size, _) => size ≠ 0 ∧ (match ev x with
          | .ptr r o => K (.ptr r (o + off)) H
          | .iptr cs => K (.iptr (cs.drop off)) H
          | _ => False)
        | none => False
      | _ => False
    | none => False
  | .field t x f => match T t with
    | some ti => match ti.kind with
      | .struct fs => match fs[f]? with
        | some (off, size, ag) => (match ev x with
          | .agg cs => if ag = true then off + size ≤ cs.length ∧ K (.agg ((cs.drop off).take size)) H else ∃ c, cs[off]? = some c ∧ K c H
          | _ => False)
        | none => False
      | _ => False
    | none => False
  | .indexAddr t x i => match T t with
    | some ti => match ti.kind with
      | .slice e => match T e, ev i with
        | some te, .int _ n => (match ev x with
          | .ref r o len _ => 0 ≤ n ∧ n < len ∧ K (.ptr r (o + n.toNat * te.size)) H
          | .sl sz xs => sz = te.size ∧ 0 ≤ n ∧ ∃ el, xs[n.toNat]? = some el ∧ K (.iptr el) H
          | _ => False)
        | _, _ => False
      | .arr len e => match T e, ev i with
        | some te, .int _ n => (match ev x with
          | .ptr r o => 0 ≤ n ∧ n < len ∧ K (.ptr r (o + n.toNat * te.size)) H
          | .iptr cs => 0 ≤ n ∧ n < len ∧ K (.iptr (cs.drop (n.toNat * te.size))) H
          | _ => False)
        | _, _ => False
      | _ => False
    | none => False
  | .index t x i => match T t with
    | some ti => match ti.kind, ev x, ev i with
      | .str, .str s, .int _ n => 0 ≤ n ∧ ∃ h : n.toNat < s.size, K (.int .u8 (s[n.toNat]).toNat) H
      | .arr len e, .agg cs, .int _ n => (match T e with
        | some te => te.kind.agg = false ∧ 0 ≤ n ∧ n < len ∧ ∃ c, cs[n.toNat * te.size]? = some c ∧ K c H
        | none => False)
      | _, _, _ => False
    | none => False
  | .extract x i => match ev x with
    | .tuple cs => ∃ c, cs[i]? = some c ∧ K c H
    | _ => False
  | _ => False

/-- What an operation comes to. -/
def GoodN (W : World) (F : Hp) (K : CV → Hp → Prop) (r : Result Next) : Prop :=
  ∃ nx w' c H', r = .ok nx w' ∧ ((∃ v, nx = .value v ∧ Rep W c v) ∨ (nx = .skip ∧ c = .any)) ∧ Disj H' F ∧ Held W (hun H' F) w' ∧ K c H'

section
variable {P : Program} {T : Tab} {W : World} {H F : Hp} {w : World} {K : CV → Hp → Prop}
theorem GoodV.next {s : Sem Value} (h : GoodV W F K (s.run P w)) : GoodN W F K ((do let v ← s; pure (Next.value v)).run P w) := by
  obtain ⟨v, w', c, H', hr, h1, h2, h3, h4⟩ := h
  exact ⟨.value v, w', c, H', by rw [Sem.run_bind, hr]; rfl, .inl ⟨v, rfl, h1⟩, h2, h3, h4⟩
theorem splice_toList (off : Nat) : ∀ (l : List Value) (k : Nat) (cells : Array Value), off + k + l.length ≤ cells.size →
    ((l.zipIdx k).foldl (fun cs (x : Value × Nat) => cs.setIfInBounds (off + x.2) x.1) cells).toList = cells.toList.take (off + k) ++ l ++ cells.toList.drop (off + k + l.length)
  | [], k, cells, _ => by simp
  | v :: r, k, cells, h => by
    have ih := splice_toList off r (k + 1) (cells.setIfInBounds (off + k) v) (by simp at h ⊢; omega)
    rw [List.zipIdx_cons, List.foldl_cons, ih]
    have e := list_seg_step cells.toList (off + k) v r (by simp at h ⊢; omega)
    simpa [Array.toList_setIfInBounds, Nat.add_assoc] using e
theorem fill_sound {place : Nat → Option (Nat × Nat)} : ∀ {ps : List (Nat × CV)} {vs : List (Nat × Value)} {cells : List CV} {cs : List CV} {arr : Array Value},
    cfill place cells ps = some cs → ps.length = vs.length → (∀ (i : Nat) p v, ps[i]? = some p → vs[i]? = some v → p.1 = v.1 ∧ Rep W p.2 v.2) → RepC W cells arr.toList → ∃ out, Instr.fill place arr vs = some out ∧ RepC W cs out.toList
  | [], [], cells, cs, arr, h, _, _, hr => by
    simp only [cfill, Option.some.injEq] at h
    subst h
    exact ⟨arr, rfl, hr⟩
  | (i, c) :: ps, (j, v) :: vs, cells, cs, arr, h, hl, hp, hr => by
    obtain ⟨e, hcv⟩ := hp 0 _ _ rfl rfl
    simp only at e hcv
    subst e
    unfold cfill at h
    unfold Instr.fill
    split at h
    · cases h
    · rename_i off size hpl
      simp only [hpl]
      split at h
      · rename_i hc
        obtain ⟨h1, h2, h3⟩ := hc
        have hcc := hcv.cells h1
        have hsz : v.cells.size = size := by rw [← h2]; exact (by simpa using hcc.1.1.symm)
        have hal : cells.length = arr.size := by simpa using hr.1.1
        have hif : (v.cells.size != size || decide (off + v.cells.size > arr.size)) = false := by
          rw [hsz]; simp; omega
        rw [if_neg (by rw [Bool.or_eq_true, not_or]; simp only [Bool.or_eq_false_iff] at hif ⊢; simpa using hif)]
        refine fill_sound h (by simpa using hl) (fun k p u hk hu => hp (k + 1) p u (by simpa using hk) (by simpa using hu)) ?_
        have es := splice_toList off v.cells.toList 0 arr (by simp; omega)
        rw [← Array.foldl_toList, Array.toList_zipIdx]
        have : (v.cells.toList.zipIdx.foldl (fun cs (x : Value × Nat) => cs.setIfInBounds (off + x.2) x.1) arr).toList = _ := es
        rw [show ((v.cells.toList.zipIdx.foldl (fun cs x => match x with | (c, j) => cs.setIfInBounds (off + j) c) arr).toList) = (v.cells.toList.zipIdx.foldl (fun cs (x : Value × Nat) => cs.setIfInBounds (off + x.2) x.1) arr).toList from rfl, this]
        rw [show (off + 0 + v.cells.toList.length) = off + size by simp [hsz], Nat.add_zero]
        exact ((hr.take off).append hcc).append (hr.drop (off + size))
      · cases h
  | [], _ :: _, _, _, _, _, hl, _, _ => by simp at hl
  | _ :: _, [], _, _, _, _, hl, _, _ => by simp at hl
theorem Held.setRow {H : Hp} (h : Held W H w) {r : Nat} {cs cs' : List CV} {arr : Array Value} (hr : H r = some (.cells cs)) (hc : RepC W cs' arr.toList) : Held W (H.set r (.cells cs')) (w.setRow r arr) := by
  obtain ⟨hb, ob, hob, c, t, rfl, _⟩ := h.at_ r _ hr
  refine ⟨h.below.trans ⟨rfl, rfl, rfl, by simp, fun k hk => setRow_other w r k arr (by omega)⟩, fun i o ho => ?_⟩
  by_cases e : i = r
  · subst e
    simp only [Hp.set, if_true, Option.some.injEq] at ho
    subst ho
    exact ⟨hb, _, setRow_heap w i c arr t (0, 0) hob, arr, t, rfl, hc⟩
  · simp only [Hp.set, if_neg e] at ho
    obtain ⟨h1, ob', h2, h3⟩ := h.at_ i o ho
    exact ⟨h1, ob', by rw [setRow_other w r i arr e]; exact h2, h3⟩
theorem good_store {t : TypeId} {ti : TI} (f : TFact P t ti) (hd : Disj H F) (hh : Held W (hun H F) w) {r o : Nat} {cs : List CV} {c : CV} {v : Value} (hr : H r = some (.cells cs)) (hv : Rep W c v) (h1 : c.stor = true) (h2 : c.cells.length = ti.size) (h3 : o + ti.size ≤ cs.length)
    (h : K .any (H.set r (.cells (cs.take o ++ c.cells ++ cs.drop (o + ti.size))))) : GoodN W F K ((do Instr.storeAt t (.pointer (some ⟨r, o, none⟩)) v; pure Next.skip).run P w) := by
  obtain ⟨arr, t', hb, hc⟩ := hh.cellsAt (hun_left hr)
  have hcc := hv.cells h1
  have hsz : v.cells.size = ti.size := by rw [← h2]; exact (by simpa using hcc.1.1.symm)
  have hal : cs.length = arr.size := by simpa using hc.1.1
  have hst := run_storeCells_at P r o t' v.cells.toList 0 arr w hb (by simp; omega) (fun u hu => by obtain ⟨i, hi⟩ := List.mem_iff_getElem?.1 hu; exact hcc.2 i u hi)
  refine ⟨.skip, w.setRow r (arr.toList.take o ++ v.cells.toList ++ arr.toList.drop (o + ti.size)).toArray, .any, H.set r (.cells (cs.take o ++ c.cells ++ cs.drop (o + ti.size))), ?_, .inr ⟨rfl, rfl⟩, disj_set_old hd hr, ?_, h⟩
  · simp only [Sem.run_bind, Instr.storeAt, Instr.sureAddr, Sem.run_pure, Result.andThen_ok, storeVar, f.size, hsz]
    simp only [Nat.add_zero, Array.length_toList, hsz] at hst
    simp [hst]
  · rw [hun_set]
    refine hh.setRow (hun_left hr) ?_
    simpa using ((hc.take o).append hcc).append (hc.drop (o + ti.size))
end
end Go.Cl
