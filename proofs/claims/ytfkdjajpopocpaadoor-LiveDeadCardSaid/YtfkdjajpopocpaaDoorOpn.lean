/- DERIVED HERE. The clean layer: what came in, read as a datum, is a clean value that nobody writes. -/
import Derived.Test.YtfkdjajpopocpaaDoorTG
import Derived.Deep.Slices
import Derived.ChangeArms
set_option linter.unusedSimpArgs false
set_option linter.unusedVariables false
namespace Go.Cl
open Go.Proofs
/-- A type's cells, read as a datum, are clean values of a form. -/
structure Dec (P : Program) (W : World) (t : TypeId) (n : Nat) (R : List CV → Prop) : Prop where
  c : P.cellsOf t = n
  d : ∀ {H : Type} (enc : TypeId × Value → H) (base : Nat) (spare : Nat → Bool) (held : Bool) (fuel : Nat) (cs : List Value) (x : DataW H × List MemPlace), DataW.trod enc P W base spare held fuel t cs = some x → ∃ xs, R xs ∧ xs.length = n ∧ RepC W xs cs
section
variable {P : Program} {W : World}
theorem Dec.mono {t : TypeId} {n : Nat} {R R' : List CV → Prop} (h : Dec P W t n R) (hr : ∀ xs, R xs → R' xs) : Dec P W t n R' :=
  ⟨h.c, fun enc base spare held fuel cs x k => by obtain ⟨xs, h1, h2, h3⟩ := h.d enc base spare held fuel cs x k; exact ⟨xs, hr _ h1, h2, h3⟩⟩
theorem RepC.one {x : CV} {v : Value} (h : Rep W x v) (ho : v.oneCell' = true) : RepC W [x] [v] := by
  refine ⟨⟨rfl, fun i y u hy hu => ?_⟩, fun i u hu => ?_⟩
  · cases i with
    | zero => simp at hy hu; subst hy; subst hu; exact h
    | succ i => simp at hy
  · cases i with
    | zero => simp at hu; subst hu; exact ho
    | succ i => simp at hu
theorem RepC.app {a b : List CV} {A B : List Value} (h : RepC W a A) (k : RepC W b B) : RepC W (a ++ b) (A ++ B) := by
  have hl := h.1.1
  refine ⟨⟨by simp [hl, k.1.1], fun i x v hx hv => ?_⟩, fun i v hv => ?_⟩
  · rcases Nat.lt_or_ge i a.length with hi | hi
    · rw [List.getElem?_append_left hi] at hx
      rw [List.getElem?_append_left (by omega)] at hv
      exact h.1.2 i x v hx hv
    · rw [List.getElem?_append_right hi] at hx
      rw [List.getElem?_append_right (by omega), ← hl] at hv
      exact k.1.2 _ x v hx hv
  · rcases Nat.lt_or_ge i A.length with hi | hi
    · rw [List.getElem?_append_left hi] at hv
      exact h.2 i v hv
    · rw [List.getElem?_append_right hi] at hv
      exact k.2 _ v hv
def RInt (k : IntKind) (xs : List CV) : Prop := ∃ n, xs = [.int k n]
theorem dec_int {t : TypeId} {k : IntKind} (ht : P.underlying t = some (.int k)) (hc : P.cellsOf t = 1) : Dec P W t 1 (RInt k) :=
  ⟨hc, fun enc base spare held fuel cs x h => by
    obtain ⟨n, rfl, _, _⟩ := DataW.trod_int ht h
    exact ⟨[.int k n], ⟨n, rfl⟩, rfl, RepC.one (.int k n) rfl⟩⟩
def RSl (n : Nat) (R : List CV → Prop) (xs : List CV) : Prop := ∃ l, xs = [.sl n l] ∧ ∀ y ∈ l, R y
theorem dec_slice {t e : TypeId} {n : Nat} {R : List CV → Prop} (ht : P.underlying t = some (.slice e)) (hc : P.cellsOf t = 1) (he : Dec P W e n R) : Dec P W t 1 (RSl n R) :=
  ⟨hc, fun enc base spare held fuel cs x h => by
    rcases Deep.open_slice ht h with ⟨rfl, _⟩ | ⟨a, len, cap, m, k, D, Pl, rfl, hb, hl, hm, hmm, rfl, hx⟩
    · exact ⟨[.sl n []], ⟨[], rfl, fun y hy => by cases hy⟩, rfl, RepC.one (.sl n [] none 0 (fun _ _ => .bool false) (Nat.le_refl _) (fun i e he => by simp at he) (fun i j hi => by simp at hi) (fun h => by simp at h) (fun i j e x he => by simp at he)) rfl⟩
    · rw [he.c] at hx
      have hlm : len ≤ m := by rw [hmm]; split <;> omega
      have key : ∀ i, ∃ q : List CV × List Value, i < len → (R q.1 ∧ q.1.length = n ∧ RepC W q.1 q.2 ∧ ∀ j, j < n → W.cell? (a.add (i * n + j)) = q.2[j]?) := fun i => by
        by_cases hi : i < len
        · obtain ⟨cs', h1, h2⟩ := hx i (by omega)
          obtain ⟨xs, h3, h4, h5⟩ := he.d _ _ _ _ _ _ _ h2
          obtain ⟨_, h6, h7⟩ := World.cells?_some h1
          exact ⟨(xs, cs'), fun _ => ⟨h3, h4, h5, fun j hj => by rw [← Deep.add_add]; exact h7 j hj⟩⟩
        · exact ⟨([], []), fun h => absurd h hi⟩
      obtain ⟨f, hf⟩ := Classical.axiomOfChoice key
      refine ⟨[.sl n ((List.range len).map fun i => (f i).1)], ⟨_, rfl, fun y hy => ?_⟩, rfl, RepC.one ?_ rfl⟩
      · obtain ⟨i, hi, rfl⟩ := List.mem_map.1 hy
        exact (hf i (List.mem_range.1 hi)).1
      · have hlen : ((List.range len).map fun i => (f i).1).length = len := by simp
        have hget : ∀ (i : Nat) e, ((List.range len).map fun i => (f i).1)[i]? = some e → i < len ∧ e = (f i).1 := fun i e he => by
          have hi := (List.getElem?_eq_some_iff.1 he).1
          rw [hlen] at hi
          rw [List.getElem?_map, List.getElem?_range hi] at he
          injection he with he
          exact ⟨hi, he.symm⟩
        have := Rep.sl (W := W) n ((List.range len).map fun i => (f i).1) (some a) cap (fun i j => (f i).2.getD j (.bool false)) (by rw [hlen]; exact hl) (fun i e he => by obtain ⟨hi, rfl⟩ := hget i e he; exact (hf i hi).2.1) (fun i j hi hj => ?_) (fun _ => ⟨a, rfl⟩) (fun i j e x he hx => ?_)
        · rw [hlen] at this
          exact this
        · rw [hlen] at hi
          obtain ⟨h1, h2, h3, h4⟩ := hf i hi
          have hjl : j < (f i).2.length := by rw [← h3.1.1, h2]; exact hj
          refine ⟨a, rfl, ?_, ?_⟩
          · rw [h4 j hj, List.getD_eq_getElem?_getD, List.getElem?_eq_getElem hjl]; rfl
          · rw [List.getD_eq_getElem?_getD, List.getElem?_eq_getElem hjl]
            exact h3.2 j _ (List.getElem?_eq_getElem hjl)
        · obtain ⟨hi, rfl⟩ := hget i e he
          obtain ⟨h1, h2, h3, h4⟩ := hf i hi
          have hjl : j < (f i).2.length := by rw [← h3.1.1]; exact (List.getElem?_eq_some_iff.1 hx).1
          rw [List.getD_eq_getElem?_getD, List.getElem?_eq_getElem hjl]
          exact h3.1.2 j x _ hx (List.getElem?_eq_getElem hjl)⟩
abbrev DF := TypeId × Nat × (List CV → Prop)
def offs : Nat → List DF → List (TypeId × Nat)
  | _, [] => []
  | o, (t, n, _) :: l => (t, o) :: offs (o + n) l
def tot : List DF → Nat
  | [] => 0
  | (_, n, _) :: l => n + tot l
def Cat : List (List CV → Prop) → List CV → Prop
  | [], xs => xs = []
  | R :: Rs, xs => ∃ a b, xs = a ++ b ∧ R a ∧ Cat Rs b
theorem fields {H : Type} {enc : TypeId × Value → H} {base : Nat} {spare : Nat → Bool} {held : Bool} {fuel : Nat} {cs : List Value} : ∀ (l : List DF) (o : Nat), (∀ x ∈ l, Dec P W x.1 x.2.1 x.2.2) →
    (∀ p ∈ offs o l, ∃ x, DataW.trod enc P W base spare held fuel p.1 ((cs.drop p.2).take (P.cellsOf p.1)) = some x) → ∃ ys, Cat (l.map fun x => x.2.2) ys ∧ ys.length = tot l ∧ RepC W ys ((cs.drop o).take (tot l))
  | [], o, _, _ => ⟨[], rfl, rfl, by simp only [tot, List.take_zero]; exact RepC.nil W⟩
  | (t, n, R) :: l, o, hd, hx => by
    obtain ⟨x, h1⟩ := hx (t, o) (List.mem_cons_self ..)
    have h0 := hd (t, n, R) (List.mem_cons_self ..)
    simp only at h1 h0
    rw [h0.c] at h1
    obtain ⟨a, h2, h3, h4⟩ := h0.d _ _ _ _ _ _ _ h1
    obtain ⟨b, h5, h6, h7⟩ := fields l (o + n) (fun y hy => hd y (List.mem_cons_of_mem _ hy)) fun p hp => hx p (List.mem_cons_of_mem _ hp)
    refine ⟨a ++ b, ⟨a, b, rfl, h2, h5⟩, by simp [tot, h3, h6], ?_⟩
    simp only [tot]
    rw [List.take_add, List.drop_drop]
    exact h4.app h7
def structOk (P : Program) (t : TypeId) (l : List (TypeId × Nat)) : Bool := match P.underlying t with
  | some (.struct fs) => decide (fs.toList.map (fun f => (f.type, f.offset)) = l)
  | _ => false
theorem dec_struct {t : TypeId} {n : Nat} (l : List DF) (hs : structOk P t (offs 0 l) = true) (hc : P.cellsOf t = n) (hn : tot l = n) (hd : ∀ x ∈ l, Dec P W x.1 x.2.1 x.2.2) : Dec P W t n (Cat (l.map fun x => x.2.2)) :=
  ⟨hc, fun enc base spare held fuel cs x h => by
    simp only [structOk] at hs
    split at hs
    · rename_i fs hu
      have hs := of_decide_eq_true hs
      obtain ⟨xs, m, rfl, _, hl, hxl, hall⟩ := DataW.trod_struct hu h
      obtain ⟨ys, h1, h2, h3⟩ := fields (P := P) (W := W) (enc := enc) (base := base) (spare := spare) (held := held) (fuel := m) (cs := cs) l 0 hd fun p hp => by
        rw [← hs] at hp
        obtain ⟨f, hf, rfl⟩ := List.mem_map.1 hp
        obtain ⟨i, hi, hfi⟩ := List.mem_iff_getElem.1 hf
        have hi' : i < fs.size := by simpa using hi
        have := hall i f (by rw [Array.getElem?_eq_getElem hi']; congr 1)
        rw [List.getElem?_eq_getElem (by omega)] at this
        exact ⟨_, this⟩
      refine ⟨ys, h1, by rw [h2, hn], ?_⟩
      rw [List.drop_zero, hn, ← hc, ← hl, List.take_length] at h3
      exact h3
    · cases hs⟩
theorem list_of {α : Type} {l : List (List CV)} {f : α → List CV} (h : ∀ y ∈ l, ∃ o, y = f o) : ∃ os, l = List.map f os := by
  induction l with
  | nil => exact ⟨[], rfl⟩
  | cons y l ih =>
    obtain ⟨o, ho⟩ := h y (List.mem_cons_self ..)
    obtain ⟨os, hos⟩ := ih fun z hz => h z (List.mem_cons_of_mem _ hz)
    exact ⟨o :: os, by simp [ho, hos]⟩
end
end Go.Cl
