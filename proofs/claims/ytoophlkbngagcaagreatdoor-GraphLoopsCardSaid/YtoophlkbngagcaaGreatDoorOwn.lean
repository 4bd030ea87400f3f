/- DERIVED HERE. The clean layer: slices that grow by append. -/
import Derived.Test.YtoophlkbngagcaaGreatDoorS0
import Derived.Test.YtoophlkbngagcaaGreatDoorClE
set_option linter.unusedSimpArgs false
set_option linter.unusedVariables false
namespace Go.Cl
open Go.Proofs
/-- A load that must stay does so where more is held. -/
theorem stabI_le {X : Cx} {N : Nat} {ops : Array Oper} {s : CA} {H H' : Hp} {z : Nat} (hc : ((ops[z]?).map fun o => decide (clsO o.op = .load)) = some true) (hl : Le H H') : stabI X N ops s H H' z := by
  unfold stabI
  cases ho : ops[z]? with
  | none => trivial
  | some o =>
    rw [ho] at hc
    simp at hc
    intro c h
    obtain ⟨c', h1, h2⟩ := load_exact hc h
    have : c' = c := h1.1
    subst this
    exact h2 H' hl
/-- v is a slice with the elements xs, in a block that the base H0 doesn't know (or it is nil). -/
def Own (H0 H : Hp) (v : CV) (sz : Nat) (xs : List (List CV)) : Prop :=
  Le H0 H ∧ (∀ e ∈ xs, e.length = sz) ∧ ((v = .nilsl ∧ xs = []) ∨ ∃ r c ex, v = .ref r 0 xs.length c ∧ H0 r = none ∧ H r = some (.cells (xs.flatten ++ ex)) ∧ ex.length = (c - xs.length) * sz ∧ xs.length ≤ c)
theorem flat_len {sz : Nat} : ∀ {xs : List (List CV)}, (∀ e ∈ xs, e.length = sz) → xs.flatten.length = xs.length * sz
  | [], _ => by simp
  | x :: xs, h => by
    have := flat_len (xs := xs) fun e he => h e (List.mem_cons_of_mem _ he)
    rw [List.flatten_cons, List.length_append, this, h x (List.mem_cons_self ..), List.length_cons, Nat.add_mul]
    omega
theorem Le.none {A B : Hp} (h : Le A B) {r : Nat} (hr : B r = none) : A r = none := by
  cases hc : A r with
  | none => rfl
  | some o => rw [h r o hc] at hr; cases hr
theorem Own.nil {H0 H : Hp} {sz : Nat} (h : Le H0 H) : Own H0 H .nilsl sz [] := ⟨h, fun _ h => by simp at h, .inl ⟨rfl, rfl⟩⟩
theorem Own.le {H0 H : Hp} {v : CV} {sz : Nat} {xs : List (List CV)} (h : Own H0 H v sz xs) : Le H0 H := h.1
theorem Own.len {H0 H : Hp} {v : CV} {sz : Nat} {xs : List (List CV)} (h : Own H0 H v sz xs) : ∀ e ∈ xs, e.length = sz := h.2.1
theorem Own.more {H0 H : Hp} {v : CV} {sz : Nat} {xs : List (List CV)} (h : Own H0 H v sz xs) {r : Nat} {o : Ob} (hr : H r = Option.none) : Own H0 (H.set r o) v sz xs := by
  refine ⟨h.1.trans (Le.set_new hr), h.2.1, ?_⟩
  rcases h.2.2 with h | ⟨q, c, ex, h1, h2, h3, h4⟩
  · exact .inl h
  · exact .inr ⟨q, c, ex, h1, h2, Le.set_new hr q _ h3, h4⟩
theorem Own.mono {H0 H H' : Hp} {v : CV} {sz : Nat} {xs : List (List CV)} (h : Own H0 H v sz xs) (hl : Le H H') : Own H0 H' v sz xs := by
  refine ⟨h.1.trans hl, h.2.1, ?_⟩
  rcases h.2.2 with h | ⟨q, c, ex, h1, h2, h3, h4⟩
  · exact .inl h
  · exact .inr ⟨q, c, ex, h1, h2, hl q _ h3, h4⟩
theorem Own.base {H0 H1 H : Hp} {v : CV} {sz : Nat} {xs : List (List CV)} (h : Own H0 H v sz xs) (hl : Le H1 H0) : Own H1 H v sz xs := by
  refine ⟨hl.trans h.1, h.2.1, ?_⟩
  rcases h.2.2 with h | ⟨q, c, ex, h1, h2, h3, h4⟩
  · exact .inl h
  · exact .inr ⟨q, c, ex, h1, hl.none h2, h3, h4⟩
theorem Own.append {H0 H : Hp} {v x : CV} {te : TI} {xs ys : List (List CV)} {K : CV → Hp → Prop} (h : Own H0 H v te.size xs) (hy : ∀ e ∈ ys, e.length = te.size) (hb : (xs.length + ys.length) * te.bytes ≤ 140737488355328)
    (hs : ∀ K' : Nat → List CV → Prop, K' ys.length ys.flatten → srcC H te.size x K') (hK : ∀ v' H', Own H0 H' v' te.size (xs ++ ys) → (∀ r o, H r = some o → (∀ n c, v ≠ .ref r 0 n c) → H' r = some o) → K v' H') : vcAppend te v x H K := by
  obtain ⟨hle, hx, h⟩ := h
  have hxy : ∀ e ∈ xs ++ ys, e.length = te.size := fun e he => (List.mem_append.1 he).elim (hx e) (hy e)
  unfold vcAppend
  refine hs _ ?_
  have hfx := flat_len hx
  have hfy := flat_len hy
  rcases h with ⟨rfl, rfl⟩ | ⟨r, c, ex, rfl, hr0, hr, hex, hc⟩
  · refine ⟨by simpa using hb, fun h0 => hK _ _ ⟨hle, hxy, .inl ⟨rfl, ?_⟩⟩ fun r o hr _ => hr, fun hp r c hr hc => hK _ _ ⟨hle.trans (Le.set_new hr), hxy, .inr ⟨r, c, zeroCs te.zero ((c - ys.length) * te.size), ?_, hle.none hr, by simp [set_at], ?_, by simpa using hc⟩⟩ fun q o hq _ => Le.set_new hr q o hq⟩
    · simpa using List.length_eq_zero_iff.1 h0
    · simp
    · simp [zeroCs]
  · have e1 : (c - xs.length) * te.size + xs.length * te.size = c * te.size := by rw [← Nat.add_mul]; congr 1; omega
    refine ⟨_, hr, by rw [List.length_append, hfx, hex]; omega, hc, hb, fun hfit => hK _ _ ⟨hle.put hr0, hxy, .inr ⟨r, c, ex.drop (ys.length * te.size), ?_, hr0, ?_, ?_, by simpa using hfit⟩⟩ fun q o hq hne => ?_, fun hfit r' c' hr' hc' => hK _ _ ⟨hle.trans (Le.set_new hr'), hxy, .inr ⟨r', c', zeroCs te.zero ((c' - (xs.length + ys.length)) * te.size), ?_, hle.none hr', ?_, ?_, by simpa using hc'⟩⟩ fun q o hq _ => Le.set_new hr' q o hq⟩
    · simp
    · rw [set_at, Nat.zero_add, ← hfx, List.take_left, ← List.drop_drop, List.drop_left, List.flatten_append, List.append_assoc]
    · rw [List.length_drop, hex, List.length_append, ← Nat.sub_mul, Nat.sub_sub]
    · have : q ≠ r := fun e => hne xs.length c (by rw [e])
      rw [show (H.set r _) q = H q from by simp [Hp.set, this]]
      exact hq
    · simp
    · rw [set_at, List.drop_zero, ← hfx, List.take_left, List.flatten_append]
    · simp [zeroCs]
theorem src_ref {H : Hp} {r c sz : Nat} {ys : List (List CV)} (hr : H r = some (.cells ys.flatten)) (hy : ∀ e ∈ ys, e.length = sz) : ∀ K' : Nat → List CV → Prop, K' ys.length ys.flatten → srcC H sz (.ref r 0 ys.length c) K' := by
  intro K' hK
  refine ⟨_, hr, by rw [flat_len hy]; omega, ?_⟩
  rw [List.drop_zero, List.take_of_length_le (by rw [flat_len hy]; exact Nat.le_refl _)]
  exact hK
theorem src_one {H : Hp} {r c sz : Nat} {y : List CV} (hr : H r = some (.cells y)) (hy : y.length = sz) : ∀ K' : Nat → List CV → Prop, K' [y].length [y].flatten → srcC H sz (.ref r 0 1 c) K' :=
  src_ref (ys := [y]) (by simpa using hr) (by simpa using hy)
theorem Own.src {H0 H : Hp} {v : CV} {sz : Nat} {xs : List (List CV)} (h : Own H0 H v sz xs) : ∀ K' : Nat → List CV → Prop, K' xs.length xs.flatten → srcC H sz v K' := by
  obtain ⟨hle, hx, h⟩ := h
  intro K' hK
  rcases h with ⟨rfl, rfl⟩ | ⟨r, c, ex, rfl, hr0, hr, hex, hc⟩
  · exact hK
  · refine ⟨_, hr, by rw [List.length_append, flat_len hx]; omega, ?_⟩
    rw [List.drop_zero, ← flat_len hx, List.take_left]
    exact hK
theorem flat_get {sz : Nat} : ∀ {xs : List (List CV)} (h : ∀ e ∈ xs, e.length = sz) {i j : Nat} {e : List CV}, xs[i]? = some e → j < sz → xs.flatten[i * sz + j]? = e[j]?
  | x :: xs, h, 0, j, e, he, hj => by
    simp at he
    subst he
    rw [List.flatten_cons, Nat.zero_mul, Nat.zero_add, List.getElem?_append_left (by rw [h x (List.mem_cons_self ..)]; exact hj)]
  | x :: xs, h, i + 1, j, e, he, hj => by
    have hx := h x (List.mem_cons_self ..)
    rw [List.flatten_cons, List.getElem?_append_right (by rw [hx, Nat.add_mul]; omega), hx, show (i + 1) * sz + j - sz = i * sz + j by rw [Nat.add_mul]; omega]
    exact flat_get (fun e he => h e (List.mem_cons_of_mem _ he)) (by simpa using he) hj
/-- Frozen, its elements frozen each. -/
theorem Own.fzD {H0 H : Hp} {v : CV} {sz : Nat} {xs zs : List (List CV)} (h : Own H0 H v sz xs) (hl : xs.length = zs.length) (hz : ∀ e ∈ zs, e.length = sz) (hf : ∀ (i j : Nat) e f x y, xs[i]? = some e → zs[i]? = some f → e[j]? = some x → f[j]? = some y → Fz H x y) : Fz H v (.sl sz zs) := by
  obtain ⟨hle, hx, h⟩ := h
  rcases h with ⟨rfl, rfl⟩ | ⟨r, c, ex, rfl, hr0, hr, hex, hc⟩
  · have : zs = [] := List.length_eq_zero_iff.1 hl.symm
    subst this
    exact .nil sz
  · refine .ref r 0 xs.length c sz _ zs hr hl.symm hc (fun i e he => hz e (List.mem_of_getElem? he)) (fun i j => ((xs.getD i []).getD j .any)) (fun i j hi hj => ?_) (fun i j e x he hx' => ?_)
    · have he : xs[i]? = some (xs.getD i []) := by rw [List.getD_eq_getElem?_getD, List.getElem?_eq_getElem hi]; rfl
      have hel := hx _ (List.mem_of_getElem? he)
      rw [Nat.zero_add, List.getElem?_append_left, flat_get hx he hj]
      · generalize xs.getD i [] = q at hel ⊢
        rw [List.getD_eq_getElem?_getD, List.getElem?_eq_getElem (by omega)]; rfl
      · rw [flat_len hx]
        have : (i + 1) * sz ≤ xs.length * sz := Nat.mul_le_mul_right _ hi
        rw [Nat.add_mul] at this
        omega
    · have hi : i < xs.length := by rw [hl]; exact (List.getElem?_eq_some_iff.1 he).1
      have hj : j < sz := by rw [← hz e (List.mem_of_getElem? he)]; exact (List.getElem?_eq_some_iff.1 hx').1
      have he' : xs[i]? = some (xs.getD i []) := by rw [List.getD_eq_getElem?_getD, List.getElem?_eq_getElem hi]; rfl
      have hel := hx _ (List.mem_of_getElem? he')
      generalize xs.getD i [] = q at hel he' ⊢
      exact hf i j _ e _ x he' he (by rw [List.getD_eq_getElem?_getD, List.getElem?_eq_getElem (by omega)]; rfl) hx'
theorem Own.fz {H0 H : Hp} {v : CV} {sz : Nat} {xs : List (List CV)} (h : Own H0 H v sz xs) : Fz H v (.sl sz xs) :=
  h.fzD rfl h.len fun i j e f x y h1 h2 h3 h4 => by
    rw [h1] at h2; injection h2 with h2; subst h2
    rw [h3] at h4; injection h4 with h4; subst h4
    exact .same _
end Go.Cl
