/- DERIVED HERE. The reference's graph: add. DERIVED HERE. The reference's graph: which blocks are reached. DERIVED HERE. The reference's graph: Of. DERIVED HERE. The reference's graph: Of. DERIVED HERE. The reference's Most. -/
import Derived.Test.YtoophlkbngagcaaGreatDoorGR
import Derived.Test.YtoophlkbngagcaaGreatDoorRB
import Derived.Test.YtoophlkbngagcaaGreatDoorLRf
set_option linter.unusedSimpArgs false
set_option linter.unusedVariables false
namespace Go.Cl.Gd
open Go.Proofs
variable {W : World} {G : Nat → CV}
set_option maxRecDepth 8000
/-- A number is put into a rising list. -/
def addL (n : Int) : List Int → List Int
  | [] => [n]
  | x :: t => if n ≤ x then (if n < x then n :: x :: t else x :: t) else x :: addL n t
theorem addL_mem {n : Int} : ∀ {l : List Int} {x : Int}, x ∈ addL n l ↔ x = n ∨ x ∈ l
  | [], x => by simp [addL]
  | y :: t, x => by
    simp only [addL]
    split
    · split
      · simp
      · have : n = y := by omega
        subst this
        simp
    · simp only [List.mem_cons, addL_mem (l := t)]
      constructor
      · rintro (h | h | h) <;> simp [h]
      · rintro (h | h | h) <;> simp [h]
theorem addL_len {n : Int} : ∀ {l : List Int}, (addL n l).length ≤ l.length + 1
  | [] => by simp [addL]
  | y :: t => by
    simp only [addL]
    have := addL_len (n := n) (l := t)
    split
    · split <;> simp
    · simp; omega
/-- The list so far. -/
def AdI (n : Int) (l : List Int) (i : Nat) (done : Bool) (out : List Int) : Prop :=
  (done = true ∧ out ++ l.drop i = addL n l) ∨ (done = false ∧ out = l.take i ∧ l.take i ++ addL n (l.drop i) = addL n l)
theorem AdI.start {n : Int} {l : List Int} : AdI n l 0 false [] := .inr ⟨rfl, by simp, by simp⟩
theorem AdI.len {n : Int} {l : List Int} {i : Nat} {done : Bool} {out : List Int} (h : AdI n l i done out) : out.length ≤ l.length + 1 := by
  have := addL_len (n := n) (l := l)
  rcases h with ⟨_, h⟩ | ⟨_, h, _⟩
  · rw [← h, List.length_append] at this; omega
  · rw [h, List.length_take]; omega
theorem AdI.next {n : Int} {l : List Int} {i : Nat} {done : Bool} {out : List Int} {x : Int} (h : AdI n l i done out) (hx : l[i]? = some x) :
    (done = true → AdI n l (i + 1) true (out ++ [x])) ∧ (done = false → n < x → AdI n l (i + 1) true ((out ++ [n]) ++ [x])) ∧ (done = false → n = x → AdI n l (i + 1) true (out ++ [x])) ∧ (done = false → ¬ n ≤ x → AdI n l (i + 1) false (out ++ [x])) := by
  obtain ⟨hi, he⟩ := List.getElem?_eq_some_iff.1 hx
  have hd : l.drop i = x :: l.drop (i + 1) := by rw [List.drop_eq_getElem_cons hi, he]
  have ht : l.take (i + 1) = l.take i ++ [x] := by rw [List.take_succ_eq_append_getElem hi, he]
  rcases h with ⟨rfl, h⟩ | ⟨rfl, h1, h2⟩
  · refine ⟨fun _ => .inl ⟨rfl, ?_⟩, fun q => (by cases q), fun q => (by cases q), fun q => (by cases q)⟩
    rw [← h, hd]; simp
  · rw [hd] at h2
    simp only [addL] at h2
    refine ⟨fun q => (by cases q), fun _ q => .inl ⟨rfl, ?_⟩, fun _ q => .inl ⟨rfl, ?_⟩, fun _ q => .inr ⟨rfl, ?_, ?_⟩⟩
    · rw [if_pos (by omega), if_pos q] at h2
      rw [← h2, h1]; simp
    · rw [if_pos (by omega), if_neg (by omega)] at h2
      rw [← h2, h1]; simp
    · rw [ht, h1]
    · rw [if_neg q] at h2
      rw [← h2, ht]; simp
theorem AdI.done {n : Int} {l : List Int} {i : Nat} {out : List Int} (hi : l.length ≤ i) : (AdI n l i true out → out = addL n l) ∧ (AdI n l i false out → out ++ [n] = addL n l) := by
  have hd := List.drop_eq_nil_of_le hi
  constructor
  · rintro (⟨_, h⟩ | ⟨h, _⟩)
    · rw [← h, hd]; simp
    · cases h
  · rintro (⟨h, _⟩ | ⟨_, h1, h2⟩)
    · cases h
    · rw [hd] at h2
      rw [← h2, h1]
      simp [addL]
structure adI (H : Hp) (n : Int) (l : List Int) (vl : CV) (d : Nat) (m : Nat) (s' : CA) (H' : Hp) : Prop where
  ex : ∃ (i i7 : Nat) (done : Bool) (out : List Int) (v : CV), m = l.length - i ∧ i ≤ l.length ∧ s'.env 0 = vl ∧ s'.env 1 = ci n ∧ s'.env 5 = v ∧ s'.env 6 = .bool done ∧ s'.env 7 = .int .i64 i7 ∧ i7 + d = i ∧ s'.ds = [] ∧ AdI n l i done out ∧ Own H H' v 1 (ints out)
structure adX (H : Hp) (n : Int) (l : List Int) (s' : CA) (H' : Hp) : Prop where
  ex : ∃ (done : Bool) (out : List Int) (v : CV), s'.env 1 = ci n ∧ s'.env 5 = v ∧ s'.env 6 = .bool done ∧ s'.ds = [] ∧ AdI n l l.length done out ∧ Own H H' v 1 (ints out)
structure adM (H : Hp) (n : Int) (l : List Int) (vl : CV) (i : Nat) (x : Int) (s' : CA) (H' : Hp) : Prop where
  ex : ∃ (v2 : CV) (out2 : List Int) (done2 : Bool), s'.env 0 = vl ∧ s'.env 1 = ci n ∧ s'.env 5 = v2 ∧ s'.env 6 = .bool done2 ∧ s'.env 7 = .int .i64 i ∧ s'.ds = [] ∧ Own H H' v2 1 (ints out2) ∧ out2.length ≤ l.length + 2 ∧ AdI n l (i + 1) done2 (out2 ++ [x])
structure adN (H : Hp) (n : Int) (l : List Int) (vl : CV) (i : Nat) (x : Int) (s' : CA) (H' : Hp) : Prop where
  ex : ∃ (v2 : CV) (out2 : List Int), s'.env 0 = vl ∧ s'.env 1 = ci n ∧ s'.env 5 = v2 ∧ s'.env 7 = .int .i64 i ∧ s'.ds = [] ∧ Own H H' v2 1 (ints out2) ∧ out2.length ≤ l.length + 2 ∧ AdI n l (i + 1) true (out2 ++ [x])
theorem add_c (hX : CxOk (cx W G)) (vl : CV) (l : List Int) (n : Int) (hl : l.length ≤ 100000) (H : Hp) (hv : SlF H vl l) :
    CC Tryz.prog W 43 [vl, ci n] H fun x H' => ∃ v, x = .ret v ∧ Own H H' v 1 (ints (addL n l)) := by
  have hlen : (vl = .nilsl ∧ l.length = 0) ∨ ∃ r c, vl = .ref r 0 l.length c := by
    rcases hv with ⟨h1, h2⟩ | ⟨r, c, cs, h1, _⟩
    · exact .inl ⟨h1, by rw [h2]; rfl⟩
    · exact .inr ⟨r, _, h1⟩
  refine CC.of_cw hX Tryz.func43 rfl rfl (Nat.le_of_ble_eq_true rfl) ?_
  refine CW.walk hX mixed d43 rfl ?_
  simp
  refine CW.walk hX mixed d43 rfl ?_
  simp
  refine CW.walk hX mixed d43 rfl ?_
  simp
  refine CW.cut (adX H n l) ?_ ?_
  · refine CW.walk hX mixed d43 rfl ?_
    simp
    refine CW.block ?_
    refine CW.loop (adI H n l vl 0) ?_ (m := l.length) ⟨0, 0, false, [], .nilsl, rfl, by omega, by simp, by simp, by simp, by simp, by simp, rfl, rfl, AdI.start, Own.nil (Le.refl _)⟩
    rintro m ⟨e, ds⟩ H1 ⟨i, i7, done, out, v, rfl, hi, e0, e1, e5, e6, e7, hi7, rfl, had, hown⟩
    obtain rfl : i = i7 := by omega
    dsimp only at e0 e1 e5 e6 e7
    have hol := had.len
    refine CW.cut (fun s' H' => H' = H1 ∧ s'.env 0 = vl ∧ s'.env 1 = ci n ∧ s'.env 5 = v ∧ s'.env 6 = .bool done ∧ s'.env 7 = .int .i64 i ∧ s'.ds = [] ∧ i < l.length) ?_ ?_
    · refine CW.walk hX mixed d43 rfl ?_
      simp [e0, e7]
      refine lenK_of hlen ?_
      simp
      refine CW.walk1 hX mixed d43 rfl ?_
      by_cases hil : i < l.length
      · simp [hil, e0, e1, e5, e6, e7]
      · simp [hil]
        obtain rfl : i = l.length := by omega
        exact ⟨done, out, v, by simp [e1], by simp [e5], by simp [e6], rfl, had, hown⟩
    clear e0 e1 e5 e6 e7
    clear e
    rintro ⟨e, ds⟩ H2 ⟨rfl, e0, e1, e5, e6, e7, rfl, hil⟩
    dsimp only at e0 e1 e5 e6 e7
    obtain ⟨x, hx⟩ : ∃ x, l[i]? = some x := ⟨_, List.getElem?_eq_getElem hil⟩
    obtain ⟨q1, q2, q3, q4⟩ := had.next hx
    rcases hv with ⟨_, h2⟩ | ⟨r, c, cs, rfl, mr, hcs⟩
    · rw [h2] at hil; simp at hil
    have gx := hcs i x hx
    have mr1 := hown.le _ _ mr
    refine CW.cut (adI H n l (.ref r 0 l.length (l.length + c)) 1 (l.length - (i + 1))) ?_ ?_
    · refine CW.block ?_
      refine CW.cut (adM H n l (.ref r 0 l.length (l.length + c)) i x) ?_ ?_
      · refine CW.walk hX mixed d43 rfl ?_
        cases hdn : done with
        | true =>
          rw [hdn] at e6 q1
          simp [e0, e1, e6, e7, hil, mr1, gx]
          refine CW.walk1 hX mixed d43 rfl ?_
          simp
          exact ⟨v, out, true, by simp [e0], by simp [e1], by simp [e5], by simp [e6], by simp [e7], rfl, hown, by omega, q1 rfl⟩
        | false =>
          rw [hdn] at e6 q2 q3 q4
          by_cases hnx : n ≤ x
          · simp [e0, e1, e6, e7, hil, mr1, gx, hnx]
            refine CW.condE hX (b := true) (by simp) (fun _ => ?_) (fun h => by cases h)
            refine CW.cut (adN H n l (.ref r 0 l.length (l.length + c)) i x) ?_ ?_
            · refine CW.walk hX mixed d43 rfl ?_
              by_cases hlt : n < x
              · simp [e0, e1, e6, e7, hil, mr1, gx, hlt]
                refine CW.walk1 hX mixed d43 rfl ?_
                simp [e1, e5, cfill, -vcAppend]
                intro q hq
                refine (hown.more hq).append2 (ys := [[ci n]]) (by simp) (by simp [ints]; omega) (src_one set_at rfl) fun v' H4 how4 _ => ?_
                simp
                exact ⟨v', out ++ [n], by simp [e0], by simp [e1], by simp, by simp [e7], rfl, by simpa [ints] using how4, by simp; omega, q2 rfl hlt⟩
              · simp [e0, e1, e6, e7, hil, mr1, gx, hlt]
                refine CW.walk1 hX mixed d43 rfl ?_
                simp
                exact ⟨v, out, by simp [e0], by simp [e1], by simp [e5], by simp [e7], rfl, hown, by omega, q3 rfl (by omega)⟩
            · clear e0 e1 e5 e6 e7 hown mr1
              clear e v H2 out had q1 q2 q3 q4 hol hdn done
              rintro ⟨e, ds⟩ H2 ⟨v, out, e0, e1, e5, e7, rfl, hown, hol, had⟩
              dsimp only at e0 e1 e5 e7
              refine CW.walk1 hX mixed d43 rfl ?_
              simp
              exact ⟨v, out, true, by simp [e0], by simp [e1], by simp [e5], by simp, by simp [e7], rfl, hown, hol, had⟩
          · simp [e0, e1, e6, e7, hil, mr1, gx, hnx]
            refine CW.walk1 hX mixed d43 rfl ?_
            simp
            exact ⟨v, out, false, by simp [e0], by simp [e1], by simp [e5], by simp [e6], by simp [e7], rfl, hown, by omega, q4 rfl hnx⟩
      · clear e0 e1 e5 e6 e7 hown mr1
        clear e v H2 out had q1 q2 q3 q4 hol done
        rintro ⟨e, ds⟩ H2 ⟨v, out, done, e0, e1, e5, e6, e7, rfl, hown, hol, had⟩
        dsimp only at e0 e1 e5 e6 e7
        have mr1 := hown.le _ _ mr
        refine CW.walk1 hX mixed d43 rfl ?_
        simp [e0, e5, e7, hil, mr1, gx, cfill, -vcAppend]
        intro q hq
        refine (hown.more hq).append2 (ys := [[ci x]]) (by simp) (by simp [ints]; omega) (src_one set_at rfl) fun v' H4 how4 _ => ?_
        simp
        exact ⟨i + 1, i, done, out ++ [x], v', rfl, by omega, by simp [e0], by simp [e1], by simp, by simp [e6], by simp [e7], rfl, rfl, had, by simpa [ints] using how4⟩
    · clear e0 e1 e5 e6 e7 hown mr1
      clear e v H2 out had q1 q2 q3 q4 hol done
      rintro ⟨e, ds⟩ H2 ⟨i2, i7, done, out, v, hm, hi2, e0, e1, e5, e6, e7, hi7, rfl, had, hown⟩
      dsimp only at e0 e1 e5 e6 e7
      obtain rfl : i2 = i + 1 := by omega
      obtain rfl : i = i7 := by omega
      refine CW.walk1 hX mixed d43 rfl ?_
      simp [e7]
      exact ⟨l.length - (i + 1), by omega, i + 1, i + 1, done, out, v, rfl, hi2, by simp [e0], by simp [e1], by simp [e5], by simp [e6], by simp; rw [wrapI (by omega) (by omega)], rfl, rfl, had, hown⟩
  rintro ⟨e, ds⟩ H1 ⟨done, out, v, e1, e5, e6, rfl, had, hown⟩
  dsimp only at e1 e5 e6
  have hol := had.len
  refine CW.cut (fun s' H' => ∃ v2, s'.env 5 = v2 ∧ s'.ds = [] ∧ Own H H' v2 1 (ints (addL n l))) ?_ ?_
  · refine CW.walk hX mixed d43 rfl ?_
    cases done with
    | true =>
      simp [e6]
      refine CW.walk1 hX mixed d43 rfl ?_
      simp
      rw [← (AdI.done (Nat.le_refl _)).1 had]
      first
        | exact hown
        | simpa [e5] using hown
    | false =>
      simp [e6]
      refine CW.walk1 hX mixed d43 rfl ?_
      simp [e1, e5, cfill, -vcAppend]
      intro q hq
      refine (hown.more hq).append2 (ys := [[ci n]]) (by simp) (by simp [ints]; omega) (src_one set_at rfl) fun v' H4 how4 _ => ?_
      simp
      rw [← (AdI.done (Nat.le_refl _)).2 had]
      first
        | (simpa [ints] using how4)
        | exact ⟨v', rfl, by simpa [ints] using how4⟩
  rintro ⟨e, ds⟩ H2 ⟨v2, e5, rfl, hown⟩
  dsimp only at e5
  refine CW.walk hX mixed d43 rfl ?_
  simp [e5]
  refine CW.walk1 hX mixed d43 rfl ?_
  simp
  exact hown
end Go.Cl.Gd
set_option linter.unusedSimpArgs false
set_option linter.unusedVariables false
namespace Go.Cl.Gd
open Go.Proofs
variable {W : World} {G : Nat → CV}
set_option maxRecDepth 8000
/-- v is a queue of the numbers xs, in a block that the base doesn't know. -/
def QO (B H : Hp) (v : CV) (xs : List Int) : Prop := Le B H ∧ ∃ r o c cs, v = .ref r o xs.length c ∧ B r = none ∧ H r = some (.cells cs) ∧ (∀ (k : Nat) x, xs[k]? = some x → cs[o + k]? = some (ci x)) ∧ o + c ≤ cs.length ∧ xs.length ≤ c
theorem QO.mono {B H H' : Hp} {v : CV} {xs : List Int} (h : QO B H v xs) (hl : Le H H') : QO B H' v xs := by
  obtain ⟨h0, r, o, c, cs, h1, h2, h3, h4⟩ := h
  exact ⟨h0.trans hl, r, o, c, cs, h1, h2, hl _ _ h3, h4⟩
theorem QO.setBase {B H : Hp} {v : CV} {xs : List Int} {q : Nat} {ob : Ob} (h : QO B H v xs) (hq : B q ≠ none) : QO (B.set q ob) (H.set q ob) v xs := by
  obtain ⟨h0, r, o, c, cs, h1, h2, h3, h4⟩ := h
  have hne : r ≠ q := fun e => hq (e ▸ h2)
  exact ⟨Le.set h0, r, o, c, cs, h1, by rw [hset_ne hne]; exact h2, by rw [hset_ne hne]; exact h3, h4⟩
theorem QO.push {B H : Hp} {v : CV} {xs : List Int} {y : Int} {te : TI} {q c2 : Nat} {K : CV → Hp → Prop} (hte : te.size = 1) (htb : te.bytes = 8) (h : QO B H v xs) (hl : xs.length ≤ 1000000) (hq : H q = some (.cells [ci y])) (hK : ∀ v' H', QO B H' v' (xs ++ [y]) → K v' H') : vcAppend te v (.ref q 0 1 c2) H K := by
  obtain ⟨h0, r, o, c, cs, rfl, h2, h3, h4, h5, h6⟩ := h
  unfold vcAppend
  refine src_one (y := [ci y]) hq (by rw [hte]; rfl) _ ?_
  refine ⟨cs, h3, by rw [hte]; omega, h6, by rw [htb]; simp; omega, fun hfit => hK _ _ ⟨h0.put h2, r, o, c, _, by simp, h2, set_at, fun k x hk => ?_, ?_, by simpa using hfit⟩, fun hfit r' c' hr' hc' => hK _ _ ⟨h0.trans (Le.set_new hr'), r', 0, c', _, by simp, h0.none hr', set_at, fun k x hk => ?_, ?_, by simpa using hc'⟩⟩
  · simp only [hte, Nat.mul_one, List.flatten_cons, List.flatten_nil, List.append_nil, List.length_singleton]
    simp at hfit
    have hln : (cs.take (o + xs.length)).length = o + xs.length := by rw [List.length_take]; omega
    rcases Nat.lt_or_ge k xs.length with hk1 | hk1
    · rw [List.getElem?_append_left hk1] at hk
      rw [List.append_assoc, List.getElem?_append_left (by omega), List.getElem?_take_of_lt (by omega)]
      exact h4 k x hk
    · have hkk : k = xs.length := by
        have := (List.getElem?_eq_some_iff.1 hk).1
        simp at this; omega
      subst hkk
      rw [List.getElem?_append_right (by omega)] at hk
      simp at hk
      subst hk
      rw [List.append_assoc, List.getElem?_append_right (by omega), hln]
      simp
  · simp only [hte, Nat.mul_one, List.flatten_cons, List.flatten_nil, List.append_nil, List.length_singleton]
    simp at hfit
    simp
    omega
  · simp only [hte, Nat.mul_one, List.flatten_cons, List.flatten_nil, List.append_nil, Nat.zero_add]
    have hln : ((cs.drop o).take xs.length).length = xs.length := by rw [List.length_take, List.length_drop]; omega
    rcases Nat.lt_or_ge k xs.length with hk1 | hk1
    · rw [List.getElem?_append_left hk1] at hk
      rw [List.append_assoc, List.getElem?_append_left (by omega), List.getElem?_take_of_lt hk1, List.getElem?_drop]
      exact h4 k x hk
    · have hkk : k = xs.length := by
        have := (List.getElem?_eq_some_iff.1 hk).1
        simp at this; omega
      subst hkk
      rw [List.getElem?_append_right (by omega)] at hk
      simp at hk
      subst hk
      rw [List.append_assoc, List.getElem?_append_right (by omega), hln]
      simp
  · simp only [hte, Nat.mul_one, List.flatten_cons, List.flatten_nil, List.append_nil, List.length_singleton]
    simp [zeroCs]
    omega
theorem QO.pop {B H : Hp} {r o c : Nat} {n : Nat} {y : Int} {xs : List Int} (h : QO B H (.ref r o n c) (y :: xs)) : QO B H (.ref r (if c = 1 then o else o + 1) xs.length (c - 1)) xs := by
  obtain ⟨h0, r2, o2, c2, cs, h1, h2, h3, h4, h5, h6⟩ := h
  injection h1 with e1 e2 e3 e4
  subst e1; subst e2; subst e4
  simp at h6
  refine ⟨h0, r, _, c - 1, cs, rfl, h2, h3, fun k z hk => ?_, ?_, by omega⟩
  · have hk1 := (List.getElem?_eq_some_iff.1 hk).1
    rw [if_neg (by omega), show o + 1 + k = o + (k + 1) by omega]
    exact h4 (k + 1) z (by simpa using hk)
  · split <;> omega
/-- A way from a to x that doesn't go to the block w. -/
def RchW (N : Nat → List Nat) (w : Int) (a x : Nat) : Prop := Rch (fun b => (N b).filter fun k => decide ((k : Int) ≠ w)) a x
theorem rchW_none {N : Nat → List Nat} {a x : Nat} : RchW N (-1) a x ↔ Rch N a x := by
  have : (fun b => (N b).filter fun k : Nat => decide ((k : Int) ≠ -1)) = N := by
    funext b
    exact List.filter_eq_self.2 fun k _ => by simp <;> omega
  rw [RchW, this]
/-- What holds while the blocks are looked through. -/
structure FI (N : Nat → List Nat) (a : Nat) (w : Int) (n : Nat) (s : Nat → Bool) (todo : List Nat) : Prop where
  z : s a = true
  rch : ∀ x, s x = true → x < n ∧ RchW N w a x
  tod : ∀ x ∈ todo, s x = true
  cl : ∀ x, s x = true → x ∈ todo ∨ ∀ k ∈ N x, (k : Int) ≠ w → s k = true
structure FJ (N : Nat → List Nat) (a : Nat) (w : Int) (n b i : Nat) (s : Nat → Bool) (todo : List Nat) : Prop where
  z : s a = true
  rch : ∀ x, s x = true → x < n ∧ RchW N w a x
  tod : ∀ x ∈ todo, s x = true
  hb : s b = true
  cl : ∀ x, s x = true → x ∈ todo ∨ (x = b ∧ ∀ k ∈ (N b).take i, (k : Int) ≠ w → s k = true) ∨ ∀ k ∈ N x, (k : Int) ≠ w → s k = true
theorem FI.pop {N : Nat → List Nat} {a : Nat} {w : Int} {n b : Nat} {s : Nat → Bool} {todo : List Nat} (h : FI N a w n s (b :: todo)) : FJ N a w n b 0 s todo :=
  ⟨h.z, h.rch, fun x hx => h.tod x (List.mem_cons_of_mem _ hx), h.tod b (by simp), fun x hx => by
    rcases h.cl x hx with k | k
    · rcases List.mem_cons.1 k with rfl | k
      · exact .inr (.inl ⟨rfl, by simp⟩)
      · exact .inl k
    · exact .inr (.inr k)⟩
theorem FJ.done {N : Nat → List Nat} {a : Nat} {w : Int} {n b i : Nat} {s : Nat → Bool} {todo : List Nat} (h : FJ N a w n b i s todo) (hi : (N b).length ≤ i) : FI N a w n s todo :=
  ⟨h.z, h.rch, h.tod, fun x hx => by
    rcases h.cl x hx with k | ⟨rfl, k⟩ | k
    · exact .inl k
    · rw [List.take_of_length_le hi] at k; exact .inr k
    · exact .inr k⟩
theorem FJ.skip {N : Nat → List Nat} {a : Nat} {w : Int} {n b i k : Nat} {s : Nat → Bool} {todo : List Nat} (h : FJ N a w n b i s todo) (hk : (N b)[i]? = some k) (hs : (k : Int) ≠ w → s k = true) : FJ N a w n b (i + 1) s todo := by
  obtain ⟨hi, he⟩ := List.getElem?_eq_some_iff.1 hk
  refine ⟨h.z, h.rch, h.tod, h.hb, fun x hx => ?_⟩
  rcases h.cl x hx with q | ⟨rfl, q⟩ | q
  · exact .inl q
  · refine .inr (.inl ⟨rfl, fun y hy hyw => ?_⟩)
    rw [List.take_succ_eq_append_getElem hi, he] at hy
    rcases List.mem_append.1 hy with hy | hy
    · exact q y hy hyw
    · simp at hy; subst hy; exact hs hyw
  · exact .inr (.inr q)
theorem FJ.add {N : Nat → List Nat} {a : Nat} {w : Int} {n b i k : Nat} {s : Nat → Bool} {todo : List Nat} (h : FJ N a w n b i s todo) (hk : (N b)[i]? = some k) (hkn : k < n) (hkw : (k : Int) ≠ w) : FJ N a w n b (i + 1) (fun x => s x || x == k) (todo ++ [k]) := by
  obtain ⟨hi, he⟩ := List.getElem?_eq_some_iff.1 hk
  have hm := List.mem_of_getElem? hk
  refine ⟨by simp [h.z], fun x hx => ?_, fun x hx => ?_, by simp [h.hb], fun x hx => ?_⟩
  · simp at hx
    rcases hx with hx | rfl
    · exact h.rch x hx
    · exact ⟨hkn, .step (h.rch b h.hb).2 (List.mem_filter.2 ⟨hm, by simpa using hkw⟩)⟩
  · rcases List.mem_append.1 hx with hx | hx
    · simp [h.tod x hx]
    · simp at hx; simp [hx]
  · simp at hx
    rcases hx with hx | rfl
    · rcases h.cl x hx with q | ⟨rfl, q⟩ | q
      · exact .inl (by simp [q])
      · refine .inr (.inl ⟨rfl, fun y hy hyw => ?_⟩)
        rw [List.take_succ_eq_append_getElem hi, he] at hy
        rcases List.mem_append.1 hy with hy | hy
        · simp [q y hy hyw]
        · simp at hy; simp [hy]
      · exact .inr (.inr fun y hy hyw => by simp [q y hy hyw])
    · exact .inl (by simp)
theorem FI.fin {N : Nat → List Nat} {a : Nat} {w : Int} {n : Nat} {s : Nat → Bool} (h : FI N a w n s []) : ∀ x, s x = true ↔ RchW N w a x := by
  intro x
  refine ⟨fun hx => (h.rch x hx).2, fun hx => ?_⟩
  induction hx with
  | refl => exact h.z
  | step _ e ih =>
    obtain ⟨e1, e2⟩ := List.mem_filter.1 e
    exact ((h.cl _ ih).resolve_left (by simp)) _ e1 (by simpa using e2)
structure frI (B : Hp) (q3 rs n : Nat) (N : Nat → List Nat) (a : Nat) (w : Int) (m : Nat) (s' : CA) (H' : Hp) : Prop where
  ex : ∃ (s : Nat → Bool) (todo : List Nat) (v : CV), m = cnt n s + todo.length ∧ cnt n s + todo.length ≤ n ∧ s'.env 2 = .int .i64 w ∧ s'.env 3 = .ptr q3 0 ∧ s'.env 7 = .ref rs 0 n n ∧ s'.env 8 = v ∧ s'.ds = [] ∧ FI N a w n s todo ∧ QO (B.set rs (.cells (boolC n s))) H' v (natL todo)
structure frJ (B : Hp) (q3 rs n b M : Nat) (N : Nat → List Nat) (a : Nat) (w : Int) (d : Nat) (m : Nat) (s' : CA) (H' : Hp) : Prop where
  ex : ∃ (i i10 : Nat) (s : Nat → Bool) (todo : List Nat) (v : CV), m = (N b).length - i ∧ i ≤ (N b).length ∧ cnt n s + todo.length + 1 ≤ M ∧ s'.env 2 = .int .i64 w ∧ s'.env 3 = .ptr q3 0 ∧ s'.env 7 = .ref rs 0 n n ∧ s'.env 8 = v ∧ s'.env 9 = .int .i64 b ∧ s'.env 10 = .int .i64 i10 ∧ i10 + d = i ∧ s'.ds = [] ∧ FJ N a w n b i s todo ∧ QO (B.set rs (.cells (boolC n s))) H' v (natL todo)
structure frX (B : Hp) (rs n : Nat) (N : Nat → List Nat) (a : Nat) (w : Int) (s' : CA) (H' : Hp) : Prop where
  ex : ∃ (s : Nat → Bool), s'.env 7 = .ref rs 0 n n ∧ s'.ds = [] ∧ (∀ x, s x = true ↔ RchW N w a x) ∧ Le (B.set rs (.cells (boolC n s))) H'
theorem from_w (hX : CxOk (cx W G)) {n : Nat} {N : Nat → List Nat} {a : Nat} {w : Int} (h0 : a < n) (hw1 : -1 ≤ w) (hw2 : w ≤ 100000) (hn : n ≤ 100000) (hN : ∀ b, b < n → ∀ k ∈ N b, k < n) (hNl : ∀ b, b < n → (N b).length ≤ 100000) {H : Hp} {rn cn : Nat} {ns : List CV} {vr : CV} (hvr : vr.stor = true ∧ vr.cells = [vr]) (hcn : n ≤ cn) (mn : H rn = some (.cells ns)) (hnn : ∀ b, b < n → ∃ v, ns[b]? = some v ∧ SlF H v (natL (N b))) :
    CC Tryz.prog W 46 [.agg [.ref rn 0 n cn, vr], .int .i64 a, .int .i64 w] H fun x H' => ∃ r s, x = .ret (.ref r 0 n n) ∧ Le H H' ∧ H r = none ∧ H' r = some (.cells (boolC n s)) ∧ ∀ x, s x = true ↔ (a : Int) ≠ w ∧ RchW N w a x := by
  obtain ⟨hs1, hs2⟩ := hvr
  simp only [CV.stor, CV.cells] at hs1 hs2
  refine CC.of_cw hX Tryz.func46 rfl rfl (Nat.le_of_ble_eq_true rfl) ?_
  refine CW.walk hX mixed d46 rfl ?_
  simp [hs1, hs2]
  intro q3 hq3
  refine CW.walk hX mixed d46 rfl ?_
  simp
  refine ⟨by omega, by omega, fun rs h1 h2 hrs => ?_⟩
  have hz : List.map (fun i => [CV.bool false][i % 1]?.getD CV.any) (List.range n) = boolC n fun _ => false := by simp [boolC, Nat.mod_one]
  rw [hz]
  obtain ⟨B, hB⟩ : ∃ B, H.set q3 (.cells [.ref rn 0 n cn, vr]) = B := ⟨_, rfl⟩
  have hle : Le H B := by rw [← hB]; exact Le.set_new hq3
  have m3 : B q3 = some (.cells [.ref rn 0 n cn, vr]) := by rw [← hB]; exact set_at
  have hBr : B rs = none := by rw [← hB, hset_none_iff]; exact ⟨h1, hrs⟩
  rw [hB]
  clear hB
  replace mn := hle _ _ mn
  replace hnn : ∀ b, b < n → ∃ v, ns[b]? = some v ∧ SlF B v (natL (N b)) := fun b hb => by obtain ⟨v, g1, g2⟩ := hnn b hb; exact ⟨v, g1, g2.mono hle⟩
  have hrs3 : rs ≠ q3 := h1
  have hrsn : rs ≠ rn := fun e => by rw [e, mn] at hBr; cases hBr
  by_cases haw : (a : Int) = w
  · refine CW.walk hX mixed d46 rfl ?_
    simp [haw]
    exact ⟨hle.trans (Le.set_new hBr), hrs, fun _ => false, rfl, fun x => by simp⟩
  refine CW.walk hX mixed d46 rfl ?_
  simp [haw]
  refine CW.walk hX mixed d46 rfl ?_
  simp [boolC_len, h0]
  refine ⟨by omega, ?_⟩
  have hput := boolC_put (n := n) (i := a) (fun _ => false) true h0
  simp at hput
  rw [hput]
  have hs0 : (fun x => decide (x = a)) = (fun x => (fun _ => false) x || x == a : Nat → Bool) := by funext x; simp; rfl
  have hcn0 : cnt n (fun _ => false) = n := by
    simp only [cnt]
    rw [show (List.range n).filter (fun _ => !false) = List.range n from List.filter_eq_self.2 (fun _ _ => rfl), List.length_range]
  have hc0 : cnt n (fun x => decide (x = a)) + 1 ≤ n := by
    have := cnt_lt (s := fun _ => false) h0 rfl
    rw [hcn0] at this
    rw [hs0]
    exact this
  have hFI0 : FI N a w n (fun x => decide (x = a)) [a] := by
    refine ⟨by simp, fun x hx => ?_, fun x hx => by simpa using hx, fun x hx => .inl (by simpa using hx)⟩
    simp at hx
    subst hx
    exact ⟨h0, .refl⟩
  refine CW.walk hX mixed d46 rfl ?_
  simp [cfill]
  intro rt r1 r2 hrt0
  have hrt : (B.set rs (.cells (boolC n fun x => decide (x = a)))) rt = none := by rw [hset_none_iff]; exact ⟨r1, hrt0⟩
  have hq0 : QO (B.set rs (.cells (boolC n fun x => decide (x = a)))) ((B.set rs (.cells (boolC n fun x => decide (x = a)))).set rt (.cells [.int .i64 a])) (.ref rt 0 1 1) (natL [a]) := by
    refine ⟨Le.set_new hrt, rt, 0, 1, _, rfl, hrt, set_at, fun k x hk => ?_, by simp, by simp [natL]⟩
    rcases k with _|k
    · simp [natL] at hk; subst hk; rfl
    · simp [natL] at hk
  generalize (B.set rs _).set rt _ = H1 at hq0 ⊢
  clear hrt hrt0 r1 r2
  refine CW.cut (frX B rs n N a w) ?_ ?_
  · refine CW.block ?_
    refine CW.loop (frI B q3 rs n N a w) ?_ (m := cnt n (fun x => decide (x = a)) + 1) ⟨_, [a], _, rfl, hc0, by simp, by simp, by simp, rfl, rfl, hFI0, by simpa using hq0⟩
    clear hq0
    clear H1
    rintro m ⟨e, ds⟩ H1 ⟨s, todo, v, rfl, hle1, e2, e3, e7, e8, rfl, hFI, hq⟩
    dsimp only at e2 e3 e7 e8
    obtain ⟨hql, r, o, c, cs, rfl, hq1, hq2, hq4, hq5, hq6⟩ := hq
    have hq : QO (B.set rs (.cells (boolC n s))) H1 (.ref r o (natL todo).length c) (natL todo) := ⟨hql, r, o, c, cs, rfl, hq1, hq2, hq4, hq5, hq6⟩
    rw [natL_len] at e8 hq6
    cases todo with
    | nil =>
      refine CW.walk hX mixed d46 rfl ?_
      simp [e8]
      exact ⟨s, by simp [e7], rfl, hFI.fin, hql⟩
    | cons b todo =>
      have hbs := hFI.tod b (by simp)
      have hbn := (hFI.rch b hbs).1
      simp only [List.length_cons] at e8 hq6 hle1
      have g0 : cs[o]? = some (ci (b : Int)) := by have := hq4 0 b (by simp [natL]); simpa using this
      refine CW.walk hX mixed d46 rfl ?_
      simp [e8, show (0 : Int) < (todo.length : Int) + 1 by omega]
      refine CW.block ?_
      refine CW.walk hX mixed d46 rfl ?_
      simp [e8, hq2, g0]
      refine CW.walk hX mixed d46 rfl ?_
      simp [e8]
      refine ⟨by omega, ?_⟩
      have hqp : QO (B.set rs (.cells (boolC n s))) H1 (.ref r (if c = 1 then o else o + 1) (natL todo).length (c - 1)) (natL todo) := QO.pop (y := (b : Int)) hq
      rw [natL_len] at hqp
      have hFJ := hFI.pop
      refine CW.walk hX mixed d46 rfl ?_
      simp
      refine CW.block ?_
      refine CW.loop (frJ B q3 rs n b (cnt n s + (todo.length + 1)) N a w 0) ?_ (m := (N b).length) ⟨0, 0, s, todo, _, rfl, by omega, by omega, by simp [e2], by simp [e3], by simp [e7], by simp, by simp, by simp, rfl, rfl, hFJ, hqp⟩
      clear hq hqp hql hq1 hq2 hq4 hq5 hq6 g0 e2 e3 e7 e8 hFJ hFI
      obtain ⟨M, hM⟩ : ∃ M, cnt n s + (todo.length + 1) = M := ⟨_, rfl⟩
      rw [hM] at hle1 ⊢
      clear hM hbs
      clear e H1 s todo r o c cs
      rintro m ⟨e, ds⟩ H1 ⟨i, i10, s, todo, v, rfl, hi, hms, e2, e3, e7, e8, e9, e10, hi10, rfl, hFJ, hq⟩
      obtain rfl : i = i10 := by omega
      dsimp only at e2 e3 e7 e8 e9 e10
      obtain ⟨vb, hvb, hsb⟩ := hnn b hbn
      have hlen : (vb = .nilsl ∧ (N b).length = 0) ∨ ∃ r c, vb = .ref r 0 (N b).length c := by
        rcases hsb with ⟨h1, h2⟩ | ⟨r, c, cs, h1, _⟩
        · exact .inl ⟨h1, by simpa [natL] using congrArg List.length h2⟩
        · exact .inr ⟨r, _, by simpa [natL] using h1⟩
      have k3 := hq.1 q3 _ (by rw [hset_ne (Ne.symm hrs3)]; exact m3)
      have kn := hq.1 rn _ (by rw [hset_ne (Ne.symm hrsn)]; exact mn)
      have ks := hq.1 rs _ set_at
      refine CW.cut (fun s' H' => H' = H1 ∧ s'.env 2 = .int .i64 w ∧ s'.env 3 = .ptr q3 0 ∧ s'.env 7 = .ref rs 0 n n ∧ s'.env 8 = v ∧ s'.env 9 = .int .i64 b ∧ s'.env 10 = .int .i64 i ∧ s'.ds = [] ∧ i < (N b).length) ?_ ?_
      · refine CW.walk hX mixed d46 rfl ?_
        simp [e3, e9, e10, k3, kn, hbn, hvb]
        refine lenK_of hlen ?_
        simp
        refine CW.walk1 hX mixed d46 rfl ?_
        by_cases hil : i < (N b).length
        · simp [hil, e2, e3, e7, e8, e9, e10]
        · simp [hil]
          exact ⟨cnt n s + todo.length, by omega, s, todo, v, rfl, by omega, by simp [e2], by simp [e3], by simp [e7], by simp [e8], rfl, hFJ.done (by omega), hq⟩
      clear e2 e3 e7 e8 e9 e10
      clear e
      rintro ⟨e, ds⟩ H2 ⟨rfl, e2, e3, e7, e8, e9, e10, rfl, hil⟩
      dsimp only at e2 e3 e7 e8 e9 e10
      obtain ⟨k, hk⟩ : ∃ k, (N b)[i]? = some k := ⟨_, List.getElem?_eq_getElem hil⟩
      have hkn := hN b hbn k (List.mem_of_getElem? hk)
      rcases hsb with ⟨_, h2⟩ | ⟨rv, cv, csv, hvr, mvB, hcs⟩
      · have := congrArg List.length h2
        simp [natL] at this
        rw [this] at hil
        simp at hil
      rw [natL_len] at hvr
      subst hvr
      have gk : csv[i]? = some (ci (k : Int)) := hcs i _ (by rw [natL, List.getElem?_map, hk]; rfl)
      have hrsv : rs ≠ rv := fun e => by rw [e, mvB] at hBr; cases hBr
      have kv := hq.1 rv _ (by rw [hset_ne (Ne.symm hrsv)]; exact mvB)
      refine CW.cut (frJ B q3 rs n b M N a w 1 ((N b).length - (i + 1))) ?_ ?_
      · refine CW.block ?_
        refine CW.walk hX mixed d46 rfl ?_
        simp [e3, e9, e10, k3, kn, hbn, hvb, hil, kv, gk]
        have gs := boolC_get (p := s) hkn
        by_cases hkw : (k : Int) = w
        · refine CW.walk hX mixed d46 rfl ?_
          simp [e2, hkw]
          refine CW.walk1 hX mixed d46 rfl ?_
          simp
          exact ⟨i + 1, i, s, todo, v, rfl, by omega, hms, by simp [e2], by simp [e3], by simp [e7], by simp [e8], by simp [e9], by simp [e10], rfl, rfl, hFJ.skip hk fun h => absurd hkw h, hq⟩
        refine CW.walk hX mixed d46 rfl ?_
        cases hsk : s k with
        | true =>
          simp [e2, e7, ks, hkn, gs, hsk, hkw]
          refine CW.walk1 hX mixed d46 rfl ?_
          simp
          exact ⟨i + 1, i, s, todo, v, rfl, by omega, hms, by simp [e2], by simp [e3], by simp [e7], by simp [e8], by simp [e9], by simp [e10], rfl, rfl, hFJ.skip hk fun _ => hsk, hq⟩
        | false =>
          simp [e2, e7, ks, hkn, gs, hsk, hkw]
          have hcl := cnt_lt hkn hsk
          refine CW.condE hX (b := true) (by simp) (fun _ => ?_) (fun h => by cases h)
          refine CW.walk hX mixed d46 rfl ?_
          simp [e7, ks, hkn, boolC_len]
          refine ⟨by omega, ?_⟩
          rw [boolC_set hkn]
          have hq2 := hq.setBase (q := rs) (ob := .cells (boolC n fun r => s r || r == k)) (by rw [set_at]; simp)
          rw [set_set] at hq2
          generalize H2.set rs _ = H3 at hq2 ⊢
          refine CW.walk1 hX mixed d46 rfl ?_
          simp [e8, cfill, -vcAppend]
          intro q hq0
          have hq3 := hq2.mono (Le.set_new (o := .cells [ci (k : Int)]) hq0)
          refine QO.push (y := (k : Int)) rfl rfl hq3 (by rw [natL_len]; omega) set_at fun v' H4 hq4 => ?_
          simp
          exact ⟨i + 1, i, _, todo ++ [k], v', rfl, by omega, by simp; omega, by simp [e2], by simp [e3], by simp [e7], by simp, by simp [e9], by simp [e10], rfl, rfl, hFJ.add hk hkn hkw, by rw [natL_snoc]; exact hq4⟩
      · clear e2 e3 e7 e8 e9 e10 hq k3 kn ks kv hFJ hms
        clear e H2 s todo v
        rintro ⟨e, ds⟩ H2 ⟨i2, i10, s, todo, v, hm, hi2, hms, e2, e3, e7, e8, e9, e10, hi10, rfl, hFJ, hq⟩
        dsimp only at e2 e3 e7 e8 e9 e10
        obtain rfl : i2 = i + 1 := by omega
        obtain rfl : i = i10 := by omega
        have := hNl b hbn
        refine CW.walk1 hX mixed d46 rfl ?_
        simp [e10]
        exact ⟨(N b).length - (i + 1), by omega, i + 1, i + 1, s, todo, v, rfl, hi2, hms, by simp [e2], by simp [e3], by simp [e7], by simp [e8], by simp [e9], by simp; rw [wrapI (by omega) (by omega)], rfl, rfl, hFJ, hq⟩
  rintro ⟨e, ds⟩ H1 ⟨s, e7, rfl, hR, hl⟩
  dsimp only at e7
  refine CW.walk hX mixed d46 rfl ?_
  simp [e7]
  refine CW.walk1 hX mixed d46 rfl ?_
  simp
  exact ⟨hle.trans ((Le.set_new hBr).trans hl), hrs, s, hl _ _ set_at, fun x => by rw [hR]; simp [haw]⟩
theorem from_c (hX : CxOk (cx W G)) {n : Nat} {N : Nat → List Nat} (h0 : 0 < n) (hn : n ≤ 100000) (hN : ∀ b, b < n → ∀ k ∈ N b, k < n) (hNl : ∀ b, b < n → (N b).length ≤ 100000) {H : Hp} {rn cn : Nat} {ns : List CV} {vr : CV} (hvr : vr.stor = true ∧ vr.cells = [vr]) (hcn : n ≤ cn) (mn : H rn = some (.cells ns)) (hnn : ∀ b, b < n → ∃ v, ns[b]? = some v ∧ SlF H v (natL (N b))) :
    CC Tryz.prog W 46 [.agg [.ref rn 0 n cn, vr], .int .i64 0, .int .i64 (-1)] H fun x H' => ∃ r s, x = .ret (.ref r 0 n n) ∧ Le H H' ∧ H r = none ∧ H' r = some (.cells (boolC n s)) ∧ ∀ x, s x = true ↔ Rch N 0 x := by
  refine (from_w hX (a := 0) (w := -1) h0 (by omega) (by omega) hn hN hNl hvr hcn mn hnn).mono ?_
  rintro x H' ⟨r, s, e, h1, h2, h3, h4⟩
  exact ⟨r, s, e, h1, h2, h3, fun x => by rw [h4, rchW_none]; simp⟩
end Go.Cl.Gd
set_option linter.unusedSimpArgs false
set_option linter.unusedVariables false
namespace Go.Cl.Gd
open Go.Proofs
variable {W : World} {G : Nat → CV}
set_option maxRecDepth 8000
/-- The list of a block's ways, as the reference makes it. -/
def refE (k : UBlk) (i : Nat) : List Int := (k.ops.take i).foldl (fun l o => if o.kind = 21 then addL o.n l else l) []
def refG (k : UBlk) (l : List Int) : List Int := if k.en.kind = 1 ∨ k.en.kind = 2 then addL k.en.to l else l
def refH (k : UBlk) (l : List Int) : List Int := if k.en.kind = 2 then addL k.en.els l else l
def refC (p : Nat → Bool) (k : UBlk) (l : List Int) : List Int := if mayAny p k = true ∧ 0 ≤ k.catch_ then addL k.catch_ l else l
def refL (p : Nat → Bool) (k : UBlk) : List Int := refC p k (refH k (refG k (refE k k.ops.length)))
theorem refE_succ {k : UBlk} {i : Nat} {o : UOp} (h : k.ops[i]? = some o) : refE k (i + 1) = if o.kind = 21 then addL o.n (refE k i) else refE k i := by
  obtain ⟨hi, he⟩ := List.getElem?_eq_some_iff.1 h
  simp only [refE]
  rw [List.take_succ_eq_append_getElem hi, he, List.foldl_append]
  rfl
theorem refE_mem {k : UBlk} {x : Int} : ∀ {i : Nat}, i ≤ k.ops.length → (x ∈ refE k i ↔ ∃ o ∈ k.ops.take i, o.kind = 21 ∧ o.n = x)
  | 0, _ => by simp [refE]
  | i + 1, hi => by
    have ho : k.ops[i]? = some k.ops[i] := List.getElem?_eq_getElem (by omega)
    have ht : k.ops.take (i + 1) = k.ops.take i ++ [k.ops[i]] := List.take_succ_eq_append_getElem (by omega)
    have ih := refE_mem (k := k) (x := x) (i := i) (by omega)
    rw [refE_succ ho]
    by_cases h : (k.ops[i]).kind = 21
    · rw [if_pos h, addL_mem, ih]
      constructor
      · rintro (e | ⟨o, h1, h2⟩)
        · exact ⟨k.ops[i], by rw [ht]; exact List.mem_append_right _ (List.mem_singleton.2 rfl), h, e.symm⟩
        · exact ⟨o, by rw [ht]; exact List.mem_append_left _ h1, h2⟩
      · rintro ⟨o, h1, h2, h3⟩
        rw [ht] at h1
        rcases List.mem_append.1 h1 with h1 | h1
        · exact .inr ⟨o, h1, h2, h3⟩
        · simp at h1; subst h1; exact .inl h3.symm
    · rw [if_neg h, ih]
      constructor
      · rintro ⟨o, h1, h2⟩; exact ⟨o, by rw [ht]; exact List.mem_append_left _ h1, h2⟩
      · rintro ⟨o, h1, h2, h3⟩
        rw [ht] at h1
        rcases List.mem_append.1 h1 with h1 | h1
        · exact ⟨o, h1, h2, h3⟩
        · simp at h1; subst h1; exact absurd h2 h
theorem refE_len {k : UBlk} : ∀ {i : Nat}, i ≤ k.ops.length → (refE k i).length ≤ i
  | 0, _ => by simp [refE]
  | i + 1, hi => by
    have ho : k.ops[i]? = some k.ops[i] := List.getElem?_eq_getElem (by omega)
    have ih := refE_len (k := k) (i := i) (by omega)
    rw [refE_succ ho]
    split
    · have := addL_len (n := (k.ops[i]).n) (l := refE k i); omega
    · omega
theorem refG_len {k : UBlk} {l : List Int} : (refG k l).length ≤ l.length + 1 := by
  simp only [refG]; split
  · exact addL_len
  · omega
theorem refH_len {k : UBlk} {l : List Int} : (refH k l).length ≤ l.length + 1 := by
  simp only [refH]; split
  · exact addL_len
  · omega
theorem refL_mem {p : Nat → Bool} {k : UBlk} {x : Int} : x ∈ refL p k ↔ x ∈ waysL p k := by
  have h1 : ∀ l, x ∈ refC p k l ↔ x ∈ caughtL p k ∨ x ∈ l := fun l => by
    simp only [refC, caughtL]
    by_cases h : mayAny p k = true ∧ 0 ≤ k.catch_
    · rw [if_pos h, if_pos ⟨h.2, h.1⟩, addL_mem]; simp
    · rw [if_neg h, if_neg (fun q => h ⟨q.2, q.1⟩)]; simp
  have h2 : ∀ l, x ∈ refH k (refG k l) ↔ x ∈ goesL k.en ∨ x ∈ l := fun l => by
    simp only [refH, refG, goesL]
    by_cases e1 : k.en.kind = 1
    · simp [e1, addL_mem]
    · by_cases e2 : k.en.kind = 2
      · simp [e2, addL_mem]
        constructor
        · rintro (h | h | h) <;> simp [h]
        · rintro ((h | h) | h) <;> simp [h]
      · simp [e1, e2]
  simp only [refL, waysL, List.mem_append]
  rw [h1, h2, refE_mem (Nat.le_refl _), List.take_length]
  have h3 : x ∈ exitsL k ↔ ∃ o ∈ k.ops, o.kind = 21 ∧ o.n = x := by
    simp only [exitsL, List.mem_map, List.mem_filter, decide_eq_true_eq]
    constructor
    · rintro ⟨o, ⟨a, b⟩, c⟩; exact ⟨o, a, b, c⟩
    · rintro ⟨o, a, b, c⟩; exact ⟨o, ⟨a, b⟩, c⟩
  rw [h3]
  constructor
  · rintro (h | h | h) <;> simp [h]
  · rintro (h | h | h) <;> simp [h]
theorem addL_rise {n : Int} : ∀ {l : List Int}, l.Pairwise (· < ·) → (addL n l).Pairwise (· < ·)
  | [], _ => by simp [addL]
  | x :: t, h => by
    obtain ⟨hx, ht⟩ := List.pairwise_cons.1 h
    simp only [addL]
    split
    · split
      · rename_i h1 h2
        exact List.pairwise_cons.2 ⟨fun y hy => by rcases List.mem_cons.1 hy with rfl | hy; exact h2; exact Int.lt_trans h2 (hx _ hy), h⟩
      · exact h
    · rename_i h1
      refine List.pairwise_cons.2 ⟨fun y hy => ?_, addL_rise ht⟩
      rcases addL_mem.1 hy with rfl | hy
      · omega
      · exact hx _ hy
theorem refL_rise {p : Nat → Bool} {k : UBlk} : (refL p k).Pairwise (· < ·) := by
  have h1 : ∀ {l : List Int}, l.Pairwise (· < ·) → (refG k l).Pairwise (· < ·) := fun h => by simp only [refG]; split; exact addL_rise h; exact h
  have h2 : ∀ {l : List Int}, l.Pairwise (· < ·) → (refH k l).Pairwise (· < ·) := fun h => by simp only [refH]; split; exact addL_rise h; exact h
  have h3 : ∀ {l : List Int}, l.Pairwise (· < ·) → (refC p k l).Pairwise (· < ·) := fun h => by simp only [refC]; split; exact addL_rise h; exact h
  have h0 : ∀ (l : List UOp) (a : List Int), a.Pairwise (· < ·) → (l.foldl (fun l o => if o.kind = 21 then addL o.n l else l) a).Pairwise (· < ·) := by
    intro l
    induction l with
    | nil => exact fun a h => h
    | cons o l ih =>
      intro a h
      simp only [List.foldl_cons]
      split
      · exact ih _ (addL_rise h)
      · exact ih _ h
  exact h3 (h2 (h1 (h0 _ _ List.Pairwise.nil)))
theorem natL_toNat : ∀ {l : List Int}, (∀ x ∈ l, 0 ≤ x) → natL (l.map Int.toNat) = l
  | [], _ => rfl
  | x :: l, h => by
    have h1 := h x (by simp)
    have h2 := natL_toNat (l := l) fun y hy => h y (by simp [hy])
    simp only [natL, List.map_cons] at h2 ⊢
    rw [h2]
    congr 1
    omega
def refN (u : UUnit) (p : Nat → Bool) (b : Nat) : List Nat := match u.blocks[b]? with
  | some k => (refL p k).map Int.toNat
  | none => []
theorem refN_mem {u : UUnit} (hu : wfU u = true) {p : Nat → Bool} {b x : Nat} : x ∈ refN u p b ↔ x ∈ nextN u p b := by
  simp only [refN, nextN]
  cases hk : u.blocks[b]? with
  | none => simp
  | some k =>
    simp only [List.mem_map, List.mem_filter, List.mem_range]
    constructor
    · rintro ⟨y, h1, rfl⟩
      rw [refL_mem] at h1
      have h2 := ways_lt hu hk y h1
      refine ⟨by omega, ?_⟩
      rw [← ways_mem (u := u), show (y.toNat : Int) = y by omega]
      exact h1
    · rintro ⟨h1, h2⟩
      exact ⟨x, refL_mem.2 (ways_mem.2 h2), by simp⟩
theorem natL_inj : ∀ {l m : List Nat}, natL l = natL m → l = m
  | [], [], _ => rfl
  | [], y :: m, h => by simp [natL] at h
  | x :: l, [], h => by simp [natL] at h
  | x :: l, y :: m, h => by
    simp only [natL, List.map_cons, List.cons.injEq] at h
    rw [natL_inj (l := l) (m := m) h.2]
    congr 1
    exact Int.ofNat.inj h.1
theorem refN_eq {u : UUnit} (hu : wfU u = true) {p : Nat → Bool} : refN u p = nextN u p := by
  funext b
  refine natL_inj (rise_ext ?_ ?_ fun x => ?_)
  · cases hk : u.blocks[b]? with
    | none => simp [refN, hk, natL]
    | some k =>
      have : natL (refN u p b) = refL p k := by
        simp only [refN, hk]
        exact natL_toNat fun x hx => (ways_lt hu hk x (refL_mem.1 hx)).1
      rw [this]
      exact refL_rise
  · cases hk : u.blocks[b]? with
    | none => simp [nextN, hk, natL]
    | some k =>
      simp only [nextN, hk, natL]
      rw [List.pairwise_map]
      exact (List.pairwise_lt_range.filter _).imp fun h => Int.ofNat_lt.2 h
  · simp only [natL, List.mem_map]
    constructor
    · rintro ⟨y, h, rfl⟩; exact ⟨y, (refN_mem hu).1 h, rfl⟩
    · rintro ⟨y, h, rfl⟩; exact ⟨y, (refN_mem hu).2 h, rfl⟩
theorem Rch.congr {N M : Nat → List Nat} {a b : Nat} (h : ∀ b x, x ∈ N b → x ∈ M b) (k : Rch N a b) : Rch M a b := by
  induction k with
  | refl => exact .refl
  | step _ e ih => exact .step ih (h _ _ e)
theorem refN_lt {u : UUnit} (hu : wfU u = true) {p : Nat → Bool} : ∀ b, b < u.blocks.length → ∀ k ∈ refN u p b, k < u.blocks.length := fun b hb k hk => nextN_lt b hb k ((refN_mem hu).1 hk)
theorem refL_len {p : Nat → Bool} {k : UBlk} : (refL p k).length ≤ k.ops.length + 3 := by
  have h1 := refE_len (k := k) (Nat.le_refl _)
  have h2 := refG_len (k := k) (l := refE k k.ops.length)
  have h3 := refH_len (k := k) (l := refG k (refE k k.ops.length))
  simp only [refL, refC]
  split
  · have := addL_len (n := k.catch_) (l := refH k (refG k (refE k k.ops.length))); omega
  · omega
end Go.Cl.Gd
set_option linter.unusedSimpArgs false
set_option linter.unusedVariables false
namespace Go.Cl.Gd
open Go.Proofs
variable {W : World} {G : Nat → CV}
set_option maxRecDepth 8000
set_option maxHeartbeats 2000000
/-- The graph on the way: X lies still; the lists' table grows. -/
structure RW (X H : Hp) (q4 i : Nat) (N : Nat → List Nat) (vN : CV) (vs : List CV) : Prop where
  xq : X q4 = none
  vl : vs.length = i
  nx : ∀ b, b < i → ∃ v, vs[b]? = some v ∧ SlF X v (natL (N b))
  ow : Own (X.set q4 (.cells [vN, .nilsl])) H vN 1 (vs.map fun v => [v])
structure RX (X H0 : Hp) (u : UUnit) (p : Nat → Bool) (q1 q2 : Nat) (vt : CV) : Prop where
  le : Le H0 X
  uu : X q1 = some (.cells (unitC u))
  m2 : X q2 = some (.cells [.nilsl, .nilsl])
  z2 : H0 q2 = none
  th : ∃ r c cs, vt = .ref r 0 u.blocks.length c ∧ X r = some (.cells cs) ∧ ∀ (b : Nat) (k : UBlk), u.blocks[b]? = some k → cs[b]? = some (.bool (mayAny p k))
theorem RX.more {X X' H0 : Hp} {u : UUnit} {p : Nat → Bool} {q1 q2 : Nat} {vt : CV} (h : RX X H0 u p q1 q2 vt) (hl : Le X X') : RX X' H0 u p q1 q2 vt := by
  obtain ⟨r, c, cs, h1, h2, h3⟩ := h.th
  exact ⟨h.le.trans hl, hl _ _ h.uu, hl _ _ h.m2, h.z2, r, c, cs, h1, hl _ _ h2, h3⟩
theorem RW.le {X H : Hp} {q4 i : Nat} {N : Nat → List Nat} {vN : CV} {vs : List CV} (h : RW X H q4 i N vN vs) : Le X H := (Le.set_new h.xq).trans h.ow.le
structure roI (H0 : Hp) (u : UUnit) (p : Nat → Bool) (q1 q2 q4 : Nat) (vt : CV) (d : Nat) (m : Nat) (s' : CA) (H' : Hp) : Prop where
  ex : ∃ (i i5 : Nat) (X : Hp) (vN : CV) (vs : List CV), m = u.blocks.length - i ∧ i ≤ u.blocks.length ∧ s'.env 1 = .ptr q1 0 ∧ s'.env 2 = .ptr q2 0 ∧ s'.env 3 = vt ∧ s'.env 4 = .ptr q4 0 ∧ s'.env 5 = .int .i64 i5 ∧ i5 + d = i ∧ s'.ds = [] ∧ RX X H0 u p q1 q2 vt ∧ RW X H' q4 i (refN u p) vN vs
structure roE (H0 : Hp) (u : UUnit) (p : Nat → Bool) (q1 q2 q4 : Nat) (vt : CV) (s' : CA) (H' : Hp) : Prop where
  ex : ∃ (X : Hp) (vN : CV) (vs : List CV), s'.env 2 = .ptr q2 0 ∧ s'.env 4 = .ptr q4 0 ∧ s'.ds = [] ∧ RX X H0 u p q1 q2 vt ∧ RW X H' q4 u.blocks.length (refN u p) vN vs
structure roS (q1 q2 q4 q6 i : Nat) (vt : CV) (Hs : Hp) (l : List Int) (s' : CA) (H' : Hp) : Prop where
  ex : ∃ v, s'.env 1 = .ptr q1 0 ∧ s'.env 2 = .ptr q2 0 ∧ s'.env 3 = vt ∧ s'.env 4 = .ptr q4 0 ∧ s'.env 5 = .int .i64 i ∧ s'.env 6 = .ptr q6 0 ∧ s'.env 7 = v ∧ s'.ds = [] ∧ Own Hs H' v 1 (ints l)
structure roJ (q1 q2 q4 q6 i : Nat) (vt : CV) (Hs : Hp) (k : UBlk) (d : Nat) (m : Nat) (s' : CA) (H' : Hp) : Prop where
  ex : ∃ (j j8 : Nat), m = k.ops.length - j ∧ j ≤ k.ops.length ∧ s'.env 8 = .int .i64 j8 ∧ j8 + d = j ∧ roS q1 q2 q4 q6 i vt Hs (refE k j) s' H'
theorem one_flat : ∀ vs : List CV, (vs.map fun v => [v]).flatten = vs
  | [] => rfl
  | x :: l => by rw [List.map_cons, List.flatten_cons, one_flat l]; rfl
/-- Rows of numbers: the ways from each block. -/
def RowsN (H : Hp) (v : CV) (n : Nat) (N : Nat → List Nat) : Prop := ∃ rn cn cs, v = .ref rn 0 n cn ∧ n ≤ cn ∧ H rn = some (.cells cs) ∧ ∀ b, b < n → ∃ w, cs[b]? = some w ∧ SlF H w (natL (N b))
theorem SlF.putNil {H : Hp} {v : CV} {l : List Int} {q : Nat} {t cs : List CV} (h : SlF H v l) (hq : H q = some (.cells (.nilsl :: t))) : SlF (H.set q (.cells cs)) v l := by
  rcases h with h | ⟨r, c, ds, h1, h2, h3⟩
  · exact .inl h
  · by_cases e : r = q
    · subst e
      rw [hq] at h2
      injection h2 with h2
      injection h2 with h2
      subst h2
      cases l with
      | nil => exact .inr ⟨r, c, cs, h1, set_at, fun k x hk => by simp at hk⟩
      | cons y l => have := h3 0 y rfl; simp at this
    · exact .inr ⟨r, c, ds, h1, by rw [hset_ne e]; exact h2, h3⟩
theorem refOf_c (hX : CxOk (cx W G)) (u : UUnit) (hu : wfU u = true) (H : Hp) :
    CC Tryz.prog W 17 [.agg (unitC u)] H fun x H' => ∃ vn rs s p c, x = .ret (.agg [vn, .ref rs 0 u.blocks.length u.blocks.length]) ∧ PLeast (opsOf u) p c ∧ Le H H' ∧ H' rs = some (.cells (boolC u.blocks.length s)) ∧ (∀ x, s x = true ↔ Rch (refN u p) 0 x) ∧ RowsN H' vn u.blocks.length (refN u p) := by
  obtain ⟨f1, f2, f3, f4, f5, f6, f7, f8, f9, f10, f11⟩ := wfU_facts hu
  refine CC.of_cw hX Tryz.func17 rfl rfl (Nat.le_of_ble_eq_true rfl) ?_
  refine CW.walk hX mixed d17 rfl ?_
  simp
  intro q1 hq1 q2 h21 h12 hq2
  have ht := throws39_c hX u hu ((H.set q1 (.cells (unitC u))).set q2 (.cells [.nilsl, .nilsl]))
  refine CW.walk hX mixed d17 rfl ?_
  simp [unitC, h12]
  simp only [unitC] at ht
  refine ht.k ?_
  rintro x H1 ⟨vt, p, c, H0, rfl, hle0, hpl, hown⟩
  simp
  refine CW.walk hX mixed d17 rfl ?_
  simp
  intro q4 hq4
  have hr0 := hown.isRef (fun h0 => by have := congrArg List.length h0; simp [thrL] at this; rw [this] at f7; simp at f7)
  obtain ⟨rt, ct, hvt⟩ := hr0
  obtain ⟨_, _, hcs⟩ := hown
  rcases hcs with ⟨h, _⟩ | ⟨r, c', ex, h, _, hrt, _, _⟩
  · rw [hvt] at h; cases h
  have hRX : RX H1 H u p q1 q2 vt := by
    refine ⟨(Le.set_new hq1).trans ((Le.set_new (by rw [hset_none_iff]; exact ⟨h21, hq2⟩)).trans (hle0.trans ‹Le H0 H1›)), ‹Le H0 H1› _ _ (hle0 _ _ (by simp [h12, unitC])), ‹Le H0 H1› _ _ (hle0 _ _ set_at), hq2, r, c', _, by rw [h]; simp [thrL], hrt, fun b k hk => ?_⟩
    have hfg := flat_get (xs := thrL p u.blocks) (sz := 1) (by simp [thrL]) (i := b) (j := 0) (e := [CV.bool (throwsB p k)]) (by simp [thrL, hk]) (by omega)
    have hfl : (thrL p u.blocks).flatten.length = u.blocks.length := by rw [flat_len (sz := 1) (by simp [thrL])]; simp [thrL]
    rw [List.getElem?_append_left (by rw [hfl]; exact (List.getElem?_eq_some_iff.1 hk).1)]
    show _ = some (CV.bool (throwsB p k))
    simpa using hfg
  have hRW : RW H1 (H1.set q4 (.cells [.nilsl, .nilsl])) q4 0 (refN u p) .nilsl [] := ⟨hq4, rfl, fun b hb => by omega, Own.nil (Le.refl _)⟩
  generalize H1.set q4 _ = H2 at hRW ⊢
  generalize H1 = X at hRX hRW
  clear ht hle0 hrt hvt h hq4
  refine CW.cut (roE H u p q1 q2 q4 vt) ?_ ?_
  · refine CW.walk hX mixed d17 rfl ?_
    simp
    refine CW.block ?_
    refine CW.loop (roI H u p q1 q2 q4 vt 0) ?_ (m := u.blocks.length) ⟨0, 0, X, .nilsl, [], rfl, by omega, by simp, by simp, by simp, by simp, by simp, rfl, rfl, hRX, hRW⟩
    clear hRX hRW
    clear X H2
    rintro m ⟨e, ds⟩ H1 ⟨i, i5, X, vN, vs, rfl, hi, e1, e2, e3, e4, e5, hi5, rfl, hRX, hRW⟩
    obtain rfl : i = i5 := by omega
    dsimp only at e1 e2 e3 e4 e5
    have m1 := hRW.le _ _ hRX.uu
    simp only [unitC] at m1
    refine CW.cut (fun s' H' => H' = H1 ∧ s'.env 1 = .ptr q1 0 ∧ s'.env 2 = .ptr q2 0 ∧ s'.env 3 = vt ∧ s'.env 4 = .ptr q4 0 ∧ s'.env 5 = .int .i64 i ∧ s'.ds = [] ∧ i < u.blocks.length) ?_ ?_
    · refine CW.walk hX mixed d17 rfl ?_
      simp [e1, e5, m1]
      refine CW.walk1 hX mixed d17 rfl ?_
      by_cases hil : i < u.blocks.length
      · simp [hil, e1, e2, e3, e4, e5]
      · simp [hil]
        obtain rfl : i = u.blocks.length := by omega
        exact ⟨X, vN, vs, by simp [e2], by simp [e4], rfl, hRX, hRW⟩
    clear e1 e2 e3 e4 e5
    clear e
    rintro ⟨e, ds⟩ H2 ⟨rfl, e1, e2, e3, e4, e5, rfl, hil⟩
    dsimp only at e1 e2 e3 e4 e5
    obtain ⟨k, hke⟩ : ∃ k, u.blocks[i] = k := ⟨_, rfl⟩
    have hk : u.blocks[i]? = some k := by rw [List.getElem?_eq_getElem hil, hke]
    obtain ⟨g1', hops, g3', g4'⟩ := wfB_facts hu hk
    refine CW.cut (roI H u p q1 q2 q4 vt 1 (u.blocks.length - (i + 1))) ?_ ?_
    rotate_left
    · clear e1 e2 e3 e4 e5 m1 hRX hRW
      clear e H2 X vN vs
      rintro ⟨e, ds⟩ H2 ⟨i2, i5, X, vN, vs, hm, hi2, e1, e2, e3, e4, e5, hi5, rfl, hRX, hRW⟩
      dsimp only at e1 e2 e3 e4 e5
      obtain rfl : i2 = i + 1 := by omega
      obtain rfl : i = i5 := by omega
      refine CW.walk1 hX mixed d17 rfl ?_
      simp [e5]
      exact ⟨u.blocks.length - (i + 1), by omega, i + 1, i + 1, X, vN, vs, rfl, hi2, by simp [e1], by simp [e2], by simp [e3], by simp [e4], by simp; rw [wrapI (by omega) (by omega)], rfl, rfl, hRX, hRW⟩
    refine CW.block ?_
    refine CW.walk hX mixed d17 rfl ?_
    simp [e1, e5, m1, hil, hke, blkC]
    intro q6 hq6
    have l6 := Le.set_new (o := .cells (blkC k)) hq6
    have m6 : (H2.set q6 (.cells (blkC k))) q6 = some (.cells (blkC k)) := set_at
    simp only [blkC, blkT] at l6 m6
    generalize H2.set q6 _ = Hs at l6 m6 ⊢
    have hRWs : RW X Hs q4 i (refN u p) vN vs := ⟨hRW.xq, hRW.vl, hRW.nx, hRW.ow.mono l6⟩
    clear hRW m1 hq6 l6
    clear H2
    refine CW.walk hX mixed d17 rfl ?_
    simp
    have step : ∀ (l : List Int) (n : Int) (v : CV) (H' : Hp), l.length ≤ 1000 → Own Hs H' v 1 (ints l) → CC Tryz.prog W 43 [v, ci n] H' fun x H'' => ∃ v', x = .ret v' ∧ Own Hs H'' v' 1 (ints (addL n l)) := fun l n v H' hl ho => (add_c hX v l n (by omega) H' ho.slF).mono fun x H'' ⟨v', h1, h2⟩ => ⟨v', h1, h2.base ho.le⟩
    refine CW.cut (roS q1 q2 q4 q6 i vt Hs (refE k k.ops.length)) ?_ ?_
    · refine CW.walk hX mixed d17 rfl ?_
      simp
      refine CW.block ?_
      refine CW.loop (roJ q1 q2 q4 q6 i vt Hs k 0) ?_ (m := k.ops.length) ⟨0, 0, rfl, by omega, by simp, rfl, .nilsl, by simp [e1], by simp [e2], by simp [e3], by simp [e4], by simp [e5], by simp, by simp, rfl, Own.nil (Le.refl _)⟩
      clear e1 e2 e3 e4 e5
      clear e
      rintro m ⟨e, ds⟩ H2 ⟨j, j8, rfl, hj, e8, hj8, v, e1, e2, e3, e4, e5, e6, e7, rfl, hown⟩
      obtain rfl : j = j8 := by omega
      dsimp only at e1 e2 e3 e4 e5 e6 e7 e8
      have k6 := hown.le _ _ m6
      have hel := refE_len (k := k) hj
      by_cases hjl : j < k.ops.length
      rotate_left
      · refine CW.walk hX mixed d17 rfl ?_
        simp [e6, e8, k6, hjl]
        obtain rfl : j = k.ops.length := by omega
        exact ⟨v, by simp [e1], by simp [e2], by simp [e3], by simp [e4], by simp [e5], by simp [e6], by simp [e7], rfl, hown⟩
      obtain ⟨o, hoe⟩ : ∃ o, k.ops[j] = o := ⟨_, rfl⟩
      have ho : k.ops[j]? = some o := by rw [List.getElem?_eq_getElem hjl, hoe]
      refine CW.walk hX mixed d17 rfl ?_
      simp [e6, e8, k6, hjl]
      refine CW.cut (roJ q1 q2 q4 q6 i vt Hs k 1 (k.ops.length - (j + 1))) ?_ ?_
      · refine CW.block ?_
        refine CW.walk hX mixed d17 rfl ?_
        have hsc := refE_succ ho
        by_cases h21 : o.kind = 21
        · rw [if_pos h21] at hsc
          simp [e6, e8, k6, hjl, hoe, opC, h21]
          refine CW.walk1 hX mixed d17 rfl ?_
          simp [e6, e7, e8, k6, hjl, hoe, opC]
          refine (step _ o.n v H2 (by omega) hown).k ?_
          rintro x H3 ⟨v', rfl, hown'⟩
          simp
          exact ⟨j + 1, j, rfl, by omega, by simp [e8], rfl, v', by simp [e1], by simp [e2], by simp [e3], by simp [e4], by simp [e5], by simp [e6], by simp, rfl, by rw [hsc]; exact hown'⟩
        · rw [if_neg h21] at hsc
          simp [e6, e8, k6, hjl, hoe, opC, h21]
          refine CW.walk1 hX mixed d17 rfl ?_
          simp [h21]
          exact ⟨j + 1, j, rfl, by omega, by simp [e8], rfl, v, by simp [e1], by simp [e2], by simp [e3], by simp [e4], by simp [e5], by simp [e6], by simp [e7], rfl, by rw [hsc]; exact hown⟩
      · clear e1 e2 e3 e4 e5 e6 e7 e8 hown k6
        clear e H2 v
        rintro ⟨e, ds⟩ H2 ⟨j2, j8, hm, hj2, e8, hj8, v, e1, e2, e3, e4, e5, e6, e7, rfl, hown⟩
        dsimp only at e1 e2 e3 e4 e5 e6 e7 e8
        obtain rfl : j2 = j + 1 := by omega
        obtain rfl : j = j8 := by omega
        refine CW.walk1 hX mixed d17 rfl ?_
        simp [e8]
        exact ⟨k.ops.length - (j + 1), by omega, j + 1, j + 1, rfl, hj2, by simp; rw [wrapI (by omega) (by omega)], rfl, v, by simp [e1], by simp [e2], by simp [e3], by simp [e4], by simp [e5], by simp [e6], by simp [e7], rfl, hown⟩
    clear e1 e2 e3 e4 e5
    clear e
    have hl0 := refE_len (k := k) (Nat.le_refl _)
    rintro ⟨e, ds⟩ H2 ⟨v, e1, e2, e3, e4, e5, e6, e7, rfl, hown⟩
    dsimp only at e1 e2 e3 e4 e5 e6 e7
    refine CW.cut (roS q1 q2 q4 q6 i vt Hs (refG k (refE k k.ops.length))) ?_ ?_
    · have k6 := hown.le _ _ m6
      refine CW.walk hX mixed d17 rfl ?_
      simp [e6, k6]
      refine (endTo_c hX k.en.kind H2).k ?_
      rintro x H3 ⟨rfl, rfl⟩
      by_cases hg : k.en.kind = 1 ∨ k.en.kind = 2
      · have hgd : (decide (k.en.kind = 1) || decide (k.en.kind = 2)) = true := by simpa using hg
        rw [hgd]
        have hsc : refG k (refE k k.ops.length) = addL k.en.to (refE k k.ops.length) := if_pos hg
        simp
        refine CW.walk1 hX mixed d17 rfl ?_
        simp [e6, e7, k6]
        refine (step _ k.en.to v H3 (by omega) hown).k ?_
        rintro x H4 ⟨v', rfl, hown'⟩
        simp
        exact ⟨v', by simp [e1], by simp [e2], by simp [e3], by simp [e4], by simp [e5], by simp [e6], by simp, rfl, by rw [hsc]; exact hown'⟩
      · have hgd : (decide (k.en.kind = 1) || decide (k.en.kind = 2)) = false := by simpa using hg
        rw [hgd]
        have hsc : refG k (refE k k.ops.length) = refE k k.ops.length := if_neg hg
        simp
        refine CW.walk1 hX mixed d17 rfl ?_
        simp
        exact ⟨v, by simp [e1], by simp [e2], by simp [e3], by simp [e4], by simp [e5], by simp [e6], by simp [e7], rfl, by rw [hsc]; exact hown⟩
    have hl1 := refG_len (k := k) (l := refE k k.ops.length)
    obtain ⟨l1, hl1e⟩ : ∃ l1, refG k (refE k k.ops.length) = l1 := ⟨_, rfl⟩
    rw [hl1e] at hl1 ⊢
    clear e1 e2 e3 e4 e5 e6 e7 hown
    clear e H2 v
    rintro ⟨e, ds⟩ H2 ⟨v, e1, e2, e3, e4, e5, e6, e7, rfl, hown⟩
    dsimp only at e1 e2 e3 e4 e5 e6 e7
    refine CW.cut (roS q1 q2 q4 q6 i vt Hs (refH k l1)) ?_ ?_
    · have k6 := hown.le _ _ m6
      refine CW.walk hX mixed d17 rfl ?_
      simp [e6, k6]
      refine (endElse_c hX k.en.kind H2).k ?_
      rintro x H3 ⟨rfl, rfl⟩
      by_cases hg : k.en.kind = 2
      · have hsc : refH k l1 = addL k.en.els l1 := if_pos hg
        simp [hg]
        refine CW.walk1 hX mixed d17 rfl ?_
        simp [e6, e7, k6]
        refine (step _ k.en.els v H3 (by omega) hown).k ?_
        rintro x H4 ⟨v', rfl, hown'⟩
        simp
        exact ⟨v', by simp [e1], by simp [e2], by simp [e3], by simp [e4], by simp [e5], by simp [e6], by simp, rfl, by rw [hsc]; exact hown'⟩
      · have hsc : refH k l1 = l1 := if_neg hg
        simp [hg]
        refine CW.walk1 hX mixed d17 rfl ?_
        simp
        exact ⟨v, by simp [e1], by simp [e2], by simp [e3], by simp [e4], by simp [e5], by simp [e6], by simp [e7], rfl, by rw [hsc]; exact hown⟩
    have hl2 := refH_len (k := k) (l := l1)
    obtain ⟨l2, hl2e⟩ : ∃ l2, refH k l1 = l2 := ⟨_, rfl⟩
    rw [hl2e] at hl2 ⊢
    clear e1 e2 e3 e4 e5 e6 e7 hown
    clear e H2 v
    rintro ⟨e, ds⟩ H2 ⟨v, e1, e2, e3, e4, e5, e6, e7, rfl, hown⟩
    dsimp only at e1 e2 e3 e4 e5 e6 e7
    refine CW.cut (roS q1 q2 q4 q6 i vt Hs (refC p k l2)) ?_ ?_
    · have k6 := hown.le _ _ m6
      obtain ⟨rt2, ct2, cst, hvt2, mt, hth⟩ := hRX.th
      have kt := hown.le _ _ (hRWs.le _ _ mt)
      have gt := hth i k hk
      have e3' := e3
      rw [hvt2] at e3'
      refine CW.walk hX mixed d17 rfl ?_
      cases hm : mayAny p k with
      | true =>
        rw [hm] at gt
        by_cases h0 : 0 ≤ k.catch_
        · have hsc : refC p k l2 = addL k.catch_ l2 := if_pos ⟨hm, h0⟩
          simp [e3', e5, e6, kt, gt, hil, k6, h0]
          refine CW.walk1 hX mixed d17 rfl ?_
          simp [e6, e7, k6]
          refine (step _ k.catch_ v H2 (by omega) hown).k ?_
          rintro x H4 ⟨v', rfl, hown'⟩
          simp
          exact ⟨v', by simp [e1], by simp [e2], by simp [e3], by simp [e4], by simp [e5], by simp [e6], by simp, rfl, by rw [hsc]; exact hown'⟩
        · have hsc : refC p k l2 = l2 := if_neg fun q => h0 q.2
          simp [e3', e5, e6, kt, gt, hil, k6, h0]
          refine CW.walk1 hX mixed d17 rfl ?_
          simp
          exact ⟨v, by simp [e1], by simp [e2], by simp [e3], by simp [e4], by simp [e5], by simp [e6], by simp [e7], rfl, by rw [hsc]; exact hown⟩
      | false =>
        rw [hm] at gt
        have hsc : refC p k l2 = l2 := if_neg fun q => by rw [hm] at q; exact absurd q.1 (by simp)
        simp [e3', e5, e6, kt, gt, hil, k6]
        refine CW.walk1 hX mixed d17 rfl ?_
        simp
        exact ⟨v, by simp [e1], by simp [e2], by simp [e3], by simp [e4], by simp [e5], by simp [e6], by simp [e7], rfl, by rw [hsc]; exact hown⟩
    have hrl : refC p k l2 = refL p k := by rw [← hl2e, ← hl1e]; rfl
    rw [hrl]
    clear e1 e2 e3 e4 e5 e6 e7 hown
    clear e H2 v
    rintro ⟨e, ds⟩ H2 ⟨v, e1, e2, e3, e4, e5, e6, e7, rfl, hown⟩
    dsimp only at e1 e2 e3 e4 e5 e6 e7
    have hNi : natL (refN u p i) = refL p k := by
      simp only [refN, hk]
      exact natL_toNat fun x hx => (ways_lt hu hk x (refL_mem.1 hx)).1
    have hq4s := hRWs.ow.le _ _ set_at
    obtain ⟨X', hXX, hxq, hsl, how⟩ : ∃ X', Le X X' ∧ X' q4 = none ∧ SlF X' v (natL (refN u p i)) ∧ Own (X'.set q4 (.cells [vN, .nilsl])) H2 vN 1 (vs.map fun v => [v]) := by
      rw [hNi]
      rcases hown.cases with ⟨rfl, h2⟩ | ⟨r, c2, ex2, rfl, h1, h2, h3⟩
      · exact ⟨X, Le.refl _, hRWs.xq, .inl ⟨rfl, h2⟩, hRWs.ow.mono hown.le⟩
      · have hrq : r ≠ q4 := fun e => by rw [e, hq4s] at h2; cases h2
        have hXr := hRWs.le.none h2
        refine ⟨X.set r (.cells (nums (refL p k) ex2)), Le.set_new hXr, by rw [hset_none_iff]; exact ⟨Ne.symm hrq, hRWs.xq⟩, .inr ⟨r, c2 - (refL p k).length, _, by congr 1; omega, set_at, fun j y hj => ?_⟩, ?_⟩
        · simp only [nums]
          rw [List.getElem?_append_left (by rw [List.length_map]; exact (List.getElem?_eq_some_iff.1 hj).1), List.getElem?_map, hj]
          rfl
        · have := Own.rebase hRWs.ow hown.le h2 h3
          rwa [set_comm (Ne.symm hrq)] at this
    have hvl := hRWs.vl
    have hnx := hRWs.nx
    have k4 := how.le _ _ set_at
    obtain ⟨sa, ca⟩ := Own.oneCell hown
    simp only [CV.stor, CV.cells] at sa ca
    refine CW.walk1 hX mixed d17 rfl ?_
    simp [e4, e7, k4, cfill, sa, ca, -vcAppend]
    intro q hq
    refine (how.more hq).append2 (ys := [[v]]) (by simp) (by simp; omega) (src_one set_at rfl) fun v' H4 how4 _ => ?_
    obtain ⟨r', c', rfl⟩ := how4.isRef (by simp)
    have k44 := how4.le _ _ set_at
    simp [e4, k44, -List.length_append]
    have how5 := how4.setBase (r := q4) (o := .cells [.ref r' 0 ((vs.map fun v => [v]) ++ [[v]]).length c', .nilsl]) (by rw [set_at]; simp)
    rw [set_set] at how5
    refine ⟨i + 1, i, X', _, vs ++ [v], rfl, by omega, by simp [e1], by simp [e2], by simp [e3], by simp [e4], by simp [e5], rfl, rfl, hRX.more hXX, hxq, by simp [hvl], fun b hb => ?_, by simpa using how5⟩
    by_cases hbi : b < i
    · obtain ⟨w, h1, h2⟩ := hnx b hbi
      exact ⟨w, by rw [List.getElem?_append_left (by omega)]; exact h1, h2.mono hXX⟩
    · obtain rfl : b = i := by omega
      exact ⟨v, by rw [List.getElem?_append_right (by omega), hvl]; simp, hsl⟩
  rintro ⟨e, ds⟩ H2 ⟨X, vN, vs, e2, e4, rfl, hRX, hRW⟩
  dsimp only at e2 e4
  have k4 := hRW.ow.le _ _ set_at
  have k2 := hRW.le _ _ hRX.m2
  have hq42 : q4 ≠ q2 := fun e => by have := hRX.m2; rw [← e, hRW.xq] at this; cases this
  have hNl : ∀ b, b < u.blocks.length → (refN u p b).length ≤ 100000 := fun b hb => by
    have hk : u.blocks[b]? = some u.blocks[b] := List.getElem?_eq_getElem hb
    simp only [refN, hk, List.length_map]
    have := refL_len (p := p) (k := u.blocks[b])
    have := (wfB_facts hu hk).2.1
    omega
  obtain ⟨hle4, _, hcs⟩ := hRW.ow
  rcases hcs with ⟨_, h⟩ | ⟨rn, cn, ex, hvN, hrn0, hrn, _, hcn⟩
  · have := congrArg List.length h
    simp [hRW.vl] at this
    rw [this] at f7; simp at f7
  rw [List.length_map, hRW.vl] at hvN hcn
  subst hvN
  have hfl := one_flat vs
  rw [hfl] at hrn
  have hfr := from_c hX (by omega : 0 < u.blocks.length) (by omega) (refN_lt hu (p := p)) hNl (vr := .nilsl) ⟨rfl, rfl⟩ hcn hrn (fun b hb => by
    obtain ⟨w, h1, h2⟩ := hRW.nx b hb
    exact ⟨w, by rw [List.getElem?_append_left (by rw [hRW.vl]; exact hb)]; exact h1, h2.mono hRW.le⟩)
  refine CW.walk hX mixed d17 rfl ?_
  simp [e4, k4]
  refine hfr.k ?_
  rintro x H3 ⟨rs, s, rfl, hle3, hrs0, hrs, hRch⟩
  have k43 := hle3 _ _ k4
  have k23 := hle3 _ _ k2
  have hr4 : rs ≠ q4 := fun e => by rw [e, k4] at hrs0; cases hrs0
  have hr2 : rs ≠ q2 := fun e => by rw [e, k2] at hrs0; cases hrs0
  simp [e4, k43]
  refine CW.walk hX mixed d17 rfl ?_
  simp [e2, e4, k23, hq42, Ne.symm hq42, cfill]
  refine CW.walk1 hX mixed d17 rfl ?_
  simp [e2]
  have hn4 : rn ≠ q4 := fun e => by rw [e, set_at] at hrn0; cases hrn0
  have hn2 : rn ≠ q2 := fun e => by have h := hRX.m2; rw [hset_ne hn4] at hrn0; rw [← e, hrn0] at h; cases h
  refine ⟨_, _, ⟨rfl, rfl⟩, s, p, ⟨c, hpl⟩, ?_, ?_, hRch, ⟨rn, cn, _, rfl, hcn, by rw [hset_ne hn2, hset_ne hn4]; exact hle3 _ _ hrn, fun b hb => ?_⟩⟩
  rotate_right
  · obtain ⟨w, h1, h2⟩ := hRW.nx b hb
    refine ⟨w, by rw [List.getElem?_append_left (by rw [hRW.vl]; exact hb)]; exact h1, ?_⟩
    exact SlF.putNil (h2.mono ((hRW.le.trans hle3).put hRW.xq)) (by rw [hset_ne (Ne.symm hq42)]; exact k23)
  · exact (((hRX.le.trans hRW.le).trans hle3).put (hRX.le.none hRW.xq)).put hRX.z2
  · rw [hset_ne hr2, hset_ne hr4]; exact hrs
end Go.Cl.Gd
set_option linter.unusedSimpArgs false
set_option linter.unusedVariables false
namespace Go.Cl.Gd
open Go.Proofs
variable {W : World} {G : Nat → CV}
set_option maxRecDepth 8000
set_option maxHeartbeats 2000000
end Go.Cl.Gd
