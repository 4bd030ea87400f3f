/- DERIVED HERE. The clean layer: a frozen call whose blocks are handed back with what is known of them. -/
import Derived.Test.YtoophlkbngagcaaGreatDoorUMq
set_option linter.unusedSimpArgs false
set_option linter.unusedVariables false
namespace Go.Cl
open Go.RowKit Go.Proofs
section
variable {X : Cx} {P : Program} {W w : World} {H F : Hp}
def WkOb (o o' : Ob) : Prop := o = o' ∨ ∃ cs cs', o = .cells cs ∧ o' = .cells cs' ∧ cs.length = cs'.length ∧ ∀ (i : Nat) x, cs[i]? = some x → x = .any ∨ cs'[i]? = some x
def Wk (A B : Hp) : Prop := ∀ r o, A r = some o → ∃ o', B r = some o' ∧ WkOb o o'
theorem RepOb.wk {o o' : Ob} {ob : Obj} (h : WkOb o o') (k : RepOb W o' ob) : RepOb W o ob := by
  rcases h with rfl | ⟨cs, cs', rfl, rfl, hl, hx⟩
  · exact k
  · obtain ⟨c, t, rfl, h1, h2⟩ := k
    refine ⟨c, t, rfl, ⟨by rw [hl]; exact h1.1, fun i x v hi hv => ?_⟩, h2⟩
    rcases hx i x hi with rfl | hi'
    · exact .any v
    · exact h1.2 i x v hi' hv
theorem CC.weaken {f : FuncId} {args : List CV} {R : CE → Hp → Prop} (h : CC P W f args H fun x H' => ∃ H2, Wk H2 H' ∧ R x H2) : CC P W f args H R :=
  ⟨h.ent, fun F av w hd hl hh => (h.out F av w hd hl hh).mono fun e w' ⟨x, H', h1, h2, h3, H2, h4, h5⟩ => ⟨x, H2, h1, (fun i => by
    rcases h2 i with d | d
    · cases hi : H2 i with
      | none => exact .inl rfl
      | some o => obtain ⟨o', h6, _⟩ := h4 i o hi; rw [d] at h6; cases h6
    · exact .inr d), ⟨h3.below, fun i o ho => by
      simp only [hun] at ho
      cases hi : H2 i with
      | some o2 =>
        rw [hi] at ho; simp at ho; subst ho
        obtain ⟨o', h6, h7⟩ := h4 i o2 hi
        obtain ⟨k1, ob, k2, k3⟩ := h3.at_ i o' (hun_left h6)
        exact ⟨k1, ob, k2, RepOb.wk h7 k3⟩
      | none =>
        rw [hi] at ho; simp at ho
        have hn : H' i = none := (h2 i).resolve_right (by rw [ho]; simp)
        exact h3.at_ i o (by simp [hun, hn, ho])⟩, h5⟩⟩
def wkC : CV → CV
  | .int k n => .int k n
  | .bool b => .bool b
  | .nilsl => .nilsl
  | .ref r o n c => .ref r o n c
  | .ptr r o => .ptr r o
  | _ => .any
theorem wkC_free (c : CV) : Free (wkC c) := by cases c <;> simp only [wkC] <;> constructor
theorem wkC_or (c : CV) : wkC c = .any ∨ wkC c = c := by cases c <;> simp [wkC]
def wkH (H : Hp) : Hp := fun r => match H r with | some (.cells cs) => some (.cells (cs.map wkC)) | _ => none
theorem wkH_wk (H : Hp) : Wk (wkH H) H := by
  intro r o ho
  simp only [wkH] at ho
  split at ho
  · rename_i cs hc
    injection ho with ho
    subst ho
    refine ⟨_, hc, .inr ⟨_, _, rfl, rfl, by simp, fun i x hx => ?_⟩⟩
    rw [List.getElem?_map] at hx
    cases hi : cs[i]? with
    | none => rw [hi] at hx; cases hx
    | some c =>
      rw [hi] at hx
      injection hx with hx
      rcases wkC_or c with h | h
      · exact .inl (by rw [← hx]; exact h)
      · exact .inr (by rw [← hx, h])
  · cases ho
theorem wkH_free (H : Hp) : FreeHp (wkH H) := by
  intro r o ho
  simp only [wkH] at ho
  split at ho
  · injection ho with ho
    subst ho
    intro i x hx
    rw [List.getElem?_map] at hx
    cases hi : (_ : List CV)[i]? with
    | none => rw [hi] at hx; cases hx
    | some c => rw [hi] at hx; injection hx with hx; rw [← hx]; exact wkC_free c
  · cases ho
theorem wkH_at {H : Hp} {r : Nat} {cs : List CV} (h : H r = some (.cells cs)) : wkH H r = some (.cells (cs.map wkC)) := by simp [wkH, h]
/-- **A call whose arguments are frozen**: what it hands back is told at its own heap, which lies beside. -/
theorem CC.freeze3 {f : FuncId} {args args' : List CV} {R : CE → Hp → Prop} (hl : args.length = args'.length) (hf : ∀ (i : Nat) x y, args[i]? = some x → args'[i]? = some y → Fz H x y) (hp : ∀ x H', R x H' → FreeEnd x)
    (h : ∀ w, Below W.heap.size W w → CC P w f args' (fun _ => none) R) : CC P W f args H fun x H2 => ∃ H', R x H' ∧ Le H H2 ∧ Le (wkH H') H2 ∧ ∀ r, wkH H' r ≠ none → H r = none := by
  refine (CC.freeze2 (R := fun x A => ∃ H', A = wkH H' ∧ R x H') hl hf ?_ fun w hw => CC.weaken ((h w hw).mono fun x H' hR => ⟨wkH H', wkH_wk H', H', rfl, hR⟩)).mono ?_
  · rintro x _ ⟨H', rfl, hR⟩
    exact ⟨hp x H' hR, wkH_free H'⟩
  · rintro x H2 ⟨A, ⟨H', rfl, hR⟩, hnew, rfl⟩
    refine ⟨H', hR, fun r o hr => by simp [hun, hr], fun r o hr => ?_, fun r hr => ?_⟩
    · have := hnew r o hr
      simp [hun, this, hr]
    · cases hc : wkH H' r with
      | none => exact absurd hc hr
      | some o => exact hnew r o hc
/-- A slice of numbers in a block of its own. -/
def SlF (H : Hp) (v : CV) (l : List Int) : Prop := (v = .nilsl ∧ l = []) ∨ ∃ r c cs, v = .ref r 0 l.length (l.length + c) ∧ H r = some (.cells cs) ∧ ∀ (k : Nat) x, l[k]? = some x → cs[k]? = some (ci x)
theorem SlF.slR {v : CV} {l : List Int} (h : SlF H v l) : SlR H v l := by
  rcases h with h | ⟨r, c, cs, h1, h2, h3⟩
  · exact .inr (.inr h)
  · exact .inr (.inl ⟨r, _, cs, h1, h2, h3⟩)
theorem SlF.fz {v : CV} {l : List Int} (h : SlF H v l) : Fz H v (.sl 1 (ints l)) := by
  rcases h with ⟨rfl, rfl⟩ | ⟨r, c, cs, rfl, h2, h3⟩
  · exact .nil 1
  · refine .ref r 0 l.length _ 1 cs _ h2 (by simp [ints]) (by omega) (fun i e he => ?_) (fun i _ => ci (l.getD i 0)) (fun i j hi hj => ?_) (fun i j e x he hx => ?_)
    · obtain ⟨n, _, rfl⟩ := List.mem_map.1 (List.mem_of_getElem? he); rfl
    · have : j = 0 := by omega
      subst this
      rw [show 0 + (i * 1 + 0) = i by omega]
      exact h3 i _ (by rw [List.getD_eq_getElem?_getD, List.getElem?_eq_getElem hi]; rfl)
    · have hi : i < l.length := by have := (List.getElem?_eq_some_iff.1 he).1; simpa [ints] using this
      simp only [ints, List.getElem?_map, List.getElem?_eq_getElem hi] at he
      injection he with he
      rw [← he] at hx
      cases j with
      | zero =>
        simp at hx
        rw [List.getD_eq_getElem?_getD, List.getElem?_eq_getElem hi, ← hx]
        exact .same _
      | succ j => simp at hx
theorem SlF.mono {H' : Hp} {v : CV} {l : List Int} (h : SlF H v l) (hl : Le H H') : SlF H' v l := by
  rcases h with h | ⟨r, c, cs, h1, h2, h3⟩
  · exact .inl h
  · exact .inr ⟨r, c, cs, h1, hl _ _ h2, h3⟩
theorem SlF.wk {v : CV} {l : List Int} (h : SlF H v l) : SlF (wkH H) v l := by
  rcases h with h | ⟨r, c, cs, h1, h2, h3⟩
  · exact .inl h
  · exact .inr ⟨r, c, _, h1, wkH_at h2, fun k x hk => by rw [List.getElem?_map, h3 k x hk]; rfl⟩
theorem SlF.free {v : CV} {l : List Int} (h : SlF H v l) : Free v := by
  rcases h with ⟨rfl, _⟩ | ⟨r, c, cs, rfl, _⟩ <;> constructor
theorem Own.slF {H0 H : Hp} {v : CV} {l : List Int} (h : Own H0 H v 1 (ints l)) : SlF H v l := by
  obtain ⟨_, _, ⟨rfl, hx⟩ | ⟨q, c, ex, rfl, hq, hq2, _, hqc⟩⟩ := h
  · exact .inl ⟨rfl, by simpa [ints] using hx⟩
  · refine .inr ⟨q, c - l.length, _, by simp [ints] at hqc ⊢; omega, hq2, fun k x hk => ?_⟩
    have := (List.getElem?_eq_some_iff.1 hk).1
    rw [ints_flat, List.getElem?_append_left (by simpa using this), List.getElem?_map, hk]
    rfl
/-- As SlF, in a block that H0 doesn't know. -/
def SlN (H0 H : Hp) (v : CV) (l : List Int) : Prop := (v = .nilsl ∧ l = []) ∨ ∃ r c cs, v = .ref r 0 l.length (l.length + c) ∧ H0 r = none ∧ H r = some (.cells cs) ∧ ∀ (k : Nat) x, l[k]? = some x → cs[k]? = some (ci x)
theorem SlN.slF {H0 : Hp} {v : CV} {l : List Int} (h : SlN H0 H v l) : SlF H v l := by
  rcases h with h | ⟨r, c, cs, h1, _, h2, h3⟩
  · exact .inl h
  · exact .inr ⟨r, c, cs, h1, h2, h3⟩
theorem SlF.slN {H0 H2 : Hp} {v : CV} {l : List Int} (h : SlF H v l) (hn : ∀ r, H r ≠ none → H0 r = none) (hl : Le H H2) : SlN H0 H2 v l := by
  rcases h with h | ⟨r, c, cs, h1, h2, h3⟩
  · exact .inl h
  · exact .inr ⟨r, c, cs, h1, hn r (by rw [h2]; simp), hl _ _ h2, h3⟩
/-- A second slice, made since, is taken into the base of a first one. -/
theorem Own.both2 {B H H' : Hp} {v w : CV} {sz : Nat} {xs : List (List CV)} {l : List Int} (h : Own B H v sz xs) (hl : Le H H') (k : SlN H H' w l) : ∃ B', Le B B' ∧ Own B' H' v sz xs ∧ SlF B' w l := by
  rcases k with ⟨rfl, rfl⟩ | ⟨r, c, cs, rfl, k2, k3, k4⟩
  · exact ⟨B, Le.refl B, h.mono hl, .inl ⟨rfl, rfl⟩⟩
  · have hB : B r = none := h.1.none k2
    refine ⟨B.set r (.cells cs), Le.set_new hB, ?_, .inr ⟨r, c, cs, rfl, set_at, k4⟩⟩
    refine ⟨fun i o hi => ?_, h.2.1, ?_⟩
    · simp only [Hp.set] at hi
      split at hi
      · rename_i e; subst e; injection hi with hi; rw [← hi]; exact k3
      · exact hl i o (h.1 i o hi)
    · rcases h.2.2 with h' | ⟨p, c', ex', h3, h4, h5, h6⟩
      · exact .inl h'
      · have hne : p ≠ r := fun e => by rw [e, k2] at h5; cases h5
        exact .inr ⟨p, c', ex', h3, by simp [Hp.set, hne, h4], hl _ _ h5, h6⟩
/-- A slice of such slices. -/
def AllF (H : Hp) (v : CV) (ls : List (List Int)) : Prop := (v = .nilsl ∧ ls = []) ∨ ∃ r c cs, v = .ref r 0 ls.length c ∧ H r = some (.cells cs) ∧ ∀ (k : Nat) l, ls[k]? = some l → ∃ x, cs[k]? = some x ∧ SlF H x l
theorem AllF.mono {H' : Hp} {v : CV} {l : List (List Int)} (h : AllF H v l) (hl : Le H H') : AllF H' v l := by
  rcases h with h | ⟨r, c, cs, h1, h2, h3⟩
  · exact .inl h
  · exact .inr ⟨r, c, cs, h1, hl _ _ h2, fun k l hk => by obtain ⟨x, h4, h5⟩ := h3 k l hk; exact ⟨x, h4, h5.mono hl⟩⟩
theorem AllF.wk {v : CV} {l : List (List Int)} (h : AllF H v l) : AllF (wkH H) v l := by
  rcases h with h | ⟨r, c, cs, h1, h2, h3⟩
  · exact .inl h
  · refine .inr ⟨r, c, _, h1, wkH_at h2, fun k l hk => ?_⟩
    obtain ⟨x, h4, h5⟩ := h3 k l hk
    refine ⟨x, ?_, h5.wk⟩
    rw [List.getElem?_map, h4]
    rcases h5 with ⟨rfl, _⟩ | ⟨r, c, cs, rfl, _⟩ <;> rfl
theorem AllF.free {v : CV} {l : List (List Int)} (h : AllF H v l) : Free v := by
  rcases h with ⟨rfl, _⟩ | ⟨r, c, cs, rfl, _⟩ <;> constructor
end
end Go.Cl
