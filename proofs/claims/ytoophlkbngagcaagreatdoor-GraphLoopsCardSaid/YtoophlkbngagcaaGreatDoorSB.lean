/- DERIVED HERE. The library's sort of any slice of numbers: the kit's contract, brought to the clean layer. -/
import Derived.Test.YtoophlkbngagcaaGreatDoorLQ
import Derived.Test.YtoophlkbngagcaaGreatDoorSL
import Derived.Sort.EveryDepth
set_option linter.unusedSimpArgs false
set_option linter.unusedVariables false
namespace Go.Cl
open Go.Proofs
variable {W : World} {G : Nat → CV}
set_option maxRecDepth 8000
theorem Held.sorted {H : Hp} {w : World} (h : Held W H w) {r : Nat} {l L : List Int} {ex : List CV} (hr : H r = some (.cells (nums l ex))) (hL : L.length = l.length) (m : Nat) (os : Array Obj) :
    Held W (H.set r (.cells (nums L ex))) (Go.Sort.grow (Go.Sort.putRow (Value.int .i64) (Go.Sort.ahead w m) r 0 L.toArray) os) := by
  obtain ⟨hb, ob, hob, carr, t, rfl, ⟨hlen, hrep⟩, hone⟩ := h.at_ r _ hr
  have hheap : ∀ i, i < w.heap.size → (Go.Sort.grow (Go.Sort.putRow (Value.int .i64) (Go.Sort.ahead w m) r 0 L.toArray) os).heap[i]? = if r = i then (w.heap[i]?).map (Go.Sort.onCells (Go.Sort.putCells (Value.int .i64) 0 L.toArray)) else w.heap[i]? := by
    intro i hi
    show ((w.heap.modify r _) ++ os)[i]? = _
    rw [Array.getElem?_append_left (by simpa using hi), Array.getElem?_modify]
  have hsz : w.heap.size ≤ (Go.Sort.grow (Go.Sort.putRow (Value.int .i64) (Go.Sort.ahead w m) r 0 L.toArray) os).heap.size := by
    show w.heap.size ≤ ((w.heap.modify r _) ++ os).size
    simp
  have hlt : ∀ i ob, w.heap[i]? = some ob → i < w.heap.size := fun i ob e => (Array.getElem?_eq_some_iff.1 e).1
  refine ⟨h.below.trans ⟨rfl, rfl, rfl, hsz, fun k hk => ?_⟩, fun i o ho => ?_⟩
  · have := h.below.size
    rw [hheap k (by omega), if_neg (by omega)]
  · by_cases e : i = r
    · subst e
      simp only [Hp.set, if_true, Option.some.injEq] at ho
      subst ho
      refine ⟨hb, _, by rw [hheap i (hlt _ _ hob), if_pos rfl, hob]; rfl, _, t, rfl, ⟨?_, fun k x v hx hv => ?_⟩, fun k v hv => ?_⟩
      · simp [Go.Sort.putCells, ← hlen, hL]
      · simp only [Go.Sort.putCells, Array.toList_mapIdx, List.getElem?_mapIdx] at hv
        cases hc : carr.toList[k]? with
        | none => rw [hc] at hv; cases hv
        | some v0 =>
          rw [hc] at hv
          simp only [Option.map_some, Option.some.injEq] at hv
          by_cases hk : k < L.length
          · rw [if_pos (by simpa using hk)] at hv
            rw [nums_get hk] at hx
            injection hx with hx
            subst hx; subst hv
            have : gI L k = L.toArray[k - 0]! := by
              simp [gI, List.getD_eq_getElem?_getD, List.getElem?_eq_getElem hk, hk]
            rw [this]
            exact .int _ _
          · rw [if_neg (by simpa using hk)] at hv
            subst hv
            refine hrep k x v0 ?_ hc
            rw [nums, List.getElem?_append_right (by simp; omega)] at hx ⊢
            rw [List.length_map] at hx ⊢
            rw [← hL]; exact hx
      · simp only [Go.Sort.putCells, Array.toList_mapIdx, List.getElem?_mapIdx] at hv
        cases hc : carr.toList[k]? with
        | none => rw [hc] at hv; cases hv
        | some v0 =>
          rw [hc] at hv
          simp only [Option.map_some, Option.some.injEq] at hv
          split at hv
          · subst hv; rfl
          · subst hv; exact hone k v0 hc
    · simp only [Hp.set, if_neg e] at ho
      obtain ⟨h1, ob', h2, h3⟩ := h.at_ i o ho
      exact ⟨h1, ob', by rw [hheap i (hlt _ _ h2), if_neg (Ne.symm e)]; exact h2, h3⟩
/-- A contract that holds at every depth of a fence holds within the wide one. -/
theorem callsIn_fen {L : List FuncId} {n : Nat} {P : Program} {f : FuncId} {args : Array Value} {w : World} {R : Ending → World → Prop} (h : ∀ D : Nat, CallsIn (Fence.list L (some D)) n P f args w R) : CallsIn (fen none) 0 P f args w R :=
  ⟨trivial, fun cs _ => by
    obtain ⟨e, w', fr, r, s, x⟩ := (h (cs.length + 1 + n)).2 cs (fun _ hd => by cases hd; exact Nat.le_refl _)
    exact ⟨e, w', fr, r, ComesIn.mono (fun m _ => fenced_wide P m) s, x⟩⟩
theorem sortAny_c (hX : CxOk (cx W G)) (l : List Int) (r c : Nat) (ex : List CV) (hl : l.length ≤ 1000000) (H : Hp) (hr : H r = some (.cells (nums l ex))) :
    CC Tryz.prog W 94 [.ref r 0 l.length c] H fun x H' => x = .ret (.tuple []) ∧ ∃ L, List.Perm L l ∧ L.Pairwise (· ≤ ·) ∧ H' = H.set r (.cells (nums L ex)) := by
  refine ⟨⟨Tryz.f94, Tryz.func94, rfl, rfl⟩, fun F av w hd hrl hh => ?_⟩
  obtain ⟨v, rfl⟩ : ∃ v, av = #[v] := by
    have := hrl.1
    refine ⟨av[0]'(by simp at this; omega), ?_⟩
    apply Array.ext
    · simp at this; simp; omega
    · intro i h1 h2
      simp at this
      have : i = 0 := by omega
      subst this; rfl
  have hv := rep_ref (hrl.2 0 _ v rfl rfl)
  subst hv
  obtain ⟨carr, t0, hbk, hcr⟩ := hh.cellsAt (hun_left hr)
  have hH : Go.Sort.Holds (Value.int .i64) w r 0 l.toArray := by
    intro j hj
    have hj' : j < l.length := by simpa using hj
    have hx := nums_get (ex := ex) hj'
    have hlt : j < carr.size := by
      have := hcr.1.1
      have h2 := (List.getElem?_eq_some_iff.1 hx).1
      simp at this h2 ⊢
      omega
    have hrep := hcr.1.2 j _ carr[j] hx (by simp [hlt])
    have hcv := rep_int hrep
    have hg : gI l j = l.toArray[j]! := by simp [gI, List.getD_eq_getElem?_getD, List.getElem?_eq_getElem hj', hj']
    refine ⟨?_, by simp [World.frozen?, hbk]⟩
    simp only [World.cell?, hbk, Nat.zero_add]
    simp only [Option.isSome_none, Bool.false_eq_true, if_false]
    rw [Array.getElem?_eq_getElem hlt, hcv, hg]
  have hlt : r < w.heap.size := (Array.getElem?_eq_some_iff.1 hbk).1
  refine (callsIn_fen fun D => AnyS.slices_Sort_int_in Tryz.lays189 D r 0 c l w hH hlt (by omega)).mono ?_
  rintro e w' ⟨rfl, m, os, rfl⟩
  have hp : (l.mergeSort fun x y => decide (x ≤ y)).Perm l := List.mergeSort_perm _ _
  have hs : (l.mergeSort fun x y => decide (x ≤ y)).Pairwise (· ≤ ·) := by
    have := List.pairwise_mergeSort (le := fun x y : Int => decide (x ≤ y)) (fun a b c h1 h2 => by simp at *; omega) (fun a b => by simp; omega) l
    exact this.imp fun h => by simpa using h
  refine ⟨.ret (.tuple []), H.set r (.cells (nums (l.mergeSort fun x y => decide (x ≤ y)) ex)), rep_undef _, disj_set_old hd hr, ?_, rfl, _, hp, hs, rfl⟩
  rw [hun_set]
  exact hh.sorted (hun_left hr) hp.length_eq m os
end Go.Cl
