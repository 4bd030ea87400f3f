/- DERIVED HERE. The reference's Has. -/
import Derived.Test.YtoophlkbngagcaaDoorHA
set_option linter.unusedSimpArgs false
set_option linter.unusedVariables false
namespace Go.Cl.Gd
open Go.Proofs
variable {W : World} {G : Nat → CV}
set_option maxRecDepth 8000
set_option maxHeartbeats 1000000
theorem hasQ_c (hX : CxOk (cx W G)) (l : List Int) (n : Int) (hl : l.length ≤ 1000000) (H : Hp) : CC Tryd.prog W 11 [.sl 1 (ints l), ci n] H fun x H' => x = .ret (.bool (decide (n ∈ l))) ∧ H' = H := by
  refine CC.of_ev hX mixed d11 Tryd.func11 rfl rfl (Nat.le_of_ble_eq_true rfl) d11_ok ?_
  simp [Tryd.f11, d11]
  refine CW.loop (fun j s' H' => ∃ k, k ≤ l.length ∧ j = l.length - k ∧ s'.env 0 = .sl 1 (ints l) ∧ s'.env 1 = ci n ∧ s'.env 5 = .int .i64 k ∧ s'.ds = [] ∧ H' = H ∧ ∀ (i : Nat) x, i < k → l[i]? = some x → x ≠ n) ?_ (m := l.length) ⟨0, by simp⟩
  rintro j ⟨e, ds⟩ H' ⟨k, hk, rfl, e0, e1, e5, rfl, rfl, hno⟩
  dsimp only at e0 e1 e5
  refine vw_sound hX mixed (D := d11) _ _ _ _ (by kernel_rfl) ?_
  by_cases hkl : k < l.length
  · obtain ⟨x, hxe⟩ : ∃ x, l[k] = x := ⟨_, rfl⟩
    have hx : l[k]? = some x := by rw [List.getElem?_eq_getElem hkl, hxe]
    simp [e0, e1, e5, hkl, ints_len, ints_at hx]
    refine ⟨fun h => List.mem_of_getElem? (by rw [hx, h]), fun h => ⟨l.length - (k + 1), by omega, k + 1, by omega, rfl, by rw [wrapI (by omega) (by omega)]; omega, fun i y hi hy => ?_⟩⟩
    rcases Nat.lt_or_ge i k with h2 | h2
    · exact hno i y h2 hy
    · have : i = k := by omega
      subst this
      rw [hx] at hy
      injection hy with hy
      rw [← hy]
      exact h
  · have : k = l.length := by omega
    subst this
    simp [e0, e1, e5, ints_len]
    intro hm
    obtain ⟨i, hi, hin⟩ := List.mem_iff_getElem.1 hm
    exact hno i n hi (by rw [List.getElem?_eq_getElem hi, hin]) rfl
theorem hasQ_f (hX : CxOk (cx W G)) {H : Hp} {v : CV} {l : List Int} (n : Int) (hv : SlF H v l) (hl : l.length ≤ 1000000) : CC Tryd.prog W 11 [v, ci n] H fun x H' => x = .ret (.bool (decide (n ∈ l))) ∧ H' = H := by
  refine (CC.freeze (args' := [.sl 1 (ints l), ci n]) (R := fun v => v = .bool (decide (n ∈ l))) (by rfl) (fz2 hv.fz (.same _)) (by rintro v rfl; simp [plainV]) fun w hw => ?_).mono ?_
  · exact (hasQ_c (W := w) (CxOk.later hX hw) l n hl _).mono fun x H' ⟨h1, _⟩ => ⟨_, h1, rfl⟩
  · rintro x H' ⟨v, rfl, rfl, rfl⟩
    exact ⟨rfl, rfl⟩
theorem natL_mem {n : Nat} {L : List Nat} : (n : Int) ∈ natL L ↔ n ∈ L := by
  simp only [natL, List.mem_map]
  constructor
  · rintro ⟨a, h, e⟩; have : a = n := by omega
    rw [← this]; exact h
  · intro h; exact ⟨n, h, rfl⟩
end Go.Cl.Gd
