/- DERIVED HERE. The iterators: slices.Backward, code.Ops. -/
import Derived.Test.YtfkdjajpopocpaaDoorSets
import Derived.Test.YtfkdjajpopocpaaDoorClE
set_option linter.unusedSimpArgs false
set_option linter.unusedVariables false
namespace Go.Cl
open Go.Proofs
variable {W : World} {G : Nat → CV}
/-- What slices.Backward hands on. -/
def backYs (xs : List (List CV)) : List (List CV) := (List.range xs.length).map fun (k : Nat) => [.int .i64 ((xs.length : Int) - 1 - (k : Nat)), .agg (xs.getD (xs.length - 1 - k) [])]
theorem backYs_get {xs : List (List CV)} {k : Nat} (h : k < xs.length) : (backYs xs)[k]? = some [.int .i64 ((xs.length : Int) - 1 - k), .agg (xs.getD (xs.length - 1 - k) [])] := by simp [backYs, h]
def boxed (q : Nat) (cs : List CV) : Hp → Prop := fun H => H q = some (.cells cs)
theorem boxed_up {q : Nat} {cs : List CV} : ∀ (H : Hp) r o, H r = none → boxed q cs H → boxed q cs (H.set r o) := fun H r o h hb => Le.set_new h q _ hb
theorem back_ops (hX : CxOk (cx W G)) (q : Nat) (xs : List (List CV)) (hz : ∀ e ∈ xs, e.length = 7) (hn : xs.length ≤ 100000) : Iter Tryd.prog W 85 [] [.ptr q 0] (backYs xs) (boxed q [.sl 7 xs]) := by
  intro l J E H0 hinv h0 hy
  refine CC.of_ev hX mixed d85 Tryd.func85 rfl rfl (Nat.le_of_ble_eq_true rfl) d85_ok ?_
  have hq := hinv 0 H0 h0
  simp only [boxed] at hq
  simp [Tryd.f85, d85, hq]
  rw [wrapI (by omega) (by omega)]
  refine CW.loop (fun j s' H' => ∃ k, k ≤ xs.length ∧ j = xs.length - k ∧ s'.env 0 = .func (.yield l) [] [] ∧ s'.env 1 = .ptr q 0 ∧ s'.env 3 = .int .i64 ((xs.length : Int) - 1 - k) ∧ s'.ds = [] ∧ J k H') ?_ (m := xs.length) ⟨0, by simp, by simp, by simp, by simp, by simp, by simp, h0⟩
  rintro j ⟨e, ds⟩ H' ⟨k, hk, rfl, e0, e1, e3, rfl, hJ⟩
  dsimp only at e0 e1 e3
  have hq' := hinv k H' hJ
  simp only [boxed] at hq'
  refine vw_sound hX mixed (D := d85) _ _ _ _ (by kernel_rfl) ?_
  simp [e0, e1, e3, hq']
  refine ⟨fun h => ⟨h, ?_⟩, fun h => ?_⟩
  · have hlt : k < xs.length := by omega
    have hel : xs[xs.length - 1 - k]? = some (xs.getD (xs.length - 1 - k) []) := by rw [List.getD_eq_getElem?_getD, List.getElem?_eq_getElem (by omega)]; rfl
    have h7 := hz _ (List.mem_of_getElem? hel)
    refine ⟨_, hel, by omega, ?_⟩
    rw [List.take_of_length_le (by omega)]
    refine (hy k _ (backYs_get hlt) H' hJ).mono fun b H2 hb => ⟨fun e => ?_, fun e => ?_⟩
    · subst e; exact .inr (by simpa using hb)
    · subst e; exact ⟨xs.length - (k + 1), by omega, k + 1, by omega, rfl, by rw [wrapI (by omega) (by omega)]; omega, by simpa using hb⟩
  · have hk' : k = xs.length := by omega
    subst hk'
    exact .inl (by simpa [backYs] using hJ)
theorem back_blocks (hX : CxOk (cx W G)) (q : Nat) (xs : List (List CV)) (hz : ∀ e ∈ xs, e.length = 6) (hn : xs.length ≤ 100000) : Iter Tryd.prog W 105 [] [.ptr q 0] (backYs xs) (boxed q [.sl 6 xs]) := by
  intro l J E H0 hinv h0 hy
  refine CC.of_ev hX mixed d105 Tryd.func105 rfl rfl (Nat.le_of_ble_eq_true rfl) d105_ok ?_
  have hq := hinv 0 H0 h0
  simp only [boxed] at hq
  simp [Tryd.f105, d105, hq]
  rw [wrapI (by omega) (by omega)]
  refine CW.loop (fun j s' H' => ∃ k, k ≤ xs.length ∧ j = xs.length - k ∧ s'.env 0 = .func (.yield l) [] [] ∧ s'.env 1 = .ptr q 0 ∧ s'.env 3 = .int .i64 ((xs.length : Int) - 1 - k) ∧ s'.ds = [] ∧ J k H') ?_ (m := xs.length) ⟨0, by simp, by simp, by simp, by simp, by simp, by simp, h0⟩
  rintro j ⟨e, ds⟩ H' ⟨k, hk, rfl, e0, e1, e3, rfl, hJ⟩
  dsimp only at e0 e1 e3
  have hq' := hinv k H' hJ
  simp only [boxed] at hq'
  refine vw_sound hX mixed (D := d105) _ _ _ _ (by kernel_rfl) ?_
  simp [e0, e1, e3, hq']
  refine ⟨fun h => ⟨h, ?_⟩, fun h => ?_⟩
  · have hlt : k < xs.length := by omega
    have hel : xs[xs.length - 1 - k]? = some (xs.getD (xs.length - 1 - k) []) := by rw [List.getD_eq_getElem?_getD, List.getElem?_eq_getElem (by omega)]; rfl
    have h6 := hz _ (List.mem_of_getElem? hel)
    refine ⟨_, hel, by omega, ?_⟩
    rw [List.take_of_length_le (by omega)]
    refine (hy k _ (backYs_get hlt) H' hJ).mono fun b H2 hb => ⟨fun e => ?_, fun e => ?_⟩
    · subst e; exact .inr (by simpa using hb)
    · subst e; exact ⟨xs.length - (k + 1), by omega, k + 1, by omega, rfl, by rw [wrapI (by omega) (by omega)]; omega, by simpa using hb⟩
  · have hk' : k = xs.length := by omega
    subst hk'
    exact .inl (by simpa [backYs] using hJ)
end Go.Cl
