/- DERIVED HERE. live.Last. -/
import Derived.Test.YtoophlkbngagcaaDoorLLs
set_option linter.unusedSimpArgs false
set_option linter.unusedVariables false
namespace Go.Cl
open Go.Proofs
variable {W : World} {G : Nat → CV}
set_option maxRecDepth 8000
/-- What an operation, or the End, reads. -/
def rdsOf (k : UBlk) (i : Nat) : List Int := match k.ops[i]? with
  | some o => allReads o
  | none => endRd k.en
/-- What is read last there. -/
def lastL (u : UUnit) (p : Nat → Bool) (I : Nat → Nat → Bool) (k : UBlk) (i : Nat) : List Int := upto (fun r => (rdsOf k i).any (fun y => r == y.toNat) && !afterP u p I k i r) (64 * mOf u)
theorem rds_facts {u : UUnit} (hu : wfU u = true) {b : Nat} {k : UBlk} (hb : u.blocks[b]? = some k) (i : Nat) : (∀ x ∈ rdsOf k i, 0 ≤ x ∧ x < u.regs) ∧ (rdsOf k i).length ≤ 4 := by
  obtain ⟨g1, g2, g3, g4⟩ := wfB_facts hu hb
  have f3 := (wfU_facts hu).2.2.1
  simp only [rdsOf]
  cases ho : k.ops[i]? with
  | none =>
    obtain ⟨w1, w2, w3, w4, w5⟩ := wfE_facts g4
    refine ⟨fun x hx => ?_, ?_⟩
    · simp only [endRd] at hx
      split at hx
      · simp at hx
      · rename_i h; simp at hx; subst hx; exact w3 h
    · simp only [endRd]; split <;> simp
  | some o =>
    have h3 := (wfO_facts (g3 o (List.mem_of_getElem? ho)) f3).2.2.1
    refine ⟨h3, ?_⟩
    simp only [allReads, reads]
    split <;> simp <;> (repeat' split) <;> simp
theorem last_plain {u : UUnit} (hu : wfU u = true) {b : Nat} {k : UBlk} (hb : u.blocks[b]? = some k) (i : Nat) {A : Nat → Bool} {L : List Int} (hp : List.Perm L ((rdsOf k i).filter fun x => !A x.toNat)) (hs : SortTo L L.length) :
    compL L = upto (fun r => (rdsOf k i).any (fun y => r == y.toNat) && !A r) (64 * mOf u) := by
  obtain ⟨h1, h2⟩ := compL_rise (sortTo_pw hs)
  obtain ⟨hr, _⟩ := rds_facts hu hb i
  have hm : mOf u = (u.regs.toNat + 63) / 64 := rfl
  refine rise_ext h1 (upto_rise _ _) fun x => ?_
  rw [h2 x, hp.mem_iff, mem_upto, List.mem_filter]
  constructor
  · rintro ⟨h3, h4⟩
    have := hr x h3
    refine ⟨x.toNat, by omega, ?_, by omega⟩
    simp only [Bool.and_eq_true]
    exact ⟨List.any_eq_true.2 ⟨x, h3, by simp⟩, h4⟩
  · rintro ⟨r, h3, h4, rfl⟩
    simp only [Bool.and_eq_true] at h4
    obtain ⟨y, h5, h6⟩ := List.any_eq_true.1 h4.1
    have := hr y h5
    have : y = (r : Int) := by simp at h6; omega
    subst this
    exact ⟨h5, by simpa using h4.2⟩
structure ltM (B : Hp) (lp q10 b i : Nat) (l : List Int) (s' : CA) (H' : Hp) : Prop where
  ex : ∃ v, s'.env 1 = .int .i64 b ∧ s'.env 2 = .int .i64 i ∧ s'.env 8 = .ptr lp 0 ∧ s'.env 10 = .ptr q10 0 ∧ s'.env 11 = v ∧ s'.ds = [] ∧ Own B H' v 1 (ints l)
structure ltA (B : Hp) (u : UUnit) (p : Nat → Bool) (I : Nat → Nat → Bool) (k : UBlk) (i : Nat) (l : List Int) (s' : CA) (H' : Hp) : Prop where
  ex : ∃ v ra, s'.env 11 = v ∧ s'.env 12 = .ref ra 0 (mOf u) (mOf u) ∧ s'.ds = [] ∧ Own B H' v 1 (ints l) ∧ H' ra = some (.cells (setC (mOf u) (afterP u p I k i)))
structure ltD (B : Hp) (l : List Int) (s' : CA) (H' : Hp) : Prop where
  ex : ∃ v, s'.env 11 = v ∧ s'.ds = [] ∧ Le B H' ∧ ((v = .nilsl ∧ l = []) ∨ ∃ r c ex, v = .ref r 0 l.length c ∧ l.length ≤ c ∧ B r = none ∧ H' r = some (.cells (nums l ex)))
theorem ltD.to {B : Hp} {l : List Int} {e : Env} {v : CV} {H' : Hp} (h1 : e 11 = v) (h2 : Le B H') (h3 : (v = .nilsl ∧ l = []) ∨ ∃ r c ex, v = .ref r 0 l.length c ∧ l.length ≤ c ∧ B r = none ∧ H' r = some (.cells (nums l ex))) : ltD B l ⟨e, []⟩ H' := ⟨v, h1, rfl, h2, h3⟩
theorem nums_slF {H : Hp} {r c : Nat} {l : List Int} {ex : List CV} (hc : l.length ≤ c) (h : H r = some (.cells (nums l ex))) : SlF H (.ref r 0 l.length c) l :=
  .inr ⟨r, c - l.length, _, by rw [show l.length + (c - l.length) = c by omega], h, fun k x hk => by
    have := (List.getElem?_eq_some_iff.1 hk).1
    rw [nums, List.getElem?_append_left (by simpa using this), List.getElem?_map, hk]
    rfl⟩
theorem Own.cases {B H : Hp} {v : CV} {l : List Int} (h : Own B H v 1 (ints l)) : (v = .nilsl ∧ l = []) ∨ ∃ r c ex, v = .ref r 0 l.length c ∧ l.length ≤ c ∧ B r = none ∧ H r = some (.cells (nums l ex)) := by
  obtain ⟨_, _, ⟨rfl, hx⟩ | ⟨r, c, ex, rfl, h1, h2, _, h4⟩⟩ := h
  · exact .inl ⟨rfl, by simpa [ints] using hx⟩
  · refine .inr ⟨r, c, ex, by simp [ints], by simpa [ints] using h4, h1, ?_⟩
    rw [ints_flat] at h2
    exact h2
theorem fz3' {H : Hp} {x y : CV} (h : Fz H x y) (a b : CV) : ∀ (i : Nat) p q, [x, a, b][i]? = some p → [y, a, b][i]? = some q → Fz H p q := by
  intro i p q hp hq
  rcases i with _|_|_|i
  · simp at hp hq; subst hp; subst hq; exact h
  · simp at hp hq; subst hp; subst hq; exact .same _
  · simp at hp hq; subst hp; subst hq; exact .same _
  · simp at hp
theorem fz2' {H : Hp} {x y : CV} (h : Fz H x y) (a : CV) : ∀ (i : Nat) p q, [x, a][i]? = some p → [y, a][i]? = some q → Fz H p q := by
  intro i p q hp hq
  rcases i with _|_|i
  · simp at hp hq; subst hp; subst hq; exact h
  · simp at hp hq; subst hp; subst hq; exact .same _
  · simp at hp
end Go.Cl
