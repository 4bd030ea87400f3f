/- DERIVED HERE. Plain: how the nearest dominators are looked for comes to an end. DERIVED HERE. Plain: a walk that goes to all that were not met. DERIVED HERE. Plain: the order of the walk, and places in it. DERIVED HERE. Plain: the greatest of a list; the ways of a unit. DERIVED HERE. Plain: a block's ways as a rising list. -/
import Derived.Test.YtoophlkbngagcaaGreatDoorPlain
import Derived.Test.YtoophlkbngagcaaGreatDoorLQ
set_option linter.unusedSimpArgs false
set_option linter.unusedVariables false
namespace Go.Cl.Gd
/-- x is met by going from b on by the pointers. -/
inductive Anc (I : Nat → Option Nat) (x : Nat) : Nat → Prop
  | refl : Anc I x x
  | step {b c : Nat} (h : I b = some c) (k : Anc I x c) : Anc I x b
theorem Anc.trans {I : Nat → Option Nat} {x y b : Nat} (h : Anc I x y) (k : Anc I y b) : Anc I x b := by
  induction k with
  | refl => exact h
  | step e _ ih => exact .step e ih
/-- Known: the first one, or one with a pointer. -/
def Kn (I : Nat → Option Nat) (k : Nat) : Prop := k = 0 ∨ (I k).isSome = true
/-- The order of the blocks that are reached, and each one's place in it. -/
structure OrdOk (nx : Nat → Nat → Bool) (order : List Nat) (rk : Nat → Int) : Prop where
  h : order[0]? = some 0
  at_ : ∀ (i : Nat) b, order[i]? = some b → rk b = i
  fwd : ∀ (i : Nat) b, order[i]? = some b → 0 < i → ∃ (j : Nat) (a : Nat), j < i ∧ order[j]? = some a ∧ nx a b = true
/-- A way from the first block to this one that doesn't meet a. -/
inductive Byp (nx : Nat → Nat → Bool) (a : Nat) : Nat → Prop
  | zero (h : a ≠ 0) : Byp nx a 0
  | step {f b : Nat} (h : Byp nx a f) (hn : nx f b = true) (hb : b ≠ a) : Byp nx a b
/-- The blocks at the places from 1 up to i have pointers that are met from each known block before them. -/
def Fx (nx : Nat → Nat → Bool) (order : List Nat) (i : Nat) (I : Nat → Option Nat) : Prop :=
  ∀ (j : Nat) b, order[j]? = some b → 0 < j → j < i → ∃ q, I b = some q ∧ ∀ k, nx k b = true → Kn I k → Anc I q k
/-- What holds of the pointers where the block at place i is next. -/
structure DI (nx : Nat → Nat → Bool) (order : List Nat) (rk : Nat → Int) (i : Nat) (I : Nat → Option Nat) : Prop where
  z : I 0 = none
  c : ∀ b c, I b = some c → b ∈ order ∧ c ∈ order ∧ rk c < rk b ∧ Kn I c
  p : ∀ (j : Nat) b, order[j]? = some b → 0 < j → j < i → (I b).isSome = true
  inv : ∀ b q, I b = some q → ∀ x, (∀ k, nx k b = true → Kn I k → Anc I x k) → Anc I x q
  k : ∀ b q, I b = some q → ∃ f, nx f b = true ∧ rk f < rk b ∧ f ∈ order ∧ Kn I f ∧ ∀ x, Anc I x q → ((i : Int) ≤ rk x ∨ rk b < i) → Anc I x f
  dm : ∀ b, Kn I b → ∀ a, ¬ Byp nx a b → Anc I a b
def upd (I : Nat → Option Nat) (b : Nat) (v : Option Nat) : Nat → Option Nat := fun x => if x = b then v else I x
section
variable {nx : Nat → Nat → Bool} {order : List Nat} {rk : Nat → Int} {i : Nat} {I : Nat → Option Nat}
theorem Anc.rkLt (hc : ∀ b c, I b = some c → rk c < rk b) {x b : Nat} (h : Anc I x b) : x = b ∨ rk x < rk b := by
  induction h with
  | refl => exact .inl rfl
  | step e _ ih =>
    have := hc _ _ e
    rcases ih with rfl | ih
    · exact .inr this
    · exact .inr (by omega)
theorem Anc.le (hc : ∀ b c, I b = some c → rk c < rk b) {x b : Nat} (h : Anc I x b) : rk x ≤ rk b := by
  rcases h.rkLt hc with rfl | h <;> omega
/-- The way up is one line. -/
theorem Anc.line {x y b : Nat} (h : Anc I x b) (k : Anc I y b) : Anc I x y ∨ Anc I y x := by
  induction h with
  | refl => exact .inr k
  | step e hx ih =>
    cases k with
    | refl => exact .inl (.step e hx)
    | step e' k' =>
      rw [e] at e'
      injection e' with e'
      subst e'
      exact ih k'
theorem DI.lt (h : DI nx order rk i I) : ∀ b c, I b = some c → rk c < rk b := fun b c e => (h.c b c e).2.2.1
theorem DI.mem (h : DI nx order rk i I) {x b : Nat} (k : Anc I x b) (hb : b ∈ order) : x ∈ order := by
  induction k with
  | refl => exact hb
  | step e _ ih => exact ih (h.c _ _ e).2.1
theorem DI.kn (h : DI nx order rk i I) {x b : Nat} (k : Anc I x b) (hb : Kn I b) : Kn I x := by
  induction k with
  | refl => exact hb
  | step e _ ih => exact ih (h.c _ _ e).2.2.2
/-- Where the turned block isn't left on the way. -/
theorem anc_to {b : Nat} {v : Option Nat} {x a : Nat} (hc : ∀ b c, I b = some c → rk c < rk b) (h : Anc I x a) (hx : rk b ≤ rk x) : Anc (upd I b v) x a := by
  induction h with
  | refl => exact .refl
  | step e k ih =>
    rename_i d c
    have h1 := hc _ _ e
    have h2 := k.le hc
    refine .step ?_ ih
    have : d ≠ b := fun q => by subst q; omega
    simp [upd, this, e]
theorem anc_low {b : Nat} {v : Option Nat} {x a : Nat} (hc : ∀ b c, I b = some c → rk c < rk b) (h : Anc I x a) (ha : rk a < rk b) : Anc (upd I b v) x a := by
  induction h with
  | refl => exact .refl
  | step e k ih =>
    rename_i d c
    have h1 := hc _ _ e
    refine .step ?_ (ih (by omega))
    have : d ≠ b := fun q => by subst q; omega
    simp [upd, this, e]
theorem anc_off {b : Nat} {v : Option Nat} {x a : Nat} (h : Anc I x a) (ha : ¬ Anc I b a) : Anc (upd I b v) x a := by
  induction h with
  | refl => exact .refl
  | step e k ih =>
    rename_i d c
    refine .step ?_ (ih fun q => ha (.step e q))
    have : d ≠ b := fun q => by subst q; exact ha .refl
    simp [upd, this, e]
theorem upd_upd {b : Nat} {v : Option Nat} : upd (upd I b v) b (I b) = I := by
  funext x
  simp only [upd]
  split
  · rename_i h; rw [h]
  · rfl
end
section
variable {nx : Nat → Nat → Bool} {order : List Nat} {rk : Nat → Int} {i : Nat} {I : Nat → Option Nat} {b y : Nat}
/-- From the block at place i a way that avoids an earlier one goes on to all below it. -/
theorem DI.byp (h : DI nx order rk i I) (hrb : rk b = i) {a : Nat} (hab : rk a < rk b) (hy : Byp nx a b) : ∀ (n : Nat) c, rk c ≤ rk b + n → Anc I b c → Byp nx a c
  | 0, c, hc, k => by
    rcases k.rkLt h.lt with rfl | k
    · exact hy
    · omega
  | n + 1, c, hc, k => by
    cases k with
    | refl => exact hy
    | step e k =>
      rename_i q
      obtain ⟨f, hf, hfr, _, _, hx⟩ := h.k c q e
      refine .step (DI.byp h hrb hab hy n f (by omega) (hx b k (.inl (by omega)))) hf fun e2 => ?_
      subst e2
      have := k.le h.lt
      have := h.lt _ _ e
      omega
/-- The block at place i gets its pointer. -/
theorem DI.step (ho : OrdOk nx order rk) (h : DI nx order rk i I) (hb : order[i]? = some b) (hi : 0 < i) (h1 : ∀ k, nx k b = true → Kn I k → Anc I y k) (h2 : ∀ x, (∀ k, nx k b = true → Kn I k → Anc I x k) → Anc I x y) :
    DI nx order rk (i + 1) (upd I b (some y)) ∧ ∀ q, I b = some q → Anc I y q := by
  have hrb := ho.at_ i b hb
  have hb0 : b ≠ 0 := fun e => by
    have := ho.at_ 0 0 ho.h
    subst e
    omega
  have hbo := List.mem_of_getElem? hb
  have hlt := h.lt
  -- a way in from a block ahead
  obtain ⟨j, f, hj, hjf, hf⟩ := ho.fwd i b hb hi
  have hrf := ho.at_ j f hjf
  have hfo := List.mem_of_getElem? hjf
  have hkf : Kn I f := by
    rcases Nat.eq_zero_or_pos j with h0 | h0
    · subst h0; rw [ho.h] at hjf; injection hjf with hjf; exact .inl hjf.symm
    · exact .inr (h.p j f hjf h0 hj)
  have hyf := h1 f hf hkf
  have hyo := h.mem hyf hfo
  have hyk := h.kn hyf hkf
  have hyr : rk y < rk b := by have := hyf.le hlt; omega
  have hinj : ∀ a, a ∈ order → rk a = i → a = b := fun a ha e => by
    obtain ⟨j', hj'⟩ := List.mem_iff_getElem?.1 ha
    have := ho.at_ j' a hj'
    have : j' = i := by omega
    subst this
    rw [hb] at hj'
    injection hj' with hj'
    exact hj'.symm
  have hq : ∀ q, I b = some q → Anc I y q := fun q e => h.inv b q e y h1
  have hlt' : ∀ a c, upd I b (some y) a = some c → rk c < rk a := fun a c e => by
    simp only [upd] at e
    split at e
    · rename_i e2; injection e with e; subst e; subst e2; exact hyr
    · exact hlt a c e
  have hkn : ∀ k, Kn I k → Kn (upd I b (some y)) k := fun k hk => by
    rcases hk with hk | hk
    · exact .inl hk
    · refine .inr ?_
      simp only [upd]
      split <;> simp [hk]
  -- back from the turned pointers
  have back_low : ∀ {x a}, Anc (upd I b (some y)) x a → rk a < rk b → Anc I x a := fun {x a} k ha => by
    have := anc_low (v := I b) hlt' k ha
    rwa [upd_upd] at this
  have back_hi : ∀ {x a}, Anc (upd I b (some y)) x a → rk b ≤ rk x → Anc I x a := fun {x a} k ha => by
    have := anc_to (v := I b) hlt' k ha
    rwa [upd_upd] at this
  -- nobody points to a block without a pointer
  have off_none : I b = none → ∀ {a}, Anc I b a → a = b := fun e {a} k => by
    cases k with
    | refl => rfl
    | step e2 k2 =>
      rename_i c
      have hc : Kn I c := (h.c _ _ e2).2.2.2
      have := h.kn k2 hc
      rcases this with h0 | h0
      · exact absurd h0 hb0
      · rw [e] at h0; cases h0
  have back : ∀ {x a}, Anc (upd I b (some y)) x a → (∃ q, I b = some q) ∨ a ≠ b → Anc I x a := by
    intro x a k
    induction k with
    | refl => exact fun _ => .refl
    | step e k ih =>
      rename_i d c
      intro hd
      by_cases hdb : d = b
      · subst hdb
        obtain ⟨q, hqe⟩ := hd.resolve_right (by simp)
        simp [upd] at e
        subst e
        exact .step hqe ((ih (.inl ⟨q, hqe⟩)).trans (hq q hqe))
      · simp only [upd, if_neg hdb] at e
        refine .step e (ih ?_)
        cases hib : I b with
        | some q => exact .inl ⟨q, rfl⟩
        | none =>
          refine .inr fun ec => ?_
          subst ec
          exact hdb (off_none hib (.step e .refl))
  refine ⟨⟨?_, ?_, ?_, ?_, ?_, ?_⟩, hq⟩
  rotate_right
  · intro c hc a ha
    by_cases hcb : c = b
    · subst hcb
      by_cases hac : a = c
      · subst hac; exact .refl
      · have h3 := h2 a fun k hk hkk => h.dm k hkk a fun hby => ha (.step hby hk fun e => hac e.symm)
        exact .step (c := y) (by simp [upd]) (anc_low hlt h3 hyr)
    · have hkc : Kn I c := by
        rcases hc with hc | hc
        · exact .inl hc
        · simp only [upd, if_neg hcb] at hc; exact .inr hc
      have hac := h.dm c hkc a ha
      by_cases hbc : Anc I b c
      · by_cases hra : rk b ≤ rk a
        · exact anc_to hlt hac hra
        · have hnb : ¬ Byp nx a b := fun hby => ha (h.byp hrb (by omega) hby (rk c - rk b).toNat c (by have := hbc.le hlt; omega) hbc)
          have h3 := h2 a fun k hk hkk => h.dm k hkk a fun hby => hnb (.step hby hk fun e => by subst e; omega)
          exact (Anc.step (c := y) (by simp [upd]) (anc_low hlt h3 hyr)).trans (anc_to (v := some y) hlt hbc (Int.le_refl _))
      · exact anc_off hac hbc
  · simp [upd, Ne.symm hb0, h.z]
  · intro a c e
    simp only [upd] at e
    split at e
    · rename_i e2; injection e with e; subst e; subst e2
      exact ⟨hbo, hyo, hyr, hkn _ hyk⟩
    · obtain ⟨a1, a2, a3, a4⟩ := h.c a c e
      exact ⟨a1, a2, a3, hkn _ a4⟩
  · intro j' a ha h0 hj'
    by_cases e : a = b
    · subst e; simp [upd]
    · simp only [upd, if_neg e]
      refine h.p j' a ha h0 ?_
      have : j' ≠ i := fun q => by subst q; rw [hb] at ha; injection ha with ha; exact e ha.symm
      omega
  · intro a q e x hx
    by_cases eab : a = b
    · subst eab
      simp [upd] at e
      subst e
      refine anc_low hlt (h2 x fun k hk hkk => ?_) hyr
      have := hx k hk (hkn k hkk)
      cases hib : I a with
      | some q => exact back this (.inl ⟨q, hib⟩)
      | none => exact back this (.inr fun ek => by subst ek; rcases hkk with h0 | h0; exact hb0 h0; rw [hib] at h0; cases h0)
    · simp only [upd, if_neg eab] at e
      cases hib : I b with
      | none =>
        have hqb : ¬ Anc I b q := fun k => by
          have := off_none hib k
          subst this
          exact eab (off_none hib (.step e .refl))
        refine anc_off (h.inv a q e x fun k hk hkk => ?_) hqb
        exact back (hx k hk (hkn k hkk)) (.inr fun ek => by subst ek; rcases hkk with h0 | h0; exact hb0 h0; rw [hib] at h0; cases h0)
      | some q0 =>
        have hxq : Anc I x q := h.inv a q e x fun k hk hkk => back (hx k hk (hkn k hkk)) (.inl ⟨q0, hib⟩)
        rcases Int.lt_or_le (rk x) (rk b) with hxb | hxb
        · by_cases hbq : Anc I b q
          · obtain ⟨g, hg1, hg2, hg3, hg4, hg5⟩ := h.k a q e
            have hbg := hg5 b hbq (.inl (by omega))
            have hbg' := anc_to (v := some y) hlt hbg (Int.le_refl _)
            have hxg' := hx g hg1 (hkn g hg4)
            have hbq' := anc_to (v := some y) hlt hbq (Int.le_refl _)
            rcases hxg'.line hbg' with k | k
            · exact k.trans hbq'
            · have := k.le hlt'; omega
          · exact anc_off hxq hbq
        · exact anc_to hlt hxq hxb
  · intro a q e
    by_cases eab : a = b
    · subst eab
      simp [upd] at e
      subst e
      exact ⟨f, hf, by omega, hfo, hkn f hkf, fun x hx _ => anc_low hlt ((back_low hx hyr).trans hyf) (by omega)⟩
    · simp only [upd, if_neg eab] at e
      obtain ⟨g, hg1, hg2, hg3, hg4, hg5⟩ := h.k a q e
      have hao := (h.c a q e).1
      have hqa := hlt a q e
      have hne : rk a ≠ i := fun q => eab (hinj a hao q)
      refine ⟨g, hg1, hg2, hg3, hkn g hg4, fun x hx hd => ?_⟩
      rcases hd with hd | hd
      · exact anc_to hlt (hg5 x (back_hi hx (by omega)) (.inl (by omega))) (by omega)
      · have hai : rk a < i := by omega
        exact anc_low hlt (hg5 x (back_low hx (by omega)) (.inr hai)) (by omega)
/-- A new pass. -/
theorem DI.wrap (h : DI nx order rk order.length I) (hr : ∀ b ∈ order, rk b < order.length) : DI nx order rk 1 I :=
  ⟨h.z, h.c, fun j b _ h1 h2 => by omega, h.inv, fun b q e => by
    obtain ⟨g, hg1, hg2, hg3, hg4, hg5⟩ := h.k b q e
    exact ⟨g, hg1, hg2, hg3, hg4, fun x hx _ => hg5 x hx (.inr (hr b (h.c b q e).1))⟩, h.dm⟩
theorem DI.start : DI nx order rk 1 (fun _ => none) :=
  ⟨rfl, (fun b c e => by cases e), fun j b _ h1 h2 => by omega, (fun b q e => by cases e), (fun b q e => by cases e), fun b hb a ha => by
    rcases hb with rfl | hb
    · by_cases h0 : a = 0
      · subst h0; exact .refl
      · exact absurd (.zero h0) ha
    · cases hb⟩
/-- At the end: the blocks that are met from b by the pointers are just those that each way from the first block to b meets. -/
theorem DI.dom (h : DI nx order rk 1 I) (hF : Fx nx order order.length I) (h0 : order[0]? = some 0) (hr : ∀ f b, f ∈ order → nx f b = true → b ∈ order) {a : Nat} (hb : b ∈ order) : Anc I a b ↔ ¬ Byp nx a b := by
  have hkn : ∀ c, c ∈ order → Kn I c := fun c hc => by
    obtain ⟨j, hj⟩ := List.mem_iff_getElem?.1 hc
    rcases Nat.eq_zero_or_pos j with e | e
    · subst e; rw [h0] at hj; injection hj with hj; exact .inl hj.symm
    · obtain ⟨q, hq, _⟩ := hF j c hj e (List.getElem?_eq_some_iff.1 hj).1
      exact .inr (by rw [hq]; rfl)
  have hin : ∀ {a c}, Byp nx a c → c ∈ order := fun {a c} k => by
    induction k with
    | zero _ => exact List.mem_of_getElem? h0
    | step _ hn _ ih => exact hr _ _ ih hn
  refine ⟨fun k hy => ?_, h.dm b (hkn b hb) a⟩
  clear hb
  induction hy with
  | zero h1 =>
    cases k with
    | refl => exact h1 rfl
    | step e _ => rw [h.z] at e; cases e
  | step hf hn hne ih =>
    rename_i f c
    have hc := hr _ _ (hin hf) hn
    obtain ⟨j, hj⟩ := List.mem_iff_getElem?.1 hc
    cases k with
    | refl => exact hne rfl
    | step e k =>
      rename_i q
      rcases Nat.eq_zero_or_pos j with e2 | e2
      · subst e2; rw [h0] at hj; injection hj with hj; subst hj; rw [h.z] at e; cases e
      · obtain ⟨q2, hq2, hq3⟩ := hF j c hj e2 (List.getElem?_eq_some_iff.1 hj).1
        rw [hq2] at e
        injection e with e
        subst e
        exact ih (k.trans (hq3 f hn (hkn f (hin hf))))
end
end Go.Cl.Gd
set_option linter.unusedSimpArgs false
set_option linter.unusedVariables false
namespace Go.Cl.Gd
/-- Goes from a block to all that were not met, and adds each as it is done with it. -/
def vis (N : Nat → List Nat) : Nat → Nat → (Nat → Bool) × List Nat → (Nat → Bool) × List Nat
  | 0, _, s => s
  | f + 1, b, s =>
    let r := (N b).foldl (fun s k => if s.1 k then s else vis N f k s) (fun x => s.1 x || x == b, s.2)
    (r.1, r.2 ++ [b])
def visL (N : Nat → List Nat) (f : Nat) (l : List Nat) (s : (Nat → Bool) × List Nat) : (Nat → Bool) × List Nat := l.foldl (fun s k => if s.1 k then s else vis N f k s) s
/-- How many below n were not met. -/
def cnt (n : Nat) (s : Nat → Bool) : Nat := ((List.range n).filter fun x => !s x).length
inductive Rch (N : Nat → List Nat) (a : Nat) : Nat → Prop
  | refl : Rch N a a
  | step {y x : Nat} (h : Rch N a y) (k : x ∈ N y) : Rch N a x
theorem Rch.trans {N : Nat → List Nat} {a b c : Nat} (h : Rch N a b) (k : Rch N b c) : Rch N a c := by
  induction k with
  | refl => exact h
  | step _ e ih => exact .step ih e
theorem cnt_le {n : Nat} {s t : Nat → Bool} (h : ∀ x, s x = true → t x = true) : cnt n t ≤ cnt n s := by
  simp only [cnt]
  refine List.Sublist.length_le ?_
  have : ((List.range n).filter fun x => !t x) = ((List.range n).filter fun x => !s x).filter fun x => !t x := by
    rw [List.filter_filter]
    congr 1
    funext x
    cases hs : s x with
    | true => simp [h x hs]
    | false => simp
  rw [this]
  exact List.filter_sublist
theorem cnt_lt {n : Nat} {s : Nat → Bool} {b : Nat} (hb : b < n) (h : s b = false) : cnt n (fun x => s x || x == b) + 1 ≤ cnt n s := by
  simp only [cnt]
  have hm : b ∈ (List.range n).filter fun x => !s x := by simp [hb, h]
  obtain ⟨l1, l2, e⟩ := List.append_of_mem hm
  have hnd : ((List.range n).filter fun x => !s x).Nodup := List.nodup_range.filter _
  have : ((List.range n).filter fun x => !(s x || x == b)) = ((List.range n).filter fun x => !s x).filter fun x => !(x == b) := by
    rw [List.filter_filter]
    congr 1
    funext x
    cases s x <;> simp
  rw [this, e]
  rw [e] at hnd
  have h1 : b ∉ l1 := fun q => by
    rw [List.nodup_append] at hnd
    exact hnd.2.2 b q b (by simp) rfl
  have h2 : b ∉ l2 := fun q => by
    rw [List.nodup_append] at hnd
    have := hnd.2.1
    rw [List.nodup_cons] at this
    exact this.1 q
  have f1 : l1.filter (fun x => !(x == b)) = l1 := List.filter_eq_self.2 fun x hx => by
    have : x ≠ b := fun q => h1 (q ▸ hx)
    simp [this]
  have f2 : l2.filter (fun x => !(x == b)) = l2 := List.filter_eq_self.2 fun x hx => by
    have : x ≠ b := fun q => h2 (q ▸ hx)
    simp [this]
  simp [f1, f2]
  omega
/-- What going to a list of blocks has done. -/
structure VL (N : Nat → List Nat) (l : List Nat) (s : Nat → Bool) (out : List Nat) (s' : Nat → Bool) (out' : List Nat) : Prop where
  ex : ∃ new, out' = out ++ new ∧ new.Nodup ∧ (∀ x, x ∈ new ↔ s' x = true ∧ s x = false) ∧ (∀ x ∈ new, ∃ k ∈ l, Rch N k x) ∧ (∀ x ∈ new, ∀ k ∈ N x, s' k = true) ∧
    (∀ (i : Nat) x, new[i]? = some x → x ∈ l ∨ ∃ (j : Nat) (y : Nat), i < j ∧ new[j]? = some y ∧ x ∈ N y)
  mono : ∀ x, s x = true → s' x = true
  all : ∀ k ∈ l, s' k = true
/-- What going to a block has done. -/
structure VS (N : Nat → List Nat) (b : Nat) (s : Nat → Bool) (out : List Nat) (s' : Nat → Bool) (out' : List Nat) : Prop where
  ex : ∃ new0, out' = out ++ (new0 ++ [b]) ∧ (new0 ++ [b]).Nodup ∧ (∀ x, x ∈ new0 ++ [b] ↔ s' x = true ∧ s x = false) ∧ (∀ x ∈ new0 ++ [b], Rch N b x) ∧ (∀ x ∈ new0 ++ [b], ∀ k ∈ N x, s' k = true) ∧
    (∀ (i : Nat) x, (new0 ++ [b])[i]? = some x → x ≠ b → ∃ (j : Nat) (y : Nat), i < j ∧ (new0 ++ [b])[j]? = some y ∧ x ∈ N y)
  mono : ∀ x, s x = true → s' x = true
theorem vis_spec {N : Nat → List Nat} {n : Nat} (hN : ∀ b, b < n → ∀ k ∈ N b, k < n) : ∀ (f b : Nat) (s : Nat → Bool) (out : List Nat), b < n → s b = false → cnt n s ≤ f → VS N b s out (vis N f b (s, out)).1 (vis N f b (s, out)).2 := by
  intro f
  induction f with
  | zero =>
    intro b s out hb hs hc
    have := cnt_lt hb hs
    omega
  | succ f ih =>
    have hL : ∀ (l : List Nat) (s : Nat → Bool) (out : List Nat), (∀ k ∈ l, k < n) → cnt n s ≤ f → VL N l s out (visL N f l (s, out)).1 (visL N f l (s, out)).2 := by
      intro l
      induction l with
      | nil => exact fun s out _ _ => ⟨⟨[], by simp [visL], by simp, by simp [visL], by simp, by simp, by simp⟩, fun x h => h, by simp⟩
      | cons k l ihl =>
        intro s out hk hc
        by_cases hsk : s k = true
        · have e : visL N f (k :: l) (s, out) = visL N f l (s, out) := by simp [visL, hsk]
          rw [e]
          obtain ⟨⟨new, h1, h2, h3, h4, h5, h6⟩, hm, ha⟩ := ihl s out (fun k' h => hk k' (List.mem_cons_of_mem _ h)) hc
          refine ⟨⟨new, h1, h2, h3, fun x hx => ?_, h5, fun i x hx => ?_⟩, hm, fun k' hk' => ?_⟩
          · obtain ⟨k', a1, a2⟩ := h4 x hx; exact ⟨k', List.mem_cons_of_mem _ a1, a2⟩
          · rcases h6 i x hx with a | a
            · exact .inl (List.mem_cons_of_mem _ a)
            · exact .inr a
          · rcases List.mem_cons.1 hk' with rfl | h
            · exact hm _ hsk
            · exact ha _ h
        · have hsk : s k = false := by simpa using hsk
          have e : visL N f (k :: l) (s, out) = visL N f l (vis N f k (s, out)) := by simp [visL, hsk]
          rw [e]
          obtain ⟨⟨new0, g1, g2, g3, g4, g5, g6⟩, gm⟩ := ih k s out (hk k (by simp)) hsk hc
          have hv : vis N f k (s, out) = ((vis N f k (s, out)).1, (vis N f k (s, out)).2) := rfl
          rw [hv]
          obtain ⟨⟨new, h1, h2, h3, h4, h5, h6⟩, hm, ha⟩ := ihl (vis N f k (s, out)).1 (vis N f k (s, out)).2 (fun k' h => hk k' (List.mem_cons_of_mem _ h)) (Nat.le_trans (cnt_le gm) hc)
          generalize (vis N f k (s, out)).1 = s1 at *
          generalize (vis N f k (s, out)).2 = o1 at *
          generalize (visL N f l (s1, o1)).1 = s2 at *
          generalize (visL N f l (s1, o1)).2 = o2 at *
          have hk1 : s1 k = true := ((g3 k).1 (by simp)).1
          refine ⟨⟨(new0 ++ [k]) ++ new, by rw [h1, g1, List.append_assoc], ?_, fun x => ?_, fun x hx => ?_, fun x hx k' hk' => ?_, fun i x hx => ?_⟩, fun x hx => hm x (gm x hx), fun k' hk' => ?_⟩
          · rw [List.nodup_append]
            refine ⟨g2, h2, fun a ha' b hb' e => ?_⟩
            subst e
            have := ((g3 a).1 ha').1
            have := ((h3 a).1 hb').2
            simp_all
          · rw [List.mem_append, g3 x, h3 x]
            cases e0 : s x <;> cases e1 : s1 x <;> cases e2 : s2 x <;> simp
            all_goals first
              | (have := hm x e1; simp_all; done)
              | (have := gm x e0; simp_all; done)
          · rcases List.mem_append.1 hx with hx | hx
            · exact ⟨k, by simp, g4 x hx⟩
            · obtain ⟨k', a1, a2⟩ := h4 x hx; exact ⟨k', List.mem_cons_of_mem _ a1, a2⟩
          · rcases List.mem_append.1 hx with hx | hx
            · exact hm _ (g5 x hx k' hk')
            · exact h5 x hx k' hk'
          · rcases Nat.lt_or_ge i (new0 ++ [k]).length with hi | hi
            · rw [List.getElem?_append_left hi] at hx
              by_cases hxk : x = k
              · exact .inl (by simp [hxk])
              · obtain ⟨j, y, a1, a2, a3⟩ := g6 i x hx hxk
                exact .inr ⟨j, y, a1, by rw [List.getElem?_append_left (List.getElem?_eq_some_iff.1 a2).1]; exact a2, a3⟩
            · rw [List.getElem?_append_right hi] at hx
              rcases h6 _ x hx with a | ⟨j, y, a1, a2, a3⟩
              · exact .inl (List.mem_cons_of_mem _ a)
              · exact .inr ⟨j + (new0 ++ [k]).length, y, by omega, by rw [List.getElem?_append_right (by omega), Nat.add_sub_cancel]; exact a2, a3⟩
          · rcases List.mem_cons.1 hk' with rfl | h
            · exact hm _ hk1
            · exact ha _ h
    intro b s out hb hs hc
    have h0 := cnt_lt hb hs
    obtain ⟨⟨new, h1, h2, h3, h4, h5, h6⟩, hm, ha⟩ := hL (N b) (fun x => s x || x == b) out (hN b hb) (by omega)
    have e : vis N (f + 1) b (s, out) = ((visL N f (N b) (fun x => s x || x == b, out)).1, (visL N f (N b) (fun x => s x || x == b, out)).2 ++ [b]) := rfl
    rw [e]
    generalize (visL N f (N b) (fun x => s x || x == b, out)).1 = s2 at *
    generalize (visL N f (N b) (fun x => s x || x == b, out)).2 = o2 at *
    have hb2 : s2 b = true := hm b (by simp)
    have hbn : b ∉ new := fun q => by have := ((h3 b).1 q).2; simp at this
    refine ⟨⟨new, by rw [h1, List.append_assoc], ?_, fun x => ?_, fun x hx => ?_, fun x hx k hk => ?_, fun i x hx hxb => ?_⟩, fun x hx => hm x (by simp [hx])⟩
    · rw [List.nodup_append]
      refine ⟨h2, by simp, fun a ha' b' hb' e => ?_⟩
      simp at hb'
      subst e; subst hb'
      exact hbn ha'
    · rw [List.mem_append, h3 x]
      by_cases hxb : x = b
      · subst hxb; simp [hb2, hs]
      · have : (x == b) = false := by simpa using hxb
        simp [this, hxb]
    · rcases List.mem_append.1 hx with hx | hx
      · obtain ⟨k, a1, a2⟩ := h4 x hx
        exact (Rch.step .refl a1).trans a2
      · simp at hx; subst hx; exact .refl
    · rcases List.mem_append.1 hx with hx | hx
      · exact h5 x hx k hk
      · simp at hx; subst hx; exact ha k hk
    · rcases Nat.lt_or_ge i new.length with hi | hi
      · rw [List.getElem?_append_left hi] at hx
        rcases h6 i x hx with a | ⟨j, y, a1, a2, a3⟩
        · exact ⟨new.length, b, hi, by simp, a⟩
        · exact ⟨j, y, a1, by rw [List.getElem?_append_left (List.getElem?_eq_some_iff.1 a2).1]; exact a2, a3⟩
      · rw [List.getElem?_append_right hi] at hx
        rcases h : i - new.length with _ | m
        · rw [h] at hx; simp at hx; exact absurd hx.symm hxb
        · rw [h] at hx; simp at hx
end Go.Cl.Gd
set_option linter.unusedSimpArgs false
set_option linter.unusedVariables false
namespace Go.Cl.Gd
/-- A block's place in an order, or -1. -/
def rkOf (order : List Nat) (b : Nat) : Int := if b ∈ order then (order.idxOf b : Int) else -1
theorem rkOf_at {order : List Nat} (hn : order.Nodup) {i b : Nat} (h : order[i]? = some b) : rkOf order b = i := by
  obtain ⟨hi, he⟩ := List.getElem?_eq_some_iff.1 h
  have hm := List.mem_of_getElem? h
  rw [rkOf, if_pos hm, ← he, hn.idxOf_getElem]
theorem rkOf_lt {order : List Nat} {b : Nat} (h : b ∈ order) : 0 ≤ rkOf order b ∧ rkOf order b < order.length := by
  rw [rkOf, if_pos h]
  have := List.idxOf_lt_length_of_mem h
  omega
theorem rkOf_not {order : List Nat} {b : Nat} (h : b ∉ order) : rkOf order b = -1 := by rw [rkOf, if_neg h]
/-- The order that the walk of a unit gives. -/
structure OrdR (N : Nat → List Nat) (n : Nat) (s : Nat → Bool) (order : List Nat) : Prop where
  nd : order.Nodup
  ok : OrdOk (fun a x => decide (x ∈ N a)) order (rkOf order)
  lt : ∀ b ∈ order, b < n
  mem : ∀ b, b ∈ order ↔ Rch N 0 b
  seen : ∀ b, b ∈ order ↔ s b = true
theorem ord_of {N : Nat → List Nat} {n : Nat} (h0 : 0 < n) (hN : ∀ b, b < n → ∀ k ∈ N b, k < n) {f : Nat} (hf : n ≤ f) : OrdR N n (vis N f 0 (fun _ => false, [])).1 (vis N f 0 (fun _ => false, [])).2.reverse := by
  have hc : cnt n (fun _ => false) ≤ f := by
    simp only [cnt]
    have := List.length_filter_le (fun _ : Nat => !false) (List.range n)
    simp at this ⊢
    omega
  obtain ⟨⟨new, h1, h2, h3, h4, h5, h6⟩, hm⟩ := vis_spec hN f 0 (fun _ => false) [] h0 rfl hc
  generalize (vis N f 0 (fun _ => false, [])).1 = s at *
  generalize (vis N f 0 (fun _ => false, [])).2 = o at *
  simp only [List.nil_append] at h1
  have hnd : o.reverse.Nodup := by rw [h1]; exact List.pairwise_reverse.2 (h2.imp Ne.symm)
  have hmem : ∀ b, b ∈ o.reverse ↔ s b = true := fun b => by rw [List.mem_reverse, h1, h3 b]; simp
  have hin : ∀ b, b ∈ o.reverse → Rch N 0 b := fun b hb => h4 b (by rw [← h1]; exact List.mem_reverse.1 hb)
  have hcl : ∀ b, Rch N 0 b → s b = true := fun b hb => by
    induction hb with
    | refl => exact ((h3 0).1 (by simp)).1
    | step _ e ih => exact h5 _ (by rw [← h1]; exact List.mem_reverse.1 ((hmem _).2 ih)) _ e
  refine ⟨hnd, ⟨?_, fun i b h => rkOf_at hnd h, fun i b h hi => ?_⟩, fun b hb => ?_, fun b => ⟨hin b, fun h => (hmem b).2 (hcl b h)⟩, hmem⟩
  · rw [h1]; simp
  · have hil := (List.getElem?_eq_some_iff.1 h).1
    rw [List.length_reverse] at hil
    rw [List.getElem?_reverse hil, h1] at h
    have hol : o.length = (new ++ [0]).length := by rw [h1]
    have hb0 : b ≠ 0 := fun e => by
      subst e
      have hlast : (new ++ [0])[(new ++ [0]).length - 1]? = some 0 := by simp
      have hlt : (new ++ [0]).length - 1 - i < (new ++ [0]).length := by simp; omega
      have := (List.getElem?_inj (by omega) h2 (i := (new ++ [0]).length - 1 - i) (j := (new ++ [0]).length - 1)).1 (by rw [h, hlast])
      omega
    obtain ⟨j, y, a1, a2, a3⟩ := h6 _ b h hb0
    have hjl := (List.getElem?_eq_some_iff.1 a2).1
    refine ⟨o.length - 1 - j, y, by omega, ?_, by simpa using a3⟩
    rw [List.getElem?_reverse (by omega), show o.length - 1 - (o.length - 1 - j) = j by omega, h1]
    exact a2
  · have := hin b hb
    induction this with
    | refl => exact h0
    | step hy e ih => exact hN _ (ih ((hmem _).2 (hcl _ hy))) _ e
end Go.Cl.Gd
set_option linter.unusedSimpArgs false
set_option linter.unusedVariables false
namespace Go.Cl.Gd
def maxL (l : List Nat) : Nat := l.foldl max 0
theorem foldl_max (l : List Nat) (a : Nat) : l.foldl max a = max a (maxL l) := by
  induction l generalizing a with
  | nil => simp [maxL]
  | cons x l ih =>
    simp only [maxL, List.foldl_cons]
    rw [ih, ih (max 0 x)]
    omega
theorem maxL_append (l m : List Nat) : maxL (l ++ m) = max (maxL l) (maxL m) := by
  rw [maxL, List.foldl_append, foldl_max]
  rfl
theorem maxL_one (x : Nat) : maxL [x] = x := by simp [maxL]
theorem maxL_le {l : List Nat} {n : Nat} (h : ∀ x ∈ l, x ≤ n) : maxL l ≤ n := by
  induction l with
  | nil => simp [maxL]
  | cons x l ih =>
    have : maxL (x :: l) = max x (maxL l) := by
      have := maxL_append [x] l
      rw [maxL_one] at this
      exact this
    rw [this]
    have := h x (by simp)
    have := ih fun y hy => h y (by simp [hy])
    omega
theorem le_maxL {l : List Nat} {x : Nat} (h : x ∈ l) : x ≤ maxL l := by
  induction l with
  | nil => cases h
  | cons y l ih =>
    have : maxL (y :: l) = max y (maxL l) := by
      have := maxL_append [y] l
      rw [maxL_one] at this
      exact this
    rw [this]
    rcases List.mem_cons.1 h with rfl | h
    · omega
    · have := ih h; omega
theorem maxL_same {l m : List Nat} (h : ∀ x, x ∈ l ↔ x ∈ m) : maxL l = maxL m :=
  Nat.le_antisymm (maxL_le fun x hx => le_maxL ((h x).1 hx)) (maxL_le fun x hx => le_maxL ((h x).2 hx))
/-- Whether there is a way from a block to another one. -/
def wayTo (u : UUnit) (p : Nat → Bool) (k : UBlk) (t : Nat) : Bool :=
  (k.ops.any fun o => decide (o.kind = 21) && decide (o.n = t)) || (goes k.en && decide (k.en.to = t)) || (branches k.en && decide (k.en.els = t)) || (decide (0 ≤ k.catch_) && decide (k.catch_ = t) && (mayEnd p k.en || k.ops.any (mayTrap p)))
def nextN (u : UUnit) (p : Nat → Bool) (b : Nat) : List Nat := match u.blocks[b]? with
  | some k => (List.range u.blocks.length).filter (wayTo u p k)
  | none => []
theorem nextN_lt {u : UUnit} {p : Nat → Bool} : ∀ b, b < u.blocks.length → ∀ k ∈ nextN u p b, k < u.blocks.length := by
  intro b hb k hk
  simp only [nextN] at hk
  split at hk
  · simp at hk; exact hk.1
  · cases hk
end Go.Cl.Gd
set_option linter.unusedSimpArgs false
set_option linter.unusedVariables false
namespace Go.Cl.Gd
def exitsL (k : UBlk) : List Int := (k.ops.filter fun o => decide (o.kind = 21)).map fun o => o.n
def goesL (e : UEnd) : List Int := if e.kind = 1 then [e.to] else if e.kind = 2 then [e.to, e.els] else []
def mayAny (p : Nat → Bool) (k : UBlk) : Bool := mayEnd p k.en || k.ops.any (mayTrap p)
def caughtL (p : Nat → Bool) (k : UBlk) : List Int := if 0 ≤ k.catch_ ∧ mayAny p k = true then [k.catch_] else []
def waysL (p : Nat → Bool) (k : UBlk) : List Int := exitsL k ++ (goesL k.en ++ caughtL p k)
theorem ways_lt {u : UUnit} (hu : wfU u = true) {p : Nat → Bool} {b : Nat} {k : UBlk} (hk : u.blocks[b]? = some k) : ∀ x ∈ waysL p k, 0 ≤ x ∧ x < u.blocks.length := by
  obtain ⟨g1, g2, g3, g4⟩ := wfB_facts hu hk
  obtain ⟨w1, w2, w3, w4, w5⟩ := wfE_facts g4
  have f3 := (wfU_facts hu).2.2.1
  intro x hx
  simp only [waysL, List.mem_append] at hx
  rcases hx with hx | hx | hx
  · simp only [exitsL, List.mem_map, List.mem_filter, decide_eq_true_eq] at hx
    obtain ⟨o, ⟨h1, h2⟩, rfl⟩ := hx
    have := (wfO_facts (g3 o h1) f3).2.2.2.2.2.1 h2
    omega
  · simp only [goesL] at hx
    split at hx
    · rename_i h; simp at hx; subst hx; have := w4 (.inl h); omega
    · split at hx
      · rename_i h
        simp at hx
        rcases hx with rfl | rfl
        · have := w4 (.inr h); omega
        · have := w5 h; omega
      · simp at hx
  · simp only [caughtL] at hx
    split at hx
    · rename_i h; simp at hx; subst hx; omega
    · simp at hx
theorem ways_mem {u : UUnit} {p : Nat → Bool} {k : UBlk} {t : Nat} : (t : Int) ∈ waysL p k ↔ wayTo u p k t = true := by
  simp only [waysL, wayTo, List.mem_append, Bool.or_eq_true, Bool.and_eq_true, List.any_eq_true, decide_eq_true_eq]
  have h1 : (t : Int) ∈ exitsL k ↔ ∃ x, x ∈ k.ops ∧ x.kind = 21 ∧ x.n = t := by
    simp only [exitsL, List.mem_map, List.mem_filter, decide_eq_true_eq]
    constructor
    · rintro ⟨o, ⟨a, b⟩, c⟩; exact ⟨o, a, b, c⟩
    · rintro ⟨o, a, b, c⟩; exact ⟨o, ⟨a, b⟩, c⟩
  have h2 : (t : Int) ∈ goesL k.en ↔ (goes k.en = true ∧ k.en.to = t) ∨ (branches k.en = true ∧ k.en.els = t) := by
    simp only [goesL, goes, branches, Bool.or_eq_true, decide_eq_true_eq]
    by_cases e1 : k.en.kind = 1
    · simp [e1, eq_comm]
    · by_cases e2 : k.en.kind = 2
      · simp [e2, eq_comm]
      · simp [e1, e2]
  have h3 : (t : Int) ∈ caughtL p k ↔ (0 ≤ k.catch_ ∧ k.catch_ = t) ∧ (mayEnd p k.en = true ∨ ∃ x, x ∈ k.ops ∧ mayTrap p x = true) := by
    simp only [caughtL, mayAny, Bool.or_eq_true, List.any_eq_true]
    split
    · rename_i h
      simp only [List.mem_singleton]
      exact ⟨fun e => ⟨⟨h.1, e.symm⟩, h.2⟩, fun e => e.1.2.symm⟩
    · rename_i h
      simp only [List.not_mem_nil, false_iff]
      exact fun e => h ⟨e.1.1, e.2⟩
  rw [h1, h2, h3]
  simp only [or_assoc]
theorem next_sorted {u : UUnit} (hu : wfU u = true) {p : Nat → Bool} {b : Nat} {k : UBlk} (hk : u.blocks[b]? = some k) {L : List Int} (hp : List.Perm L (waysL p k)) (hs : L.Pairwise (· ≤ ·)) : compL L = upto (wayTo u p k) u.blocks.length := by
  obtain ⟨h1, h2⟩ := compL_rise hs
  refine rise_ext h1 (upto_rise _ _) fun x => ?_
  rw [h2 x, hp.mem_iff, mem_upto]
  constructor
  · intro hx
    have := ways_lt hu hk x hx
    refine ⟨x.toNat, by omega, ?_, by omega⟩
    rw [← ways_mem (u := u), show (x.toNat : Int) = x by omega]
    exact hx
  · rintro ⟨r, h3, h4, rfl⟩
    exact ways_mem.2 h4
end Go.Cl.Gd
