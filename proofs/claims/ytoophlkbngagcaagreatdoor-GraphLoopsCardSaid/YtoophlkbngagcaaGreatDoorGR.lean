/- DERIVED HERE. The graph's meet and dominate. DERIVED HERE. The graph's dominate. DERIVED HERE. A function with one deferred call, that neither recovers nor panics. DERIVED HERE. The graph's small functions: sorted, exits, goes; Grow, Concat. DERIVED HERE. The graph's caught; Reverse. DERIVED HERE. The graph's walk: visit. DERIVED HERE. The graph's walk. DERIVED HERE. The graph's New. DERIVED HERE. The graph's New. -/
import Derived.Test.YtoophlkbngagcaaGreatDoorGQ
import Derived.Test.YtoophlkbngagcaaGreatDoorLQ
import Derived.Test.YtoophlkbngagcaaGreatDoorLenK
import Derived.Test.YtoophlkbngagcaaGreatDoorCl18
import Derived.Test.YtoophlkbngagcaaGreatDoorRec
import Derived.Test.YtoophlkbngagcaaGreatDoorSB
import Derived.Test.YtoophlkbngagcaaGreatDoorMA
import Derived.Test.YtoophlkbngagcaaGreatDoorLLa
set_option linter.unusedSimpArgs false
set_option linter.unusedVariables false
namespace Go.Cl.Gd
open Go.Proofs
variable {W : World} {G : Nat → CV}
set_option maxRecDepth 8000
/-- The cells of a slice of numbers, by their places. -/
def genC (n : Nat) (f : Nat → Int) : List CV := (List.range n).map fun i => ci (f i)
theorem genC_len {n : Nat} {f : Nat → Int} : (genC n f).length = n := by simp [genC]
theorem genC_get {n : Nat} {f : Nat → Int} {i : Nat} (h : i < n) : (genC n f)[i]? = some (ci (f i)) := by simp [genC, List.getElem?_map, List.getElem?_range h]
theorem genC_put {n : Nat} {f : Nat → Int} {i : Nat} {v : Int} (h : i < n) : (genC n f).take i ++ ci v :: (genC n f).drop (i + 1) = genC n (fun x => if x = i then v else f x) := by
  rw [take_drop_set (by rw [genC_len]; exact h)]
  apply List.ext_getElem?
  intro j
  rw [List.getElem?_set]
  by_cases hj : i = j
  · subst hj
    rw [if_pos rfl, genC_len, if_pos h, genC_get h]
    simp
  · simp only [if_neg hj, genC, List.getElem?_map]
    rcases Nat.lt_or_ge j n with hjn | hjn
    · rw [List.getElem?_range hjn]
      simp [Ne.symm hj]
    · rw [List.getElem?_eq_none (by simpa using hjn)]
      rfl
def oI : Option Nat → Int
  | none => -1
  | some c => c
def ptC (n : Nat) (I : Nat → Option Nat) : List CV := genC n fun b => oI (I b)
theorem ptC_upd {n : Nat} {I : Nat → Option Nat} {b y : Nat} : genC n (fun x => if x = b then (y : Int) else oI (I x)) = ptC n (upd I b (some y)) := by
  simp only [genC, ptC, upd]
  congr 1
  funext x
  split <;> simp [oI]
structure mtI (nx : Nat → Nat → Bool) (order : List Nat) (rkf : Nat → Int) (I : Nat → Option Nat) (gp a b : Nat) (H : Hp) (m : Nat) (s' : CA) (H' : Hp) : Prop where
  ex : ∃ a' b' : Nat, m = (rkf a' + rkf b').toNat ∧ s'.env 0 = .ptr gp 0 ∧ s'.env 1 = .int .i64 a' ∧ s'.env 2 = .int .i64 b' ∧ s'.ds = [] ∧ H' = H ∧ a' ∈ order ∧ b' ∈ order ∧ Kn I a' ∧ Kn I b' ∧ ∀ x, (Anc I x a' ∧ Anc I x b') ↔ (Anc I x a ∧ Anc I x b)
structure mtX (order : List Nat) (I : Nat → Option Nat) (a b : Nat) (H : Hp) (s' : CA) (H' : Hp) : Prop where
  ex : ∃ m : Nat, s'.env 1 = .int .i64 m ∧ s'.ds = [] ∧ H' = H ∧ m ∈ order ∧ Kn I m ∧ Anc I m a ∧ Anc I m b ∧ ∀ x, Anc I x a → Anc I x b → Anc I x m
structure OrdN (nx : Nat → Nat → Bool) (order : List Nat) (rkf : Nat → Int) (n : Nat) : Prop where
  ok : OrdOk nx order rkf
  lt : ∀ b ∈ order, b < n
theorem OrdN.inj {nx : Nat → Nat → Bool} {order : List Nat} {rkf : Nat → Int} {n : Nat} (h : OrdN nx order rkf n) {a b : Nat} (ha : a ∈ order) (hb : b ∈ order) (e : rkf a = rkf b) : a = b := by
  obtain ⟨i, hi⟩ := List.mem_iff_getElem?.1 ha
  obtain ⟨j, hj⟩ := List.mem_iff_getElem?.1 hb
  have h1 := h.ok.at_ i a hi
  have h2 := h.ok.at_ j b hj
  have : i = j := by omega
  subst this
  rw [hi] at hj
  exact Option.some.inj hj
theorem OrdN.nn {nx : Nat → Nat → Bool} {order : List Nat} {rkf : Nat → Int} {n : Nat} (h : OrdN nx order rkf n) {a : Nat} (ha : a ∈ order) : 0 ≤ rkf a := by
  obtain ⟨i, hi⟩ := List.mem_iff_getElem?.1 ha
  have h1 := h.ok.at_ i a hi
  omega
theorem OrdN.zero {nx : Nat → Nat → Bool} {order : List Nat} {rkf : Nat → Int} {n : Nat} (h : OrdN nx order rkf n) : rkf 0 = 0 := h.ok.at_ 0 0 h.ok.h
theorem meet_c (hX : CxOk (cx W G)) {nx : Nat → Nat → Bool} {order : List Nat} {rkf : Nat → Int} {n i : Nat} {I : Nat → Option Nat} (ho : OrdN nx order rkf n) (hI : DI nx order rkf i I) {gp ri rk : Nat} {v0 v1 v2 : CV} {H : Hp}
    (hg : H gp = some (.cells [v0, v1, v2, .ref ri 0 n n, .ref rk 0 n n])) (hrk : H rk = some (.cells (genC n rkf))) (hri : H ri = some (.cells (ptC n I))) {a b : Nat} (ha : a ∈ order) (hb : b ∈ order) (ka : Kn I a) (kb : Kn I b) :
    CC Tryz.prog W 111 [.ptr gp 0, .int .i64 a, .int .i64 b] H fun x H' => ∃ m : Nat, x = .ret (.int .i64 m) ∧ H' = H ∧ m ∈ order ∧ Kn I m ∧ Anc I m a ∧ Anc I m b ∧ ∀ x, Anc I x a → Anc I x b → Anc I x m := by
  refine CC.of_cw hX Tryz.func111 rfl rfl (Nat.le_of_ble_eq_true rfl) ?_
  refine CW.walk hX mixed d111 rfl ?_
  simp
  refine CW.cut (mtX order I a b H) ?_ ?_
  · refine CW.block ?_
    refine CW.loop (mtI nx order rkf I gp a b H) ?_ (m := (rkf a + rkf b).toNat) ⟨a, b, rfl, by simp, by simp, by simp, rfl, rfl, ha, hb, ka, kb, fun x => Iff.rfl⟩
    rintro m ⟨e, ds⟩ H1 ⟨a', b', rfl, e0, e1, e2, rfl, rfl, ha', hb', ka', kb', hcm⟩
    dsimp only at e0 e1 e2
    by_cases hab : a' = b'
    · subst hab
      refine CW.walk hX mixed d111 rfl ?_
      simp [e1, e2]
      have h1 := (hcm a').1 ⟨.refl, .refl⟩
      exact ⟨a', by simp [e1], rfl, rfl, ha', ka', h1.1, h1.2, fun x hx hy => ((hcm x).2 ⟨hx, hy⟩).1⟩
    have hal := ho.lt a' ha'
    have hbl := ho.lt b' hb'
    have hna := ho.nn ha'
    have hnb := ho.nn hb'
    have hne : rkf a' ≠ rkf b' := fun q => hab (ho.inj ha' hb' q)
    have h0 := ho.zero
    have ga := genC_get (f := rkf) hal
    have gb := genC_get (f := rkf) hbl
    have up : ∀ c d, c ∈ order → d ∈ order → Kn I c → rkf d < rkf c → ∃ y, I c = some y ∧ y ∈ order ∧ Kn I y ∧ rkf y < rkf c ∧ ∀ x, (Anc I x y ∧ Anc I x d) ↔ (Anc I x c ∧ Anc I x d) := by
      intro c d hc hd kc hlt
      have hnd := ho.nn hd
      have hc0 : c ≠ 0 := fun q => by subst q; omega
      have := kc.resolve_left hc0
      obtain ⟨y, hy⟩ := Option.isSome_iff_exists.1 this
      obtain ⟨_, q2, q3, q4⟩ := hI.c c y hy
      refine ⟨y, hy, q2, q4, q3, fun x => ⟨fun h => ⟨.step hy h.1, h.2⟩, fun h => ⟨?_, h.2⟩⟩⟩
      cases h.1 with
      | refl => have := h.2.le hI.lt; omega
      | step e' k' => rw [hy] at e'; injection e' with e'; subst e'; exact k'
    refine CW.walk hX mixed d111 rfl ?_
    simp [e1, e2, show ¬ (a' : Int) = b' by omega]
    refine CW.block ?_
    by_cases hlt : rkf a' < rkf b'
    · obtain ⟨y, hy, hyo, hyk, hyr, hya⟩ := up b' a' hb' ha' kb' hlt
      have hyn := ho.nn hyo
      have gy : (ptC n I)[b']? = some (ci (y : Int)) := by rw [ptC, genC_get hbl, hy]; rfl
      refine CW.walk hX mixed d111 rfl ?_
      simp [d111, e0, e1, e2, hg, hrk, hal, hbl, ga, gb, hlt]
      refine CW.walk1 hX mixed d111 rfl ?_
      simp [e0, e1, e2, hg, hri, hbl, gy]
      exact ⟨(rkf y + rkf a').toNat, by omega, y, a', rfl, by simp [e0], by simp, by simp, rfl, rfl, hyo, ha', hyk, ka', fun x => ⟨fun h => (hcm x).1 ⟨((hya x).1 h).2, ((hya x).1 h).1⟩, fun h => (hya x).2 ⟨((hcm x).2 h).2, ((hcm x).2 h).1⟩⟩⟩
    · obtain ⟨y, hy, hyo, hyk, hyr, hya⟩ := up a' b' ha' hb' ka' (by omega)
      have hyn := ho.nn hyo
      have gy : (ptC n I)[a']? = some (ci (y : Int)) := by rw [ptC, genC_get hal, hy]; rfl
      refine CW.walk hX mixed d111 rfl ?_
      simp [d111, e0, e1, e2, hg, hrk, hal, hbl, ga, gb, hlt]
      refine CW.walk1 hX mixed d111 rfl ?_
      simp [e0, e1, e2, hg, hri, hal, gy]
      exact ⟨(rkf y + rkf b').toNat, by omega, y, b', rfl, by simp [e0], by simp, by simp [e2], rfl, rfl, hyo, hb', hyk, kb', fun x => ⟨fun h => (hcm x).1 ((hya x).1 h), fun h => (hya x).2 ((hcm x).2 h)⟩⟩
  rintro ⟨e, ds⟩ H1 ⟨m, e1, rfl, rfl, h1, h2, h3, h4, h5⟩
  dsimp only at e1
  refine CW.walk1 hX mixed d111 rfl ?_
  simp [e1]
  exact ⟨m, rfl, h1, h2, h3, h4, h5⟩
end Go.Cl.Gd
set_option linter.unusedSimpArgs false
set_option linter.unusedVariables false
namespace Go.Cl.Gd
open Go.Proofs
variable {W : World} {G : Nat → CV}
set_option maxRecDepth 8000
theorem lenK_of {e sz bs : Nat} {zr : List TZ} {v : CV} {n : Nat} {H : Hp} {K : CV → Hp → Prop} (hv : (v = .nilsl ∧ n = 0) ∨ ∃ r c, v = .ref r 0 n c) (h : K (.int .i64 n) H) : lenK (some ⟨.slice e, sz, bs, zr⟩) v H K := by
  rcases hv with ⟨rfl, rfl⟩ | ⟨r, c, rfl⟩
  · exact h
  · exact h
theorem nodup_le : ∀ (n : Nat) (l : List Nat), l.Nodup → (∀ x ∈ l, x < n) → l.length ≤ n
  | 0, [], _, _ => by simp
  | 0, x :: l, _, h => by have := h x (by simp); omega
  | n + 1, l, hn, h => by
    have h1 := nodup_le n (l.erase n) (hn.erase n) fun x hx => by
      have h2 := h x (List.mem_of_mem_erase hx)
      have : x ≠ n := fun e => by subst e; exact (hn.not_mem_erase) hx
      omega
    have h3 := List.length_erase (a := n) (l := l)
    split at h3 <;> omega
def wgt (order : List Nat) (rkf : Nat → Int) : Option Nat → Nat
  | none => order.length + 1
  | some c => (rkf c).toNat
def msr (order : List Nat) (rkf : Nat → Int) (I : Nat → Option Nat) : Nat := (order.map fun b => wgt order rkf (I b)).sum
theorem sum_turn {l : List Nat} {f g : Nat → Nat} {b : Nat} (hn : l.Nodup) (hb : b ∈ l) (h : ∀ x, x ≠ b → g x = f x) (hlt : g b < f b) : (l.map g).sum + 1 ≤ (l.map f).sum := by
  induction l with
  | nil => cases hb
  | cons x l ih =>
    rw [List.nodup_cons] at hn
    simp only [List.map_cons, List.sum_cons]
    by_cases hx : x = b
    · subst hx
      have : l.map g = l.map f := List.map_congr_left fun y hy => h y fun e => hn.1 (e ▸ hy)
      rw [this]
      omega
    · have := ih hn.2 (by rcases List.mem_cons.1 hb with e | e; exact absurd e.symm hx; exact e)
      rw [h x hx]
      omega
theorem OrdN.nd {nx : Nat → Nat → Bool} {order : List Nat} {rkf : Nat → Int} {n : Nat} (h : OrdN nx order rkf n) : order.Nodup := by
  rw [List.nodup_iff_pairwise_ne, List.pairwise_iff_getElem]
  intro i j hi hj hij e
  have h1 := h.ok.at_ i _ (List.getElem?_eq_getElem hi)
  have h2 := h.ok.at_ j _ (List.getElem?_eq_getElem hj)
  rw [e] at h1
  omega
theorem OrdN.rkl {nx : Nat → Nat → Bool} {order : List Nat} {rkf : Nat → Int} {n : Nat} (h : OrdN nx order rkf n) {a : Nat} (ha : a ∈ order) : rkf a < order.length := by
  obtain ⟨i, hi⟩ := List.mem_iff_getElem?.1 ha
  have h1 := h.ok.at_ i a hi
  have := (List.getElem?_eq_some_iff.1 hi).1
  omega
section
variable {nx : Nat → Nat → Bool} {order : List Nat} {rkf : Nat → Int} {n i : Nat} {I : Nat → Option Nat} {b y : Nat}
theorem msr_lt (ho : OrdN nx order rkf n) (hI : DI nx order rkf i I) (hb : b ∈ order) (hy : y ∈ order) (hne : I b ≠ some y) (hq : ∀ q, I b = some q → Anc I y q) : msr order rkf (upd I b (some y)) + 1 ≤ msr order rkf I := by
  refine sum_turn ho.nd hb (fun x hx => by simp [upd, hx]) ?_
  simp only [upd, if_true]
  have h1 := ho.nn hy
  have h2 := ho.rkl hy
  cases hib : I b with
  | none => simp only [wgt]; omega
  | some q =>
    have h3 := (hq q hib).rkLt hI.lt
    simp only [wgt]
    rcases h3 with rfl | h3
    · exact absurd hib hne
    · omega
theorem DI.kno (ho : OrdN nx order rkf n) (h : DI nx order rkf i I) {k : Nat} (hk : Kn I k) : k ∈ order := by
  rcases hk with rfl | hk
  · exact List.mem_of_getElem? ho.ok.h
  · obtain ⟨c, hc⟩ := Option.isSome_iff_exists.1 hk
    exact (h.c k c hc).1
theorem DI.known (ho : OrdN nx order rkf n) (h : DI nx order rkf i I) (hb : order[i]? = some b) (hi : 0 < i) : ∃ f, nx f b = true ∧ Kn I f := by
  obtain ⟨j, f, hj, hjf, hf⟩ := ho.ok.fwd i b hb hi
  refine ⟨f, hf, ?_⟩
  rcases Nat.eq_zero_or_pos j with h0 | h0
  · subst h0; rw [ho.ok.h] at hjf; injection hjf with hjf; exact .inl hjf.symm
  · exact .inr (h.p j f hjf h0 hj)
end
/-- The best of some blocks before: none is known, or the nearest common one. -/
def Bst (order : List Nat) (I : Nat → Option Nat) (l : List Nat) : Option Nat → Prop
  | none => ∀ k ∈ l, ¬ Kn I k
  | some y => y ∈ order ∧ Kn I y ∧ (∀ k ∈ l, Kn I k → Anc I y k) ∧ ∀ x, (∀ k ∈ l, Kn I k → Anc I x k) → Anc I x y
theorem bst_skip {order : List Nat} {I : Nat → Option Nat} {l : List Nat} {k : Nat} {bst : Option Nat} (h : Bst order I l bst) (hk : ¬ Kn I k) : Bst order I (l ++ [k]) bst := by
  cases bst with
  | none => exact fun x hx => by rcases List.mem_append.1 hx with e | e; exact h x e; simp at e; subst e; exact hk
  | some y =>
    obtain ⟨h1, h2, h3, h4⟩ := h
    refine ⟨h1, h2, fun x hx kx => ?_, fun x hx => h4 x fun z hz kz => hx z (by simp [hz]) kz⟩
    rcases List.mem_append.1 hx with e | e
    · exact h3 x e kx
    · simp at e; subst e; exact absurd kx hk
theorem bst_first {order : List Nat} {I : Nat → Option Nat} {l : List Nat} {k : Nat} (h : Bst order I l none) (hk : Kn I k) (ho : k ∈ order) : Bst order I (l ++ [k]) (some k) := by
  refine ⟨ho, hk, fun x hx kx => ?_, fun x hx => hx k (by simp) hk⟩
  rcases List.mem_append.1 hx with e | e
  · exact absurd kx (h x e)
  · simp at e; subst e; exact .refl
theorem bst_meet {order : List Nat} {I : Nat → Option Nat} {l : List Nat} {k y m : Nat} (h : Bst order I l (some y)) (hk : Kn I k) (h1 : m ∈ order) (h2 : Kn I m) (h3 : Anc I m y) (h4 : Anc I m k) (h5 : ∀ x, Anc I x y → Anc I x k → Anc I x m) : Bst order I (l ++ [k]) (some m) := by
  obtain ⟨g1, g2, g3, g4⟩ := h
  refine ⟨h1, h2, fun x hx kx => ?_, fun x hx => h5 x (g4 x fun z hz kz => hx z (by simp [hz]) kz) (hx k (by simp) hk)⟩
  rcases List.mem_append.1 hx with e | e
  · exact h3.trans (g3 x e kx)
  · simp at e; subst e; exact h4
/-- What lies still while the dominators are looked for. -/
structure DmB (B : Hp) (gp rb ri rk ro co n : Nat) (v0 : CV) (order : List Nat) (rkf : Nat → Int) (L : Nat → List Nat) (bs os : List CV) : Prop where
  g : B gp = some (.cells [v0, .ref rb 0 n n, .ref ro 0 order.length co, .ref ri 0 n n, .ref rk 0 n n])
  b : B rb = some (.cells bs)
  bb : ∀ b, b < n → ∃ v, bs[b]? = some v ∧ SlF B v ((L b).map fun (k : Nat) => (k : Int))
  o : B ro = some (.cells os)
  oo : ∀ (j : Nat) b, order[j]? = some b → os[j]? = some (ci (b : Int))
  co : order.length ≤ co
  k : B rk = some (.cells (genC n rkf))
  i : B ri = none
structure dmZ (gp n ri : Nat) (f0 : Nat → Int) (H : Hp) (d : Nat) (m : Nat) (s' : CA) (H' : Hp) : Prop where
  ex : ∃ i i14 : Nat, m = n - i ∧ i ≤ n ∧ s'.env 0 = .ptr gp 0 ∧ s'.env 13 = .int .i64 n ∧ s'.env 14 = .int .i64 i14 ∧ i14 + d = i ∧ s'.ds = [] ∧ H' = H.set ri (.cells (genC n fun x => if x < i then -1 else f0 x))
structure dmO (nx : Nat → Nat → Bool) (order : List Nat) (rkf : Nat → Int) (gp n ri : Nat) (H : Hp) (m : Nat) (s' : CA) (H' : Hp) : Prop where
  ex : ∃ I, ∃ again : Bool, m = msr order rkf I + (if again then 1 else 0) ∧ s'.env 0 = .ptr gp 0 ∧ s'.env 3 = .bool again ∧ s'.ds = [] ∧ DI nx order rkf 1 I ∧ (again = false → Fx nx order order.length I) ∧ H' = H.set ri (.cells (ptC n I))
structure dmP (nx : Nat → Nat → Bool) (order : List Nat) (rkf : Nat → Int) (gp n ri ro oo cc : Nat) (M : Nat) (H : Hp) (d : Nat) (m : Nat) (s' : CA) (H' : Hp) : Prop where
  ex : ∃ j j31 I, ∃ again : Bool, m = order.length - 1 - j ∧ j + 1 ≤ order.length ∧ msr order rkf I + (if again then 1 else 0) ≤ M ∧ s'.env 0 = .ptr gp 0 ∧ s'.env 3 = .bool again ∧ s'.env 29 = .ref ro oo (order.length - 1) cc ∧ s'.env 30 = .int .i64 ((order.length - 1 : Nat) : Int) ∧ s'.env 31 = .int .i64 j31 ∧ j31 + d = j ∧ s'.ds = [] ∧ DI nx order rkf (j + 1) I ∧ (again = false → Fx nx order (j + 1) I) ∧ H' = H.set ri (.cells (ptC n I))
structure dmK (order : List Nat) (I : Nat → Option Nat) (gp ro oo cc j b : Nat) (again : Bool) (l : List Nat) (v : CV) (H1 : Hp) (d : Nat) (m : Nat) (s' : CA) (H' : Hp) : Prop where
  ex : ∃ t t43 bst, m = l.length - t ∧ t ≤ l.length ∧ s'.env 0 = .ptr gp 0 ∧ s'.env 3 = .bool again ∧ s'.env 5 = .int .i64 b ∧ s'.env 6 = ci (oI bst) ∧ s'.env 29 = .ref ro oo (order.length - 1) cc ∧ s'.env 30 = .int .i64 ((order.length - 1 : Nat) : Int) ∧ s'.env 31 = .int .i64 j ∧ s'.env 41 = v ∧ s'.env 42 = .int .i64 l.length ∧ s'.env 43 = .int .i64 t43 ∧ t43 + d = t ∧ s'.ds = [] ∧ Bst order I (l.take t) bst ∧ H' = H1
set_option maxHeartbeats 2000000 in
theorem dominate_c (hX : CxOk (cx W G)) {nx : Nat → Nat → Bool} {order : List Nat} {rkf : Nat → Int} {n : Nat} (hn : n ≤ 5000) (ho : OrdN nx order rkf n) {L : Nat → List Nat} (hL : ∀ k b, k < n → b < n → (k ∈ L b ↔ nx k b = true)) (hLl : ∀ b, (L b).length ≤ 5000) (hLn : ∀ b k, k ∈ L b → k < n) {gp rb ri rk ro co : Nat} {v0 : CV} {bs os : List CV} {B : Hp}
    (hB : DmB B gp rb ri rk ro co n v0 order rkf L bs os) {f0 : Nat → Int} {H : Hp} (hle : Le B H) (hri : H ri = some (.cells (genC n f0))) :
    CC Tryz.prog W 85 [.ptr gp 0] H fun x H' => x = .ret (.tuple []) ∧ ∃ I, DI nx order rkf 1 I ∧ Fx nx order order.length I ∧ H' = H.set ri (.cells (ptC n I)) := by
  have h0o : 0 < order.length := (List.getElem?_eq_some_iff.1 ho.ok.h).1
  have hgr : gp ≠ ri := fun e => by have := hB.g; rw [e, hB.i] at this; cases this
  have hbr : rb ≠ ri := fun e => by have := hB.b; rw [e, hB.i] at this; cases this
  have hor : ro ≠ ri := fun e => by have := hB.o; rw [e, hB.i] at this; cases this
  have hkr : rk ≠ ri := fun e => by have := hB.k; rw [e, hB.i] at this; cases this
  have mg := hle _ _ hB.g
  have mgS : ∀ o, (H.set ri o) gp = some (.cells [v0, .ref rb 0 n n, .ref ro 0 order.length co, .ref ri 0 n n, .ref rk 0 n n]) := fun o => by rw [hset_ne hgr]; exact mg
  refine CC.of_cw hX Tryz.func85 rfl rfl (Nat.le_of_ble_eq_true rfl) ?_
  refine CW.cut (fun s' H' => s'.env 0 = .ptr gp 0 ∧ s'.ds = [] ∧ H' = H.set ri (.cells (genC n fun _ => -1))) ?_ ?_
  · refine CW.walk hX mixed d85 rfl ?_
    simp [mg, hri]
    refine CW.block ?_
    refine CW.loop (dmZ gp n ri f0 H 0) ?_ (m := n) ⟨0, 0, rfl, by omega, by simp, by simp, by simp, rfl, rfl, by simpa using (hset_self hri).symm⟩
    rintro m ⟨e, ds⟩ H1 ⟨i, i14, rfl, hi, e0, e13, e14, hi14, rfl, rfl⟩
    obtain rfl : i = i14 := by omega
    dsimp only at e0 e13 e14
    by_cases hin : i < n
    rotate_left
    · refine CW.walk hX mixed d85 rfl ?_
      simp [e13, e14, hin]
      refine CW.walk hX mixed d85 rfl ?_
      simp
      have : i = n := by omega
      subst this
      refine ⟨by simp [e0], ?_⟩
      congr 2
      simp only [genC]
      refine List.map_congr_left fun x hx => ?_
      have := List.mem_range.1 hx
      simp [this]
    refine CW.walk hX mixed d85 rfl ?_
    simp [e13, e14, hin]
    refine CW.walk hX mixed d85 rfl ?_
    simp
    refine CW.cut (dmZ gp n ri f0 H 1 (n - (i + 1))) ?_ ?_
    · refine CW.block ?_
      refine CW.walk hX mixed d85 rfl ?_
      simp [e14]
      refine CW.walk1 hX mixed d85 rfl ?_
      simp [e0, mgS, hin, genC_len, hgr, mg]
      refine ⟨by omega, ?_⟩
      rw [genC_put hin]
      refine ⟨i + 1, i, rfl, by omega, by simp [e0], by simp [e13], by simp [e14], rfl, rfl, ?_⟩
      congr 3
      funext x
      by_cases h1 : x = i
      · subst h1; simp
      · by_cases h2 : x < i
        · simp [h1, h2, show x < i + 1 by omega]
        · simp [h1, h2, show ¬ x < i + 1 by omega]
    · clear e0 e13 e14
      clear e
      rintro ⟨e, ds⟩ H1 ⟨i2, i14, hm, hi2, e0, e13, e14, hi14, rfl, rfl⟩
      dsimp only at e0 e13 e14
      obtain rfl : i2 = i + 1 := by omega
      obtain rfl : i = i14 := by omega
      refine CW.walk1 hX mixed d85 rfl ?_
      simp [e14]
      exact ⟨n - (i + 1), by omega, i + 1, i + 1, rfl, hi2, by simp [e0], by simp [e13], by simp; rw [wrapI (by omega) (by omega)], rfl, rfl, rfl⟩
  rintro ⟨e, ds⟩ H1 ⟨e0, rfl, rfl⟩
  dsimp only at e0
  refine CW.walk hX mixed d85 rfl ?_
  simp
  have hst : genC n (fun _ => -1) = ptC n (fun _ => none) := rfl
  rw [hst]
  refine CW.block ?_
  refine CW.loop (dmO nx order rkf gp n ri H) ?_ (m := msr order rkf (fun _ => none) + 1) ⟨fun _ => none, true, rfl, by simp [e0], by simp, rfl, DI.start, (fun h => by cases h), rfl⟩
  clear e0
  clear e
  rintro m ⟨e, ds⟩ H1 ⟨I, again, rfl, e0, e3, rfl, hI, hfx, rfl⟩
  dsimp only at e0 e3
  cases again with
  | false =>
    refine CW.walk hX mixed d85 rfl ?_
    simp [e3]
    exact ⟨I, hI, hfx rfl, rfl⟩
  | true =>
  refine CW.walk hX mixed d85 rfl ?_
  simp [e3]
  refine CW.block ?_
  refine CW.walk hX mixed d85 rfl ?_
  simp
  have moS : ∀ o, (H.set ri o) ro = some (.cells os) := fun o => by rw [hset_ne hor]; exact hle _ _ hB.o
  refine CW.walk hX mixed d85 rfl ?_
  simp [e0, mgS, hgr, mg]
  refine ⟨hB.co, by omega, ?_⟩
  obtain ⟨oo, hoo⟩ : ∃ oo, (if co = 1 then 0 else 1) = oo := ⟨_, rfl⟩
  have hoo2 : ∀ j, j + 1 < order.length → oo + j = j + 1 := fun j hj => by
    have := hB.co
    rw [← hoo, if_neg (by omega)]; omega
  rw [hoo]
  refine CW.block ?_
  refine CW.loop (dmP nx order rkf gp n ri ro oo (co - 1) (msr order rkf I) H 0) ?_ (m := order.length - 1) ⟨0, 0, I, false, by omega, by omega, by simp, by simp [e0], by simp, by simp, by simp, by simp, rfl, rfl, hI, (fun _ j' b _ h1 h2 => by omega), rfl⟩
  clear e0 e3
  clear e
  obtain ⟨M, hM⟩ : ∃ M, msr order rkf I = M := ⟨_, rfl⟩
  rw [hM]
  clear hM hI hfx
  clear I
  rintro m ⟨e, ds⟩ H1 ⟨j, j31, I, again, rfl, hj, hms, e0, e3, e29, e30, e31, hj31, rfl, hI, hfx, rfl⟩
  obtain rfl : j = j31 := by omega
  dsimp only at e0 e3 e29 e30 e31
  by_cases hjl : j < order.length - 1
  rotate_left
  · have hjj : j + 1 = order.length := by omega
    refine CW.walk hX mixed d85 rfl ?_
    simp [e30, e31, hjl]
    refine CW.walk hX mixed d85 rfl ?_
    simp
    rw [hjj] at hI hfx
    exact ⟨msr order rkf I + (if again then 1 else 0), by omega, I, again, rfl, by simp [e0], by simp [e3], rfl, hI.wrap fun b hb => ho.rkl hb, hfx, rfl⟩
  refine CW.walk hX mixed d85 rfl ?_
  simp [e30, e31, hjl]
  refine CW.walk hX mixed d85 rfl ?_
  simp
  obtain ⟨b, hb⟩ : ∃ b, order[j + 1]? = some b := ⟨_, List.getElem?_eq_getElem (by omega)⟩
  have hbo := List.mem_of_getElem? hb
  have hbn := ho.lt b hbo
  obtain ⟨vb, hvb, hsb⟩ := hB.bb b hbn
  have hsb1 := hsb.mono hle
  have gos : os[oo + j]? = some (ci (b : Int)) := by rw [hoo2 j (by omega)]; exact hB.oo _ _ hb
  have mbS : ∀ o, (H.set ri o) rb = some (.cells bs) := fun o => by rw [hset_ne hbr]; exact hle _ _ hB.b
  refine CW.cut (dmP nx order rkf gp n ri ro oo (co - 1) M H 1 (order.length - 1 - (j + 1))) ?_ ?_
  · refine CW.block ?_
    refine CW.walk hX mixed d85 rfl ?_
    simp [e29, e31, hjl, moS, gos]
    refine CW.walk hX mixed d85 rfl ?_
    simp
    obtain ⟨l, hl⟩ : ∃ l, L b = l := ⟨_, rfl⟩
    rw [hl] at hsb1 hsb
    refine CW.cut (dmK order I gp ro oo (co - 1) j b again l vb (H.set ri (.cells (ptC n I))) 0 0) ?_ ?_
    · have hlen : (vb = .nilsl ∧ l.length = 0) ∨ ∃ r c, vb = .ref r 0 l.length c := by
        rcases hsb1 with ⟨h1, h2⟩ | ⟨r, c, cs, h1, _⟩
        · exact .inl ⟨h1, by simpa using congrArg List.length h2⟩
        · exact .inr ⟨r, _, by simpa using h1⟩
      refine CW.walk hX mixed d85 rfl ?_
      simp [e0, mgS, hgr, mg, mbS, hbr, hle _ _ hB.b, hbn, hvb]
      refine lenK_of hlen ?_
      simp
      refine CW.block ?_
      refine CW.loop (dmK order I gp ro oo (co - 1) j b again l vb (H.set ri (.cells (ptC n I))) 0) ?_ (m := l.length) ⟨0, 0, none, rfl, by omega, by simp [e0], by simp [e3], by simp, by simp [oI], by simp [e29], by simp [e30], by simp [e31], by simp, by simp, by simp, rfl, rfl, by simp [Bst], rfl⟩
      clear e0 e3 e29 e30 e31
      clear e
      rintro m ⟨e, ds⟩ H1 ⟨t, t43, bst, rfl, ht, e0, e3, e5, e6, e29, e30, e31, e41, e42, e43, ht43, rfl, hbst, rfl⟩
      obtain rfl : t = t43 := by omega
      dsimp only at e0 e3 e5 e6 e29 e30 e31 e41 e42 e43
      by_cases htl : t < l.length
      rotate_left
      · refine CW.walk hX mixed d85 rfl ?_
        simp [e42, e43, htl]
        refine CW.walk hX mixed d85 rfl ?_
        simp
        have htt : t = l.length := by omega
        exact ⟨l.length, l.length, bst, by omega, by omega, by simp [e0], by simp [e3], by simp [e5], by simp [e6], by simp [e29], by simp [e30], by simp [e31], by simp [e41], by simp [e42], by simp [e43, htt], rfl, rfl, by rw [← htt]; exact hbst, rfl⟩
      refine CW.walk hX mixed d85 rfl ?_
      simp [e42, e43, htl]
      refine CW.walk hX mixed d85 rfl ?_
      simp
      obtain ⟨k, hk⟩ : ∃ k, l[t]? = some k := ⟨_, List.getElem?_eq_getElem htl⟩
      have hkl := List.mem_of_getElem? hk
      have hkn := hLn b k (by rw [hl]; exact hkl)
      have htk : l.take (t + 1) = l.take t ++ [k] := by
        rw [List.take_succ_eq_append_getElem htl]
        rw [List.getElem?_eq_getElem htl] at hk
        injection hk with hk
        rw [hk]
      rcases hsb with ⟨h1, h2⟩ | ⟨rv, cv, csv, hvb, mvB, hcs⟩
      · have := congrArg List.length h2
        simp at this
        rw [this] at htl
        simp at htl
      simp only [List.length_map] at hvb
      subst hvb
      have gk : csv[t]? = some (ci (k : Int)) := hcs t _ (by rw [List.getElem?_map, hk]; rfl)
      have hvr : rv ≠ ri := fun e => by rw [e, hB.i] at mvB; cases mvB
      have mv : ∀ o, (H.set ri o) rv = some (.cells csv) := fun o => by rw [hset_ne hvr]; exact hle _ _ mvB
      have mvH := hle _ _ mvB
      have gI := genC_get (f := fun b => oI (I b)) hkn
      refine CW.cut (dmK order I gp ro oo (co - 1) j b again l (.ref rv 0 l.length (l.length + cv)) (H.set ri (.cells (ptC n I))) 1 (l.length - (t + 1))) ?_ ?_
      · have fin : ∀ (en : Env) bst', Bst order I (l.take t ++ [k]) bst' → en 0 = .ptr gp 0 → en 3 = .bool again → en 5 = .int .i64 b → en 6 = ci (oI bst') → en 29 = .ref ro oo (order.length - 1) (co - 1) → en 30 = .int .i64 ((order.length - 1 : Nat) : Int) → en 31 = .int .i64 j → en 41 = .ref rv 0 l.length (l.length + cv) → en 42 = .int .i64 l.length → en 43 = .int .i64 t →
            dmK order I gp ro oo (co - 1) j b again l (.ref rv 0 l.length (l.length + cv)) (H.set ri (.cells (ptC n I))) 1 (l.length - (t + 1)) ⟨en, []⟩ (H.set ri (.cells (ptC n I))) :=
          fun en bst' hb q0 q3 q5 q6 q29 q30 q31 q41 q42 q43 => ⟨t + 1, t, bst', rfl, by omega, q0, q3, q5, q6, q29, q30, q31, q41, q42, q43, rfl, rfl, by rw [htk]; exact hb, rfl⟩
        refine CW.block ?_
        refine CW.walk hX mixed d85 rfl ?_
        simp [e41, e43, htl, hvr, mvH, gk]
        refine CW.block ?_
        by_cases hkn0 : Kn I k
        rotate_left
        · have hk0 : ¬ (k : Int) = 0 := fun e => hkn0 (.inl (by omega))
          have hIk : I k = none := by
            cases h : I k with
            | none => rfl
            | some c => exact absurd (Or.inr (by rw [h]; rfl)) hkn0
          have gI' : (ptC n I)[k]? = some (ci (-1)) := by rw [ptC, gI, hIk]; rfl
          refine CW.walk1 hX mixed d85 rfl ?_
          simp [d85, e0, show ¬ k = 0 by omega, hgr, mg, hkn, gI']
          exact fin _ bst (bst_skip hbst hkn0) (by simp [e0]) (by simp [e3]) (by simp [e5]) (by simp [e6]) (by simp [e29]) (by simp [e30]) (by simp [e31]) (by simp [e41]) (by simp [e42]) (by simp [e43])
        have hko := hI.kno ho hkn0
        refine CW.cut (fun s' H' => s'.env 51 = .bool false ∧ s'.env 0 = .ptr gp 0 ∧ s'.env 3 = .bool again ∧ s'.env 5 = .int .i64 b ∧ s'.env 6 = ci (oI bst) ∧ s'.env 8 = .int .i64 k ∧ s'.env 29 = .ref ro oo (order.length - 1) (co - 1) ∧ s'.env 30 = .int .i64 ((order.length - 1 : Nat) : Int) ∧ s'.env 31 = .int .i64 j ∧ s'.env 41 = .ref rv 0 l.length (l.length + cv) ∧ s'.env 42 = .int .i64 l.length ∧ s'.env 43 = .int .i64 t ∧ s'.ds = [] ∧ H' = H.set ri (.cells (ptC n I))) ?_ ?_
        · refine CW.walk1 hX mixed d85 rfl ?_
          by_cases hk0 : (k : Int) = 0
          · simp [d85, e0, hk0, e3, e5, e6, e29, e30, e31, e41, e42, e43]
          · obtain ⟨c, hc⟩ := Option.isSome_iff_exists.1 (hkn0.resolve_left fun e => hk0 (by omega))
            have gI' : (ptC n I)[k]? = some (ci (c : Int)) := by rw [ptC, gI, hc]; rfl
            simp [d85, e0, hk0, hgr, mg, hkn, gI', show ¬ (c : Int) < 0 by omega, e3, e5, e6, e29, e30, e31, e41, e42, e43]
        clear e0 e3 e5 e6 e29 e30 e31 e41 e42 e43
        clear e
        rintro ⟨e, ds⟩ H1 ⟨e51, e0, e3, e5, e6, e8, e29, e30, e31, e41, e42, e43, rfl, rfl⟩
        dsimp only at e51 e0 e3 e5 e6 e8 e29 e30 e31 e41 e42 e43
        refine CW.walk1 hX mixed d85 rfl ?_
        cases bst with
        | none =>
          simp only [oI] at e6
          simp [e51, e6, e8]
          exact fin _ (some k) (bst_first hbst hkn0 hko) (by simp [e0]) (by simp [e3]) (by simp [e5]) (by simp [oI]) (by simp [e29]) (by simp [e30]) (by simp [e31]) (by simp [e41]) (by simp [e42]) (by simp [e43])
        | some y =>
          simp only [oI] at e6
          simp [e51, e6, e8, e0, show ¬ (y : Int) < 0 by omega]
          refine (meet_c hX ho hI (mgS _) (by rw [hset_ne hkr]; exact hle _ _ hB.k) set_at hbst.1 hko hbst.2.1 hkn0).k ?_
          rintro x H2 ⟨m, rfl, rfl, h1, h2, h3, h4, h5⟩
          simp
          exact fin _ (some m) (bst_meet hbst hkn0 h1 h2 h3 h4 h5) (by simp [e0]) (by simp [e3]) (by simp [e5]) (by simp [oI]) (by simp [e29]) (by simp [e30]) (by simp [e31]) (by simp [e41]) (by simp [e42]) (by simp [e43])
      · clear e0 e3 e5 e6 e29 e30 e31 e41 e42 e43 hbst
        clear e bst
        rintro ⟨e, ds⟩ H1 ⟨t2, t43, bst, hm, ht2, e0, e3, e5, e6, e29, e30, e31, e41, e42, e43, ht43, rfl, hbst, rfl⟩
        dsimp only at e0 e3 e5 e6 e29 e30 e31 e41 e42 e43
        obtain rfl : t2 = t + 1 := by omega
        obtain rfl : t = t43 := by omega
        have hll := hLl b
        rw [hl] at hll
        refine CW.walk1 hX mixed d85 rfl ?_
        simp [e43]
        exact ⟨l.length - (t + 1), by omega, t + 1, t + 1, bst, rfl, ht2, by simp [e0], by simp [e3], by simp [e5], by simp [e6], by simp [e29], by simp [e30], by simp [e31], by simp [e41], by simp [e42], by simp; rw [wrapI (by omega) (by omega)], rfl, rfl, hbst, rfl⟩
    · rintro ⟨e, ds⟩ H1 ⟨t, t43, bst, hm, ht, e0, e3, e5, e6, e29, e30, e31, e41, e42, e43, ht43, rfl, hbst, rfl⟩
      dsimp only at e0 e3 e5 e6 e29 e30 e31
      obtain rfl : t = l.length := by omega
      rw [List.take_length] at hbst
      obtain ⟨f, hf, hkf⟩ := hI.known ho hb (by omega)
      have hfl : f ∈ l := by rw [← hl]; exact (hL f b (ho.lt f (hI.kno ho hkf)) hbn).2 hf
      cases bst with
      | none => exact absurd hkf (hbst f hfl)
      | some y =>
      obtain ⟨hy1, hy2, hy3, hy4⟩ := hbst
      have hLm : ∀ k, nx k b = true → Kn I k → k ∈ l := fun k h1 h2 => by rw [← hl]; exact (hL k b (ho.lt k (hI.kno ho h2)) hbn).2 h1
      obtain ⟨hI', hq⟩ := hI.step ho.ok hb (by omega) (fun k h1 h2 => hy3 k (hLm k h1 h2) h2) (fun x hx => hy4 x fun k h1 h2 => hx k ((hL k b (hLn b k (by rw [hl]; exact h1)) hbn).1 (by rw [hl]; exact h1)) h2)
      have gb := genC_get (f := fun b => oI (I b)) hbn
      simp only [oI] at e6
      refine CW.walk1 hX mixed d85 rfl ?_
      by_cases hsame : I b = some y
      · have gb' : (ptC n I)[b]? = some (ci (y : Int)) := by rw [ptC, gb, hsame]; rfl
        have hu : upd I b (some y) = I := by
          funext x
          simp only [upd]
          split
          · rename_i h; rw [h, hsame]
          · rfl
        rw [hu] at hI'
        simp [e0, e5, e6, hgr, mg, hbn, gb']
        refine ⟨j + 1, j, I, again, rfl, by omega, hms, by simp [e0], by simp [e3], by simp [e29], by simp [e30], by simp [e31], rfl, rfl, hI', (fun h => ?_), rfl⟩
        intro j' b' hb' h1 h2
        by_cases hjj : j' = j + 1
        · subst hjj
          rw [hb] at hb'
          injection hb' with hb'
          subst hb'
          exact ⟨y, hsame, fun k h1 h2 => hy3 k (hLm k h1 h2) h2⟩
        · exact hfx h j' b' hb' h1 (by omega)
      · have hne : ¬ (y : Int) = oI (I b) := fun e => hsame (by
          cases h : I b with
          | none => rw [h] at e; simp only [oI] at e; omega
          | some q => rw [h] at e; simp only [oI] at e; congr 1; omega)
        have gb' : (ptC n I)[b]? = some (ci (oI (I b))) := gb
        have hm2 := msr_lt ho hI hbo hy1 hsame hq
        simp [e0, e5, e6, hgr, mg, hbn, gb', hne]
        refine ⟨by simp [ptC, genC_len]; omega, ?_⟩
        rw [show (ptC n I).take b ++ ci (y : Int) :: (ptC n I).drop (b + 1) = ptC n (upd I b (some y)) from (genC_put hbn).trans ptC_upd]
        exact ⟨j + 1, j, upd I b (some y), true, rfl, by omega, by simp; omega, by simp [e0], by simp, by simp [e29], by simp [e30], by simp [e31], rfl, rfl, hI', (fun h => by cases h), rfl⟩
  · clear e0 e3 e29 e30 e31 hI hms hfx
    clear e I again
    rintro ⟨e, ds⟩ H1 ⟨j2, j31, I, again, hm, hj2, hms, e0, e3, e29, e30, e31, hj31, rfl, hI, hfx, rfl⟩
    dsimp only at e0 e3 e29 e30 e31
    obtain rfl : j2 = j + 1 := by omega
    obtain rfl : j = j31 := by omega
    have hol : order.length ≤ 5000 := Nat.le_trans (nodup_le n order ho.nd ho.lt) hn
    refine CW.walk1 hX mixed d85 rfl ?_
    simp [e31]
    exact ⟨order.length - 1 - (j + 1), by omega, j + 1, j + 1, I, again, rfl, hj2, hms, by simp [e0], by simp [e3], by simp [e29], by simp [e30], by simp; rw [wrapI (by omega) (by omega)], rfl, rfl, hI, hfx, rfl⟩
end Go.Cl.Gd
set_option linter.unusedSimpArgs false
set_option linter.unusedVariables false
namespace Go.Cl
open Go.Proofs
section
variable {X : Cx} {H : Hp}
/-- How a body ends that returns nothing. -/
def endQ (R : Hp → Prop) : CP := fun x s' H' => (x = .normal ∨ x = .ret) ∧ s'.ds = [] ∧ R H'
theorem args_rep {W : World} {N : Nat} {args : List CV} {av : Array Value} (hl : args.length ≤ N) (hr : RepL W args av.toList) : RepE W N (env0 args) (av ++ Array.replicate (N - av.size) undef) := by
  have hal : args.length = av.size := by simpa using hr.1
  refine ⟨by simp; omega, fun t ht => ?_⟩
  simp only [env0]
  rw [Array.getD_eq_getD_getElem?, List.getD_eq_getElem?_getD]
  rcases Nat.lt_or_ge t av.size with h | h
  · rw [Array.getElem?_append_left h, Array.getElem?_eq_getElem h, List.getElem?_eq_getElem (by omega : t < args.length)]
    exact hr.2 t _ _ (List.getElem?_eq_getElem _) (by simp [h])
  · rw [Array.getElem?_append_right h, List.getElem?_eq_none (by omega)]
    simp [show t - av.size < N - av.size by omega]
    exact rep_undef _
theorem res_none {P : Program} {fn : Func} (hn : fn.results = #[]) {ts : Array Value} {w : World} : (results fn ts).run P w = .ok (.tuple #[]) w := by
  rw [results_eq, hn]
  simp
theorem DR.of_cw {f : FuncId} {fn : Func} {c : Code} {args : List CV} {R : Hp → Prop} (hf : X.P.funcs[f]? = some fn) (hb : fn.body = some c) (hn : fn.results = #[]) (hl : args.length ≤ fn.ntmps)
    (h : CW X.P X.W fn.ntmps none c (hold (endQ R)) ⟨env0 args, []⟩ H) : DR X.P X.W f args H R := by
  intro F av w hd hr hh
  refine CallsDIn.mono (callsDIn_of_wp (R := fun e w' => ∃ v, e = .returned v ∧ ∃ H', Disj H' F ∧ Held X.W (hun H' F) w' ∧ R H') hf hb trivial (wpIn_mono (h.out F { tmps := av ++ Array.replicate (fn.ntmps - av.size) undef, defers := [] } w hd ⟨args_rep hl hr, trivial⟩ hh) ?_)) ?_
  · rintro e a' w' ⟨x, s', H', hx, hr', hd', hh', hq, hds, hR⟩
    have hdef : a'.defers = [] := by
      have := hr'.2
      rw [hds] at this
      cases hdd : a'.defers with
      | nil => rfl
      | cons d ds => rw [hdd] at this; exact this.elim
    rcases hq with rfl | rfl <;> cases e <;> simp only [RepX] at hx
    · exact ⟨hdef, _, res_none hn, _, rfl, H', hd', hh', hR⟩
    · exact ⟨hdef, _, res_none hn, _, rfl, H', hd', hh', hR⟩
  · rintro e u' w' ⟨rfl, v, rfl, H', h1, h2, h3⟩
    exact ⟨v, rfl, rfl, H', h1, h2, h3⟩
/-- How a body ends that has deferred one call. -/
def defQ (P : Program) (W : World) (g : FuncId) (R : Hp → Prop) : CP := fun x s' H' => (x = .normal ∨ x = .ret) ∧ ∃ cap, s'.ds = [.call (.func g) cap []] ∧ DR P W g cap H' R
theorem CC.of_def1 (hX : CxOk X) {f g : FuncId} {fn gn : Func} {c : Code} {args : List CV} {R : Hp → Prop} (hf : X.P.funcs[f]? = some fn) (hb : fn.body = some c) (hnm : (fn.name == "runtime.NumGoroutine") = false) (hl : args.length ≤ fn.ntmps) (hn : fn.results = #[])
    (hg : X.P.funcs[g]? = some gn) (hgb : gn.body.isSome = true) (hgn : (gn.name == "runtime.NumGoroutine") = false)
    (h : CW X.P X.W fn.ntmps none c (hold (defQ X.P X.W g R)) ⟨env0 args, []⟩ H) : CC X.P X.W f args H fun x H' => x = .ret (.tuple []) ∧ R H' := by
  refine CC.of_leave hX hf hb hnm hl h ?_
  rintro F e a w ⟨x, s', H', hx, hr, hd, hh, hxe, cap, hds, hdr⟩
  have hdf := hr.2
  rw [hds] at hdf
  obtain ⟨d, hdd, cv, av, hde, hcv, hav⟩ : ∃ d, a.defers = [d] ∧ ∃ cv av, d = { target := .fn (.func g) cv, args := av } ∧ RepL X.W cap cv.toList ∧ RepL X.W [] av.toList := by
    cases hx2 : a.defers with
    | nil => rw [hx2] at hdf; exact hdf.elim
    | cons d ds =>
      rw [hx2] at hdf
      obtain ⟨⟨cv, av, h1, h2, h3⟩, h4⟩ := hdf
      cases ds with
      | nil => exact ⟨d, rfl, cv, av, h1, h2, h3⟩
      | cons _ _ => exact h4.elim
  subst hde
  have hargs : RepL X.W cap (av ++ cv).toList := by
    rw [Array.toList_append]
    exact RepL.append hav hcv
  have hinv : (invoke (.fn (.func g) cv) av).run X.P w = .ok (.enter g (av ++ cv)) w := invoke_func (W := X.W) ⟨gn, hg, hgb, hgn⟩
  have hm : LeavesInM (fen none) 0 X.P fn a.tmps (liftR X.W F fun x H' => x = .ret (.tuple []) ∧ R H') a.defers .returning w := by
    rw [hdd]
    refine ⟨by simp, .inr ⟨by simp [fen], _, _, _, _, rfl, hinv, fun _ _ => trivial, ?_⟩⟩
    refine CallsDIn.mono (hdr F _ w hd hargs hh) ?_
    rintro e u' w2 ⟨v, rfl, rfl, H2, hd2, hh2, hR⟩
    exact ⟨.tuple #[], res_none hn, .ret (.tuple []), H2, .tuple [] #[] rfl (by simp), hd2, hh2, rfl, hR⟩
  rcases hxe with rfl | rfl <;> cases e <;> simp only [RepX] at hx
  · exact hm
  · exact hm
end
end Go.Cl
set_option linter.unusedSimpArgs false
set_option linter.unusedVariables false
namespace Go.Cl.Gd
open Go.Proofs
variable {W : World} {G : Nat → CV}
set_option maxRecDepth 8000
theorem sorted_c (hX : CxOk (cx W G)) (l : List Int) (r c : Nat) (ex : List CV) (hl : l.length ≤ 1000000) (hc : l.length ≤ c) (H : Hp) (hr : H r = some (.cells (nums l ex))) :
    CC Tryz.prog W 82 [.ref r 0 l.length c] H fun x H' => ∃ L ex', List.Perm L l ∧ L.Pairwise (· ≤ ·) ∧ x = .ret (.ref r 0 (compL L).length c) ∧ H' = H.set r (.cells (nums (compL L) ex')) := by
  refine CC.of_ev hX mixed d82 Tryz.func82 rfl rfl (Nat.le_of_ble_eq_true rfl) d82_ok ?_
  simp [Tryz.f82, d82]
  refine (sortAny_c hX l r c ex hl H hr).k ?_
  rintro x H1 ⟨rfl, L, hp, hs, rfl⟩
  simp
  have hLl := hp.length_eq
  have hcm := compact_c hX L r c ex (by omega) (by omega) (H.set r (.cells (nums L ex))) set_at
  rw [hLl] at hcm
  refine hcm.k ?_
  rintro x H2 ⟨ex', rfl, rfl⟩
  simp
  exact ⟨L, hp, hs, rfl, ex', rfl⟩
theorem sorted_nil (hX : CxOk (cx W G)) (H : Hp) : CC Tryz.prog W 82 [.nilsl] H fun x H' => x = .ret .nilsl ∧ H' = H := by
  refine CC.of_ev hX mixed d82 Tryz.func82 rfl rfl (Nat.le_of_ble_eq_true rfl) d82_ok ?_
  simp [Tryz.f82, d82]
  refine (sort_nil hX H).k ?_
  rintro x H1 ⟨rfl, rfl⟩
  simp
  refine (compact_nil hX H1).k ?_
  rintro x H2 ⟨rfl, rfl⟩
  simp
theorem goes_c (hX : CxOk (cx W G)) (e : UEnd) (H : Hp) : CC Tryz.prog W 57 [.agg (endC e)] H fun x H' => ∃ v, x = .ret v ∧ Own H H' v 1 (ints (goesL e)) := by
  refine CC.of_cw hX Tryz.func57 rfl rfl (Nat.le_of_ble_eq_true rfl) ?_
  refine CW.walk hX mixed d57 rfl ?_
  simp [endC]
  intro q1 hq1
  have hle : Le H (H.set q1 (.cells [ci e.kind, ci e.a, ci e.to, ci e.els])) := Le.set_new hq1
  refine CW.cut (fun s' H' => e.kind ≠ 1 ∧ e.kind ≠ 2 ∧ s'.ds = [] ∧ H' = H.set q1 (.cells [ci e.kind, ci e.a, ci e.to, ci e.els])) ?_ ?_
  · refine CW.walk1 hX mixed d57 rfl ?_
    by_cases h1 : e.kind = 1
    · simp [h1, cfill]
      intro r hq hq2 hr
      rw [h1] at hle
      have hr' : (H.set q1 (.cells [ci 1, ci e.a, ci e.to, ci e.els])) r = none := by simp [Hp.set, hq, hq2, hr]
      refine ⟨hle.trans (Le.set_new hr'), by simp [ints], .inr ⟨r, 1, [], by simp [goesL, h1, ints], hle.none hr', by simp [goesL, h1, ints], by simp [goesL, h1, ints], by simp [goesL, h1, ints]⟩⟩
    · by_cases h2 : e.kind = 2
      · simp [h2, cfill]
        intro r hq hq2 hr
        rw [h2] at hle
        have hr' : (H.set q1 (.cells [ci 2, ci e.a, ci e.to, ci e.els])) r = none := by simp [Hp.set, hq, hq2, hr]
        refine ⟨hle.trans (Le.set_new hr'), by simp [ints], .inr ⟨r, 2, [], by simp [goesL, h2, ints], hle.none hr', by simp [goesL, h2, ints], by simp [goesL, h2, ints], by simp [goesL, h2, ints]⟩⟩
      · simp [h1, h2]
  rintro ⟨en, ds⟩ H1 ⟨h1, h2, rfl, rfl⟩
  refine CW.walk1 hX mixed d57 rfl ?_
  simp
  simp [goesL, h1, h2, ints]
  exact Own.nil hle
structure exI (H : Hp) (k : UBlk) (d : Nat) (m : Nat) (s' : CA) (H' : Hp) : Prop where
  ex : ∃ i i9 v, m = k.ops.length - i ∧ i ≤ k.ops.length ∧ s'.env 3 = v ∧ s'.env 7 = .sl 7 (k.ops.map opC) ∧ s'.env 8 = .int .i64 k.ops.length ∧ s'.env 9 = .int .i64 i9 ∧ i9 + d = i ∧ s'.ds = [] ∧ Own H H' v 1 (ints (((k.ops.take i).filter fun o => decide (o.kind = 21)).map fun o => o.n))
theorem exits_c (hX : CxOk (cx W G)) (k : UBlk) (hk : k.ops.length ≤ 100000) (H : Hp) : CC Tryz.prog W 58 [.agg (blkC k)] H fun x H' => ∃ v, x = .ret v ∧ Own H H' v 1 (ints (exitsL k)) := by
  refine CC.of_cw hX Tryz.func58 rfl rfl (Nat.le_of_ble_eq_true rfl) ?_
  refine CW.walk hX mixed d58 rfl ?_
  simp [blkC]
  intro q1 hq1
  refine CW.walk hX mixed d58 rfl ?_
  simp
  have hle : Le H (H.set q1 (.cells (blkC k))) := Le.set_new hq1
  refine CW.cut (exI H k 0 0) ?_ ?_
  · refine CW.walk hX mixed d58 rfl ?_
    simp
    refine CW.block ?_
    refine CW.loop (exI H k 0) ?_ (m := k.ops.length) ⟨0, 0, .nilsl, rfl, by omega, by simp, by simp, by simp, by simp, rfl, rfl, by simpa [ints, blkC] using Own.nil hle⟩
    rintro m ⟨e, ds⟩ H1 ⟨i, i9, v, rfl, hi, e3, e7, e8, e9, hi9, rfl, hown⟩
    obtain rfl : i = i9 := by omega
    dsimp only at e3 e7 e8 e9
    by_cases hil : i < k.ops.length
    rotate_left
    · refine CW.walk hX mixed d58 rfl ?_
      simp [e8, e9, hil]
      refine CW.walk hX mixed d58 rfl ?_
      simp
      exact ⟨i, i, v, by omega, hi, by simp [e3], by simp [e7], by simp [e8], by simp [e9], rfl, rfl, hown⟩
    refine CW.walk hX mixed d58 rfl ?_
    simp [e8, e9, hil]
    refine CW.walk hX mixed d58 rfl ?_
    simp
    obtain ⟨o, hoe⟩ : ∃ o, k.ops[i] = o := ⟨_, rfl⟩
    have htk : k.ops.take (i + 1) = k.ops.take i ++ [o] := by rw [List.take_succ_eq_append_getElem hil, hoe]
    have hln : ((k.ops.take i).filter fun o => decide (o.kind = 21)).length ≤ i := by
      have := List.length_filter_le (fun o : UOp => decide (o.kind = 21)) (k.ops.take i)
      rw [List.length_take] at this
      omega
    refine CW.cut (exI H k 1 (k.ops.length - (i + 1))) ?_ ?_
    · refine CW.block ?_
      refine CW.walk hX mixed d58 rfl ?_
      simp [e7, e9, hil, hoe, opC]
      intro q5 hq5
      have hown5 := hown.more (o := .cells (opC o)) hq5
      simp only [opC] at hown5
      have m5 : (H1.set q5 (.cells [ci o.kind, ci o.dst, ci o.a, ci o.b, ci o.c, ci o.n, ci o.guard])) q5 = some (.cells [ci o.kind, ci o.dst, ci o.a, ci o.b, ci o.c, ci o.n, ci o.guard]) := set_at
      generalize H1.set q5 _ = H5 at hown5 m5 ⊢
      refine CW.walk1 hX mixed d58 rfl ?_
      by_cases h21 : o.kind = 21
      · simp [h21, m5, e3, cfill, -vcAppend]
        intro q hq
        refine (hown5.more hq).append2 (ys := [[ci o.n]]) (by simp) (by simp [ints]; omega) (src_one set_at rfl) fun v' H4 how4 _ => ?_
        simp
        exact ⟨i + 1, i, v', rfl, by omega, by simp, by simp [e7], by simp [e8], by simp [e9], rfl, rfl, by rw [htk, List.filter_append]; simpa [h21, ints] using how4⟩
      · simp [h21, m5]
        exact ⟨i + 1, i, v, rfl, by omega, by simp [e3], by simp [e7], by simp [e8], by simp [e9], rfl, rfl, by rw [htk, List.filter_append]; simpa [h21, ints] using hown5⟩
    · clear e3 e7 e8 e9 hown
      clear e v
      rintro ⟨e, ds⟩ H2 ⟨i2, i9, v, hm, hi2, e3, e7, e8, e9, hi9, rfl, hown⟩
      dsimp only at e3 e7 e8 e9
      obtain rfl : i2 = i + 1 := by omega
      obtain rfl : i = i9 := by omega
      refine CW.walk1 hX mixed d58 rfl ?_
      simp [e9]
      exact ⟨k.ops.length - (i + 1), by omega, i + 1, i + 1, v, rfl, hi2, by simp [e3], by simp [e7], by simp [e8], by simp; rw [wrapI (by omega) (by omega)], rfl, rfl, hown⟩
  rintro ⟨e, ds⟩ H2 ⟨i, i9, v, hm, hi, e3, e7, e8, e9, hi9, rfl, hown⟩
  dsimp only at e3
  obtain rfl : i = k.ops.length := by omega
  rw [List.take_length] at hown
  refine CW.walk1 hX mixed d58 rfl ?_
  simp [e3]
  exact hown
theorem grow_c (hX : CxOk (cx W G)) (n : Nat) (hn : n ≤ 1000000) (H : Hp) : CC Tryz.prog W 107 [.nilsl, .int .i64 n] H fun x H' => ∃ v, x = .ret v ∧ Own H H' v 1 [] := by
  refine CC.of_cw hX Tryz.func107 rfl rfl (Nat.le_of_ble_eq_true rfl) ?_
  refine CW.walk hX mixed d107 rfl ?_
  simp
  refine CW.walk hX mixed d107 rfl ?_
  simp [show ¬ (n : Int) < 0 by omega]
  refine CW.walk hX mixed d107 rfl ?_
  have hw0 : IntKind.i64.wrap 0 = 0 := wrapI (by omega) (by omega)
  have hwn : IntKind.i64.wrap (n : Int) = n := wrapI (by omega) (by omega)
  simp [hw0, hwn]
  refine ⟨fun h => ⟨by omega, by show (n : Int) * 8 ≤ _; omega, fun r c zs hr hc hz => ?_⟩, fun h => ?_⟩
  · simp
    refine CW.walk1 hX mixed d107 rfl ?_
    simp
    exact ⟨Le.set_new hr, by simp, .inr ⟨r, c, zs, rfl, hr, by simp, by simpa using hz, by simp⟩⟩
  · refine CW.walk1 hX mixed d107 rfl ?_
    simp
    exact Own.nil (Le.refl _)
theorem src_slF {H : Hp} {v : CV} {l : List Int} (h : SlF H v l) : ∀ K' : Nat → List CV → Prop, K' (ints l).length (ints l).flatten → srcC H 1 v K' := by
  intro K' hK
  rcases h with ⟨rfl, rfl⟩ | ⟨r, c, cs, rfl, h2, h3⟩
  · exact hK
  · have hlen : l.length ≤ cs.length := by
      rcases Nat.eq_zero_or_pos l.length with h0 | h0
      · omega
      · have := (List.getElem?_eq_some_iff.1 (h3 (l.length - 1) _ (List.getElem?_eq_getElem (by omega)))).1
        omega
    refine ⟨cs, h2, by omega, ?_⟩
    have : (cs.drop 0).take (l.length * 1) = (ints l).flatten := by
      rw [List.drop_zero, Nat.mul_one, ints_flat]
      apply List.ext_getElem?
      intro k
      rw [List.getElem?_take]
      split
      · rename_i hk
        rw [h3 k _ (List.getElem?_eq_getElem hk), List.getElem?_map, List.getElem?_eq_getElem hk]
        rfl
      · rename_i hk
        rw [List.getElem?_eq_none (by simpa using hk)]
    rw [this]
    simpa [ints_len] using hK
def totL (ls : List (List Int)) (i : Nat) : Nat := (ls.take i).flatten.length
structure ccI (B : Hp) (q n c : Nat) (ls : List (List Int)) (d : Nat) (m : Nat) (s' : CA) (H' : Hp) : Prop where
  ex : ∃ i i11 : Nat, m = n - i ∧ i ≤ n ∧ s'.env 0 = .ref q 0 n c ∧ s'.env 3 = .int .i64 (totL ls i) ∧ s'.env 9 = .ref q 0 n c ∧ s'.env 10 = .int .i64 n ∧ s'.env 11 = .int .i64 i11 ∧ i11 + d = i ∧ s'.ds = [] ∧ H' = B
structure ccJ (B : Hp) (q n c : Nat) (ls : List (List Int)) (d : Nat) (m : Nat) (s' : CA) (H' : Hp) : Prop where
  ex : ∃ i i27 v, m = n - i ∧ i ≤ n ∧ s'.env 6 = v ∧ s'.env 25 = .ref q 0 n c ∧ s'.env 26 = .int .i64 n ∧ s'.env 27 = .int .i64 i27 ∧ i27 + d = i ∧ s'.ds = [] ∧ Own B H' v 1 (ints (ls.take i).flatten)
theorem concat_c (hX : CxOk (cx W G)) (q c : Nat) (ls : List (List Int)) (vs : List CV) (hls : ls.flatten.length ≤ 100000) (hn : ls.length ≤ 100) {H : Hp} (hq : H q = some (.cells vs)) (hv : ∀ (i : Nat) l, ls[i]? = some l → ∃ v, vs[i]? = some v ∧ SlF H v l) :
    CC Tryz.prog W 83 [.ref q 0 ls.length c] H fun x H' => ∃ v, x = .ret v ∧ Own H H' v 1 (ints ls.flatten) := by
  have hbd : ∀ i, (ls.take i).flatten.length ≤ 100000 := fun i => by
    have h1 : ls.flatten = (ls.take i).flatten ++ (ls.drop i).flatten := by rw [← List.flatten_append, List.take_append_drop]
    have := congrArg List.length h1
    rw [List.length_append] at this
    omega
  have hstep : ∀ i l, ls[i]? = some l → (ls.take (i + 1)).flatten = (ls.take i).flatten ++ l := fun i l h => by
    obtain ⟨hi, he⟩ := List.getElem?_eq_some_iff.1 h
    rw [List.take_succ_eq_append_getElem hi, he, List.flatten_append]
    simp
  have ht0 : totL ls 0 = 0 := by simp [totL]
  have htb : ∀ i, totL ls i ≤ 100000 := hbd
  have hts : ∀ i l, ls[i]? = some l → totL ls (i + 1) = totL ls i + l.length := fun i l h => by simp only [totL]; rw [hstep i l h, List.length_append]
  refine CC.of_cw hX Tryz.func83 rfl rfl (Nat.le_of_ble_eq_true rfl) ?_
  refine CW.walk hX mixed d83 rfl ?_
  simp
  refine CW.walk hX mixed d83 rfl ?_
  simp
  refine CW.cut (ccI H q ls.length c ls 0 0) ?_ ?_
  · refine CW.walk hX mixed d83 rfl ?_
    simp
    refine CW.block ?_
    refine CW.loop (ccI H q ls.length c ls 0) ?_ (m := ls.length) ⟨0, 0, rfl, by omega, by simp, by simp [ht0], by simp, by simp, by simp, rfl, rfl, rfl⟩
    rintro m ⟨e, ds⟩ H1 ⟨i, i11, rfl, hi, e0, e3, e9, e10, e11, hi11, rfl, rfl⟩
    obtain rfl : i = i11 := by omega
    dsimp only at e0 e3 e9 e10 e11
    by_cases hil : i < ls.length
    rotate_left
    · refine CW.walk hX mixed d83 rfl ?_
      simp [e10, e11, hil]
      refine CW.walk hX mixed d83 rfl ?_
      simp
      exact ⟨i, i, by omega, hi, by simp [e0], by simp [e3], by simp [e9], by simp [e10], by simp [e11], rfl, rfl, rfl⟩
    refine CW.walk hX mixed d83 rfl ?_
    simp [e10, e11, hil]
    refine CW.walk hX mixed d83 rfl ?_
    simp
    obtain ⟨l, hl⟩ : ∃ l, ls[i]? = some l := ⟨_, List.getElem?_eq_getElem hil⟩
    obtain ⟨v, hvi, hvl⟩ := hv i l hl
    have hst := hts i l hl
    have hb1 := htb (i + 1)
    have hb0 := htb i
    have hln : (v = .nilsl ∧ l.length = 0) ∨ ∃ r c, v = .ref r 0 l.length c := by
      rcases hvl with ⟨h1, h2⟩ | ⟨r, c, cs, h1, _⟩
      · exact .inl ⟨h1, by rw [h2]; rfl⟩
      · exact .inr ⟨r, _, h1⟩
    refine CW.cut (ccI H1 q ls.length c ls 1 (ls.length - (i + 1))) ?_ ?_
    · refine CW.block ?_
      refine CW.walk hX mixed d83 rfl ?_
      simp [e9, e11, hil, hq, hvi]
      refine CW.cut (fun s' H' => s'.env 0 = .ref q 0 ls.length c ∧ s'.env 3 = .int .i64 (totL ls (i + 1)) ∧ s'.env 9 = .ref q 0 ls.length c ∧ s'.env 10 = .int .i64 ls.length ∧ s'.env 11 = .int .i64 i ∧ s'.ds = [] ∧ H' = H1) ?_ ?_
      · refine CW.walk1 hX mixed d83 rfl ?_
        simp
        refine lenK_of hln ?_
        simp [e0, e3, e9, e10, e11]
        rw [hst, wrapI (by omega) (by omega)]
        simp
      rintro ⟨e', ds⟩ H2 ⟨e0, e3, e9, e10, e11, rfl, rfl⟩
      dsimp only at e0 e3 e9 e10 e11
      refine CW.walk1 hX mixed d83 rfl ?_
      simp [e3, show ¬ ((totL ls (i + 1) : Nat) : Int) < 0 by omega]
      exact ⟨i + 1, i, rfl, by omega, by simp [e0], by simp [e3], by simp [e9], by simp [e10], by simp [e11], rfl, rfl, rfl⟩
    · clear e0 e3 e9 e10 e11
      clear e
      rintro ⟨e, ds⟩ H2 ⟨i2, i11, hm, hi2, e0, e3, e9, e10, e11, hi11, rfl, rfl⟩
      dsimp only at e0 e3 e9 e10 e11
      obtain rfl : i2 = i + 1 := by omega
      obtain rfl : i = i11 := by omega
      refine CW.walk1 hX mixed d83 rfl ?_
      simp [e11]
      exact ⟨ls.length - (i + 1), by omega, i + 1, i + 1, rfl, hi2, by simp [e0], by simp [e3], by simp [e9], by simp [e10], by simp; rw [wrapI (by omega) (by omega)], rfl, rfl, rfl⟩
  rintro ⟨e, ds⟩ H1 ⟨i, i11, hm, hi, e0, e3, e9, e10, e11, hi11, rfl, rfl⟩
  obtain rfl : i = ls.length := by omega
  dsimp only at e0 e3
  have hb0 := htb ls.length
  refine CW.walk hX mixed d83 rfl ?_
  simp [e3]
  refine (grow_c hX (totL ls ls.length) (by omega) H1).k ?_
  rintro x H2 ⟨v0, rfl, hown0⟩
  simp
  refine CW.cut (ccJ H1 q ls.length c ls 0 0) ?_ ?_
  · refine CW.walk hX mixed d83 rfl ?_
    simp [e0]
    refine CW.block ?_
    refine CW.loop (ccJ H1 q ls.length c ls 0) ?_ (m := ls.length) ⟨0, 0, v0, rfl, by omega, by simp, by simp, by simp, by simp, rfl, rfl, by simpa [ints] using hown0⟩
    clear e0 e3 e9 e10 e11 hown0
    clear e v0 H2
    rintro m ⟨e, ds⟩ H2 ⟨i, i27, v0, rfl, hi, e6, e25, e26, e27, hi27, rfl, hown⟩
    obtain rfl : i = i27 := by omega
    dsimp only at e6 e25 e26 e27
    by_cases hil : i < ls.length
    rotate_left
    · refine CW.walk hX mixed d83 rfl ?_
      simp [e26, e27, hil]
      refine CW.walk hX mixed d83 rfl ?_
      simp
      exact ⟨i, i, v0, by omega, hi, by simp [e6], by simp [e25], by simp [e26], by simp [e27], rfl, rfl, hown⟩
    refine CW.walk hX mixed d83 rfl ?_
    simp [e26, e27, hil]
    refine CW.walk hX mixed d83 rfl ?_
    simp
    obtain ⟨l, hl⟩ : ∃ l, ls[i]? = some l := ⟨_, List.getElem?_eq_getElem hil⟩
    obtain ⟨v, hvi, hvl⟩ := hv i l hl
    have hst := hstep i l hl
    have hb1 := hbd (i + 1)
    have hq2 := hown.le _ _ hq
    have hvl2 := hvl.mono hown.le
    refine CW.cut (ccJ H1 q ls.length c ls 1 (ls.length - (i + 1))) ?_ ?_
    · refine CW.block ?_
      refine CW.walk hX mixed d83 rfl ?_
      simp [e25, e27, hil, hq2, hvi]
      refine CW.walk1 hX mixed d83 rfl ?_
      simp [e6, -vcAppend]
      refine hown.append2 (ys := ints l) (fun e he => by simp only [ints, List.mem_map] at he; obtain ⟨_, _, rfl⟩ := he; rfl) ?_ (src_slF hvl2) fun v' H4 how4 _ => ?_
      · have h9 : (ints (ls.take i).flatten).length + (ints l).length = (ls.take (i + 1)).flatten.length := by rw [hst, List.length_append, ints_len, ints_len]
        show ((ints (ls.take i).flatten).length + (ints l).length) * 8 ≤ _
        rw [h9]
        omega
      · simp
        exact ⟨i + 1, i, v', rfl, by omega, by simp, by simp [e25], by simp [e26], by simp [e27], rfl, rfl, by rw [hst]; simpa [ints] using how4⟩
    · clear e6 e25 e26 e27 hown hq2 hvl2
      clear e v0 H2
      rintro ⟨e, ds⟩ H2 ⟨i2, i27, v0, hm, hi2, e6, e25, e26, e27, hi27, rfl, hown⟩
      dsimp only at e6 e25 e26 e27
      obtain rfl : i2 = i + 1 := by omega
      obtain rfl : i = i27 := by omega
      refine CW.walk1 hX mixed d83 rfl ?_
      simp [e27]
      exact ⟨ls.length - (i + 1), by omega, i + 1, i + 1, v0, rfl, hi2, by simp [e6], by simp [e25], by simp [e26], by simp; rw [wrapI (by omega) (by omega)], rfl, rfl, hown⟩
  clear e0 e3 e9 e10 e11 hown0
  clear e v0 H2
  rintro ⟨e, ds⟩ H2 ⟨i, i27, v0, hm, hi, e6, e25, e26, e27, hi27, rfl, hown⟩
  dsimp only at e6
  obtain rfl : i = ls.length := by omega
  rw [List.take_length] at hown
  refine CW.walk1 hX mixed d83 rfl ?_
  simp [e6]
  exact hown
end Go.Cl.Gd
set_option linter.unusedSimpArgs false
set_option linter.unusedVariables false
namespace Go.Cl.Gd
open Go.Proofs
variable {W : World} {G : Nat → CV}
set_option maxRecDepth 8000
theorem lt_toN2 {x n : Int} (h : 0 ≤ x ∧ x < n) : 0 ≤ x ∧ x < n.toNat := by omega
theorem fzTwo {H : Hp} {a b a' b' : CV} (ha : Fz H a a') (hb : Fz H b b') : Fz H (.agg [a, b]) (.agg [a', b']) := by
  refine .agg _ _ rfl (fun j => [a, b].getD j .any) (fun j hj => ?_) (fun j x hx => ?_)
  · have : j < 2 := hj
    rcases j with _|_|j <;> first | rfl | omega
  · rcases j with _|_|j
    · simp at hx; subst hx; exact ha
    · simp at hx; subst hx; exact hb
    · simp at hx
theorem any_h (hX : CxOk (cx W G)) (u : UUnit) (hu : wfU u = true) (k : UBlk) {b : Nat} (hk : u.blocks[b]? = some k) (p c : Nat → Bool) (cn rr rc : Nat) {H : Hp} (hr : H rr = some (.cells (boolC u.regs.toNat p))) (hc : H rc = some (.cells (boolC cn c))) :
    CC Tryz.prog W 80 [.agg [.ref rr 0 u.regs.toNat u.regs.toNat, .ref rc 0 cn cn], .agg (blkC k)] H fun x H' => x = .ret (.bool (mayAny p k)) ∧ H' = H := by
  obtain ⟨f1, f2, f3, f4, f5, f6, f7, f8, f9, f10, f11⟩ := wfU_facts hu
  obtain ⟨hct, hlen, hwo, hwe⟩ := wfB_facts hu hk
  obtain ⟨g1, g2, g3, g4, g5⟩ := wfE_facts hwe
  have hops : ∀ o ∈ k.ops, (o.guard ≠ -1 → 0 ≤ o.guard ∧ o.guard < u.regs.toNat) ∧ (o.kind = 20 ∨ o.kind = 21 ∨ o.kind = 22 → 0 ≤ o.a ∧ o.a < u.regs.toNat) := fun o ho => by
    obtain ⟨w1, w2, w3, w4, w5, w6, w7, w8, w9⟩ := wfO_facts (hwo o ho) f3
    exact ⟨fun q => lt_toN2 (w5 q), fun q => lt_toN2 (w8 q)⟩
  refine (CC.freeze (args' := [.agg [.sl 1 (boolS u.regs.toNat p), .sl 1 (boolS cn c)], .agg (blkC k)]) (R := fun v => v = .bool (mayAny p k)) (by rfl) (fz2' (fzTwo (fz_bool hr (Nat.le_refl _)) (fz_bool hc (Nat.le_refl _))) _) (by rintro v rfl; simp [plainV]) fun w hw => ?_).mono ?_
  · exact (any55_c (W := w) (CxOk.later hX hw) u.regs.toNat (.sl 1 (boolS cn c)) ⟨rfl, rfl⟩ p k hlen hops (fun q => lt_toN2 (g3 q)) _).mono fun x H' ⟨h1, _⟩ => ⟨_, h1, rfl⟩
  · rintro x H' ⟨v, rfl, rfl, rfl⟩
    exact ⟨rfl, rfl⟩
theorem caught_c (hX : CxOk (cx W G)) (u : UUnit) (hu : wfU u = true) (k : UBlk) {b : Nat} (hk : u.blocks[b]? = some k) (p c : Nat → Bool) (cn rr rc : Nat) {H : Hp} (hr : H rr = some (.cells (boolC u.regs.toNat p))) (hc : H rc = some (.cells (boolC cn c))) :
    CC Tryz.prog W 59 [.agg (blkC k), .agg [.ref rr 0 u.regs.toNat u.regs.toNat, .ref rc 0 cn cn]] H fun x H' => ∃ v, x = .ret v ∧ Own H H' v 1 (ints (caughtL p k)) := by
  refine CC.of_cw hX Tryz.func59 rfl rfl (Nat.le_of_ble_eq_true rfl) ?_
  refine CW.walk hX mixed d59 rfl ?_
  simp [blkC]
  intro q1 hq1 q2 h21 h12 hq2
  have hle : Le H ((H.set q1 (.cells (blkC k))).set q2 (.cells [.ref rr 0 u.regs.toNat u.regs.toNat, .ref rc 0 cn cn])) := (Le.set_new hq1).trans (Le.set_new (by simp [h21, hq2]))
  have hany := any_h hX u hu k hk p c cn rr rc (hle _ _ hr) (hle _ _ hc)
  simp only [blkC, blkT] at hany hle
  refine CW.cut (fun s' H' => caughtL p k = [] ∧ s'.ds = [] ∧ Le H H') ?_ ?_
  · refine CW.walk hX mixed d59 rfl ?_
    by_cases h0 : 0 ≤ k.catch_
    · simp [h0, h12]
      refine hany.k ?_
      rintro x H2 ⟨rfl, rfl⟩
      cases hm : mayAny p k with
      | true =>
        simp
        refine CW.walk1 hX mixed d59 rfl ?_
        simp [cfill, h12]
        intro q h4 h5 h6 h7 hq
        have hq' : ((H.set q1 (.cells (blkC k))).set q2 (.cells [.ref rr 0 u.regs.toNat u.regs.toNat, .ref rc 0 cn cn])) q = none := by simp [h4, h5, h6, h7, hq]
        simp only [blkC, blkT] at hq'
        have e : caughtL p k = [k.catch_] := by simp [caughtL, h0, hm]
        refine ⟨hle.trans (Le.set_new hq'), by simp [e, ints], .inr ⟨q, 1, [], by simp [e, ints], hq, by simp [e, ints], by simp [e, ints], by simp [e, ints]⟩⟩
      | false =>
        simp
        refine CW.walk1 hX mixed d59 rfl ?_
        simp
        exact ⟨by simp [caughtL, hm], hle⟩
    · simp [h0, h12]
      refine CW.walk1 hX mixed d59 rfl ?_
      simp
      exact ⟨by simp [caughtL, h0], hle⟩
  rintro ⟨en, ds⟩ H1 ⟨e, rfl, hle1⟩
  refine CW.walk1 hX mixed d59 rfl ?_
  simp [e, ints]
  exact Own.nil hle1
/-- A list whose first i and last i places have been turned round. -/
def revF (l : List Int) (i : Nat) : Nat → Int := fun j => if j < i ∨ l.length - 1 - j < i then l.getD (l.length - 1 - j) 0 else l.getD j 0
theorem revF_zero {l : List Int} {ex : List CV} : nums l ex = genC l.length (revF l 0) ++ ex := by
  simp only [nums]
  congr 1
  apply List.ext_getElem?
  intro j
  rcases Nat.lt_or_ge j l.length with h | h
  · rw [genC_get h, List.getElem?_map, List.getElem?_eq_getElem h]
    simp [revF, List.getD_eq_getElem?_getD, h]
  · rw [List.getElem?_eq_none (by simpa using h), List.getElem?_eq_none (by simpa [genC_len] using h)]
theorem revF_end {l : List Int} {ex : List CV} {i : Nat} (hi : l.length ≤ 2 * i + 1) : genC l.length (revF l i) ++ ex = nums l.reverse ex := by
  simp only [nums]
  congr 1
  apply List.ext_getElem?
  intro j
  rcases Nat.lt_or_ge j l.length with h | h
  · rw [genC_get h, List.getElem?_map, List.getElem?_reverse h, List.getElem?_eq_getElem (by omega)]
    simp only [revF, List.getD_eq_getElem?_getD, Option.map_some, Option.some.injEq]
    split
    · rw [List.getElem?_eq_getElem (by omega)]; rfl
    · have hj : l.length - 1 - j = j := by omega
      have : l[l.length - 1 - j] = l[j] := by congr 1
      rw [this, List.getElem?_eq_getElem h]; rfl
  · rw [List.getElem?_eq_none (by rw [genC_len]; exact h), List.getElem?_eq_none (by simpa using h)]
theorem genX_get {n : Nat} {f : Nat → Int} {ex : List CV} {i : Nat} (h : i < n) : (genC n f ++ ex)[i]? = some (ci (f i)) := by
  rw [List.getElem?_append_left (by rw [genC_len]; exact h), genC_get h]
theorem genX_put {n : Nat} {f : Nat → Int} {ex : List CV} {i : Nat} {v : Int} (h : i < n) : (genC n f ++ ex).take i ++ ci v :: (genC n f ++ ex).drop (i + 1) = genC n (fun x => if x = i then v else f x) ++ ex := by
  rw [← genC_put h, List.take_append_of_le_length (by rw [genC_len]; omega), List.drop_append_of_le_length (by rw [genC_len]; omega)]
  simp
structure rvI (l : List Int) (r c : Nat) (ex : List CV) (H : Hp) (m : Nat) (s' : CA) (H' : Hp) : Prop where
  ex : ∃ i : Nat, m = l.length - i ∧ 2 * i ≤ l.length ∧ s'.env 0 = .ref r 0 l.length c ∧ s'.env 2 = .int .i64 i ∧ s'.env 3 = .int .i64 ((l.length : Int) - 1 - i) ∧ s'.ds = [] ∧ H' = H.set r (.cells (genC l.length (revF l i) ++ ex))
theorem reverse_c (hX : CxOk (cx W G)) (l : List Int) (r c : Nat) (ex : List CV) (hl : l.length ≤ 1000000) (H : Hp) (hr : H r = some (.cells (nums l ex))) :
    CC Tryz.prog W 110 [.ref r 0 l.length c] H fun x H' => x = .ret (.tuple []) ∧ H' = H.set r (.cells (nums l.reverse ex)) := by
  refine CC.of_cw hX Tryz.func110 rfl rfl (Nat.le_of_ble_eq_true rfl) ?_
  refine CW.walk hX mixed d110 rfl ?_
  simp
  rw [wrapI (by omega) (by omega)]
  refine CW.block ?_
  refine CW.loop (rvI l r c ex H) ?_ (m := l.length) ⟨0, by simp, by omega, by simp, by simp, by simp, rfl, by rw [← revF_zero, hset_self hr]⟩
  rintro m ⟨e, ds⟩ H1 ⟨i, rfl, hi, e0, e2, e3, rfl, rfl⟩
  dsimp only at e0 e2 e3
  by_cases hil : (i : Int) < (l.length : Int) - 1 - i
  rotate_left
  · refine CW.walk hX mixed d110 rfl ?_
    simp [e2, e3, hil]
    rw [revF_end (by omega)]
  have hin : i < l.length := by omega
  have hjn : l.length - 1 - i < l.length := by omega
  refine CW.walk hX mixed d110 rfl ?_
  simp [e2, e3, hil]
  refine CW.cut (fun s' H' => s'.env 0 = .ref r 0 l.length c ∧ s'.env 2 = .int .i64 i ∧ s'.env 3 = .int .i64 ((l.length : Int) - 1 - i) ∧ s'.ds = [] ∧ H' = H.set r (.cells (genC l.length (revF l (i + 1)) ++ ex))) ?_ ?_
  · refine CW.block ?_
    refine CW.walk1 hX mixed d110 rfl ?_
    have ej : ((l.length : Int) - 1 - i) = ((l.length - 1 - i : Nat) : Int) := by omega
    rw [ej] at e3 ⊢
    have gi := genX_get (f := revF l i) (ex := ex) hin
    have gj := genX_get (f := revF l i) (ex := ex) hjn
    simp [d110, e0, e2, e3, hin, hjn, gi, gj]
    rw [genX_put hin, genX_put hjn, genC_len]
    refine ⟨by omega, by omega, ?_⟩
    refine congrArg (fun x => H.set r (.cells (x ++ ex))) ?_
    simp only [genC]
    refine List.map_congr_left fun j hj => ?_
    rw [List.mem_range] at hj
    refine congrArg ci ?_
    simp only [revF]
    by_cases h1 : j = l.length - 1 - i
    · subst h1
      simp only [if_true]
      rw [if_neg (by omega), if_pos (by omega)]
      congr 1
      omega
    · rw [if_neg h1]
      by_cases h2 : j = i
      · subst h2
        rw [if_pos rfl, if_neg (by omega), if_pos (by omega)]
      · rw [if_neg h2]
        by_cases h3 : j < i ∨ l.length - 1 - j < i
        · rw [if_pos h3, if_pos (by omega)]
        · rw [if_neg h3, if_neg (by omega)]
  rintro ⟨e', ds⟩ H2 ⟨e0, e2, e3, rfl, rfl⟩
  dsimp only at e0 e2 e3
  refine CW.walk1 hX mixed d110 rfl ?_
  simp [e2, e3]
  rw [wrapI (by omega) (by omega), wrapI (by omega) (by omega)]
  exact ⟨l.length - (i + 1), by omega, i + 1, rfl, by omega, by simp [e0], by simp, by simp; omega, rfl, rfl⟩
end Go.Cl.Gd
set_option linter.unusedSimpArgs false
set_option linter.unusedVariables false
namespace Go.Cl.Gd
open Go.Proofs
variable {W : World} {G : Nat → CV}
set_option maxRecDepth 8000
theorem vis_mono {N : Nat → List Nat} : ∀ (f b : Nat) (s : Nat → Bool) (out : List Nat) (x : Nat), s x = true → (vis N f b (s, out)).1 x = true := by
  intro f
  induction f with
  | zero => exact fun b s out x h => h
  | succ f ih =>
    have hL : ∀ (l : List Nat) (s : Nat → Bool) (out : List Nat) (x : Nat), s x = true → (visL N f l (s, out)).1 x = true := by
      intro l
      induction l with
      | nil => exact fun s out x h => h
      | cons k l ihl =>
        intro s out x h
        by_cases hk : s k = true
        · have e : visL N f (k :: l) (s, out) = visL N f l (s, out) := by simp [visL, hk]
          rw [e]
          exact ihl s out x h
        · have e : visL N f (k :: l) (s, out) = visL N f l (vis N f k (s, out)) := by simp [visL, hk]
          rw [e]
          exact ihl _ _ x (ih k s out x h)
    intro b s out x h
    exact hL (N b) (fun x => s x || x == b) out x (by simp [h])
theorem visL_mono {N : Nat → List Nat} (f : Nat) : ∀ (l : List Nat) (s : Nat → Bool) (out : List Nat) (x : Nat), s x = true → (visL N f l (s, out)).1 x = true := by
  intro l
  induction l with
  | nil => exact fun s out x h => h
  | cons k l ihl =>
    intro s out x h
    by_cases hk : s k = true
    · have e : visL N f (k :: l) (s, out) = visL N f l (s, out) := by simp [visL, hk]
      rw [e]
      exact ihl s out x h
    · have e : visL N f (k :: l) (s, out) = visL N f l (vis N f k (s, out)) := by simp [visL, hk]
      rw [e]
      exact ihl _ _ x (vis_mono f k s out x h)
theorem vis_len {N : Nat → List Nat} {n : Nat} (hN : ∀ b, b < n → ∀ k ∈ N b, k < n) : ∀ (f b : Nat) (s : Nat → Bool) (out : List Nat), b < n → s b = false → (vis N f b (s, out)).2.length + cnt n (vis N f b (s, out)).1 ≤ out.length + cnt n s := by
  intro f
  induction f with
  | zero => exact fun b s out _ _ => Nat.le_refl _
  | succ f ih =>
    have hL : ∀ (l : List Nat) (s : Nat → Bool) (out : List Nat), (∀ k ∈ l, k < n) → (visL N f l (s, out)).2.length + cnt n (visL N f l (s, out)).1 ≤ out.length + cnt n s := by
      intro l
      induction l with
      | nil => exact fun s out _ => Nat.le_refl _
      | cons k l ihl =>
        intro s out hl
        by_cases hk : s k = true
        · have e : visL N f (k :: l) (s, out) = visL N f l (s, out) := by simp [visL, hk]
          rw [e]
          exact ihl s out fun x hx => hl x (List.mem_cons_of_mem _ hx)
        · have e : visL N f (k :: l) (s, out) = visL N f l (vis N f k (s, out)) := by simp [visL, hk]
          rw [e]
          exact Nat.le_trans (ihl _ _ fun x hx => hl x (List.mem_cons_of_mem _ hx)) (ih k s out (hl k (by simp)) (by simpa using hk))
    intro b s out hb hs
    have h1 := hL (N b) (fun x => s x || x == b) out (hN b hb)
    have h2 := cnt_lt hb hs
    have e : vis N (f + 1) b (s, out) = ((visL N f (N b) (fun x => s x || x == b, out)).1, (visL N f (N b) (fun x => s x || x == b, out)).2 ++ [b]) := rfl
    rw [e]
    simp only [List.length_append, List.length_singleton]
    omega
theorem visL_len {N : Nat → List Nat} {n : Nat} (hN : ∀ b, b < n → ∀ k ∈ N b, k < n) (f : Nat) : ∀ (l : List Nat) (s : Nat → Bool) (out : List Nat), (∀ k ∈ l, k < n) → (visL N f l (s, out)).2.length + cnt n (visL N f l (s, out)).1 ≤ out.length + cnt n s := by
  intro l
  induction l with
  | nil => exact fun s out _ => Nat.le_refl _
  | cons k l ihl =>
    intro s out hl
    by_cases hk : s k = true
    · have e : visL N f (k :: l) (s, out) = visL N f l (s, out) := by simp [visL, hk]
      rw [e]
      exact ihl s out fun x hx => hl x (List.mem_cons_of_mem _ hx)
    · have e : visL N f (k :: l) (s, out) = visL N f l (vis N f k (s, out)) := by simp [visL, hk]
      rw [e]
      exact Nat.le_trans (ihl _ _ fun x hx => hl x (List.mem_cons_of_mem _ hx)) (vis_len hN f k s out (hl k (by simp)) (by simpa using hk))
theorem visL_snoc {N : Nat → List Nat} {f : Nat} {l : List Nat} {k : Nat} {s : (Nat → Bool) × List Nat} : visL N f (l ++ [k]) s = if (visL N f l s).1 k then visL N f l s else vis N f k (visL N f l s) := by
  simp only [visL]
  rw [List.foldl_append]
  rfl
def natL (l : List Nat) : List Int := l.map fun (x : Nat) => (x : Int)
theorem natL_len {l : List Nat} : (natL l).length = l.length := by simp [natL]
theorem natL_snoc {l : List Nat} {b : Nat} : natL (l ++ [b]) = natL l ++ [(b : Int)] := by simp [natL]
def VHp (B : Hp) (rs gp n : Nat) (v0 v1 v3 v4 : CV) (s : Nat → Bool) (vo : CV) : Hp := (B.set rs (.cells (boolC n s))).set gp (.cells [v0, v1, vo, v3, v4])
structure VH (B : Hp) (rs gp n : Nat) (v0 v1 v3 v4 : CV) (s : Nat → Bool) (out : List Nat) (H : Hp) : Prop where
  ex : ∃ vo, Own (VHp B rs gp n v0 v1 v3 v4 s vo) H vo 1 (ints (natL out))
structure VB (B : Hp) (rs gp n sb gb vb rn : Nat) (N : Nat → List Nat) (ns : List CV) : Prop where
  s : B sb = some (.cells [.ref rs 0 n n])
  g : B gb = some (.cells [.ptr gp 0])
  v : B vb = some (.cells [.func (.func 108) [] [.ptr sb 0, .ptr gb 0, .ptr vb 0]])
  nx : B rn = some (.cells ns)
  nn : ∀ b, b < n → ∃ v, ns[b]? = some v ∧ SlF B v (natL (N b))
  gn : B gp = none
  rn : B rs = none
  ne : rs ≠ gp
section
variable {B H : Hp} {rs gp n sb gb vb rn q : Nat} {N : Nat → List Nat} {ns : List CV} {v0 v1 v3 v4 vo : CV} {s : Nat → Bool} {out : List Nat} {o : Ob}
theorem VB.set (h : VB B rs gp n sb gb vb rn N ns) (hq : B q = none) (h1 : q ≠ gp) (h2 : q ≠ rs) : VB (B.set q o) rs gp n sb gb vb rn N ns := by
  have hl : Le B (B.set q o) := Le.set_new hq
  refine ⟨hl _ _ h.s, hl _ _ h.g, hl _ _ h.v, hl _ _ h.nx, fun b hb => ?_, ?_, ?_, h.ne⟩
  · obtain ⟨v, h3, h4⟩ := h.nn b hb
    exact ⟨v, h3, h4.mono hl⟩
  · rw [hset_none_iff]; exact ⟨Ne.symm h1, h.gn⟩
  · rw [hset_none_iff]; exact ⟨Ne.symm h2, h.rn⟩
theorem VB.le (h : VB B rs gp n sb gb vb rn N ns) : Le B (VHp B rs gp n v0 v1 v3 v4 s vo) :=
  (Le.set_new h.rn).trans (Le.set_new (by rw [hset_none_iff]; exact ⟨Ne.symm h.ne, h.gn⟩))
theorem VHp.gp' : VHp B rs gp n v0 v1 v3 v4 s vo gp = some (.cells [v0, v1, vo, v3, v4]) := set_at
theorem VHp.rs' (h : rs ≠ gp) : VHp B rs gp n v0 v1 v3 v4 s vo rs = some (.cells (boolC n s)) := by
  show ((B.set rs _).set gp _) rs = _
  rw [hset_ne h]
  exact set_at
theorem VHp.setQ (h1 : q ≠ gp) (h2 : q ≠ rs) : (VHp B rs gp n v0 v1 v3 v4 s vo).set q o = VHp (B.set q o) rs gp n v0 v1 v3 v4 s vo := by
  simp only [VHp]
  rw [set_comm (Ne.symm h1), set_comm (Ne.symm h2)]
theorem VHp.setS {t : Nat → Bool} (h : rs ≠ gp) : (VHp B rs gp n v0 v1 v3 v4 s vo).set rs (.cells (boolC n t)) = VHp B rs gp n v0 v1 v3 v4 t vo := by
  simp only [VHp]
  rw [set_comm (Ne.symm h), set_set]
theorem VHp.setG {vo' : CV} : (VHp B rs gp n v0 v1 v3 v4 s vo).set gp (.cells [v0, v1, vo', v3, v4]) = VHp B rs gp n v0 v1 v3 v4 s vo' := by
  simp only [VHp]
  rw [set_set]
theorem VHp.none (h : VHp B rs gp n v0 v1 v3 v4 s vo q = Option.none) : q ≠ gp ∧ q ≠ rs ∧ B q = Option.none := by
  have h1 : q ≠ gp := fun e => by rw [e, VHp.gp'] at h; cases h
  have h2 : q ≠ rs := fun e => by
    rw [e] at h
    simp only [VHp] at h
    rw [hset_none_iff] at h
    have := h.2
    rw [set_at] at this
    cases this
  refine ⟨h1, h2, ?_⟩
  simp only [VHp] at h
  rw [hset_none_iff, hset_none_iff] at h
  exact h.2.2
end
/-- The call that a visit has deferred: the block is added. -/
theorem vd_c (hX : CxOk (cx W G)) {H0 H : Hp} {gp gb q4 b : Nat} {v0 v1 v3 v4 vo : CV} {out : List Nat} (hown : Own H0 H vo 1 (ints (natL out))) (hgp : H0 gp = some (.cells [v0, v1, vo, v3, v4])) (hgb : H0 gb = some (.cells [.ptr gp 0])) (hq4 : H0 q4 = some (.cells [.int .i64 b])) (hl : out.length ≤ 1000000) :
    DR Tryz.prog W 109 [.ptr gb 0, .ptr q4 0] H fun H' => ∃ vo', Own (H0.set gp (.cells [v0, v1, vo', v3, v4])) H' vo' 1 (ints (natL (out ++ [b]))) := by
  refine DR.of_cw (X := cx W G) (fn := Tryz.f109) Tryz.func109 rfl rfl (Nat.le_of_ble_eq_true rfl) ?_
  refine CW.walk1 hX mixed d109 rfl ?_
  have m1 := hown.le _ _ hgp
  have m2 := hown.le _ _ hgb
  have m3 := hown.le _ _ hq4
  simp [Tryz.f109, d109, m1, m2, m3, cfill, -vcAppend]
  intro r hr
  refine (hown.more hr).append2 (ys := [[.int .i64 (b : Int)]]) (by simp) (by simp [ints, natL]; omega) (src_one set_at rfl) fun v' H4 how4 hk => ?_
  have k1 := how4.le _ _ hgp
  have k2 := how4.le _ _ hgb
  have k3 := how4.le _ _ hq4
  have n1 : gb ≠ r := fun e => by rw [e, hr] at m2; cases m2
  have g0 : H0 gp ≠ none := by rw [hgp]; simp
  obtain ⟨r', c', rfl⟩ := how4.isRef (by simp)
  simp [stabI, Stab, IsV, k1, k2, k3, m1, m2, m3, n1, -List.length_append]
  refine ⟨.inl rfl, rfl, .ref r' 0 (ints (natL out) ++ [[CV.int IntKind.i64 ↑b]]).length c', ?_⟩
  have := how4.setBase (o := .cells [v0, v1, .ref r' 0 (ints (natL out) ++ [[CV.int IntKind.i64 ↑b]]).length c', v3, v4]) g0
  rw [natL_snoc, show ints (natL out ++ [(b : Int)]) = ints (natL out) ++ [[.int .i64 (b : Int)]] by simp [ints]]
  exact this
structure vsI (B : Hp) (rs gp n sb gb vb q4 : Nat) (v0 v1 v3 v4 v : CV) (N : Nat → List Nat) (f : Nat) (l : List Nat) (s1 : Nat → Bool) (out : List Nat) (d : Nat) (m : Nat) (s' : CA) (H' : Hp) : Prop where
  ex : ∃ i i19 : Nat, m = l.length - i ∧ i ≤ l.length ∧ s'.env 1 = .ptr sb 0 ∧ s'.env 2 = .ptr gb 0 ∧ s'.env 3 = .ptr vb 0 ∧ s'.env 4 = .ptr q4 0 ∧ s'.env 17 = v ∧ s'.env 18 = .int .i64 l.length ∧ s'.env 19 = .int .i64 i19 ∧ i19 + d = i ∧ s'.ds = [.call (.func 109) [.ptr gb 0, .ptr q4 0] []] ∧ VH B rs gp n v0 v1 v3 v4 (visL N f (l.take i) (s1, out)).1 (visL N f (l.take i) (s1, out)).2 H'
structure vsM (sb gb vb q4 : Nat) (H1 : Hp) (s' : CA) (H' : Hp) : Prop where
  ex : s'.env 1 = .ptr sb 0 ∧ s'.env 2 = .ptr gb 0 ∧ s'.env 3 = .ptr vb 0 ∧ s'.env 4 = .ptr q4 0 ∧ s'.ds = [.call (.func 109) [.ptr gb 0, .ptr q4 0] []] ∧ H' = H1
theorem visit_c (hX : CxOk (cx W G)) {n : Nat} {N : Nat → List Nat} (hN : ∀ b, b < n → ∀ k ∈ N b, k < n) (hn : n ≤ 100000) (hNl : ∀ b, b < n → (N b).length ≤ 100000) {rs gp sb gb vb rn : Nat} {ns : List CV} {v1 v3 v4 : CV} : ∀ (f b : Nat) (s : Nat → Bool) (out : List Nat) (B H : Hp), VB B rs gp n sb gb vb rn N ns → b < n → s b = false → cnt n s ≤ f → out.length + cnt n s ≤ n → VH B rs gp n (.ref rn 0 n n) v1 v3 v4 s out H →
    CC Tryz.prog W 108 [.int .i64 b, .ptr sb 0, .ptr gb 0, .ptr vb 0] H fun x H' => x = .ret (.tuple []) ∧ VH B rs gp n (.ref rn 0 n n) v1 v3 v4 (vis N f b (s, out)).1 (vis N f b (s, out)).2 H' := by
  intro f
  induction f with
  | zero =>
    intro b s out B H hB hb hs hc _ _
    have := cnt_lt hb hs
    omega
  | succ f ih =>
  intro b s out B H hB hb hs hc hol ⟨vo, hown⟩
  have hcl := cnt_lt hb hs
  refine CC.of_def1 hX (X := cx W G) (fn := Tryz.f108) (gn := Tryz.f109) Tryz.func108 rfl rfl (Nat.le_of_ble_eq_true rfl) rfl Tryz.func109 rfl rfl ?_
  refine CW.walk hX mixed d108 rfl ?_
  simp
  intro q4 hq4
  obtain ⟨ng, nr, nB⟩ := VHp.none (hown.le.none hq4)
  have hB1 := hB.set (o := .cells [.int .i64 (b : Int)]) nB ng nr
  have hown1 := hown.grow (o := .cells [.int .i64 (b : Int)]) hq4
  rw [VHp.setQ ng nr] at hown1
  have m4 : (B.set q4 (.cells [.int .i64 (b : Int)])) q4 = some (.cells [.int .i64 (b : Int)]) := set_at
  have hBB : Le B (B.set q4 (.cells [.int .i64 (b : Int)])) := Le.set_new nB
  generalize H.set q4 _ = H1 at hown1 ⊢
  generalize B.set q4 _ = B1 at hB1 hown1 m4 hBB
  clear hown hq4 ng nr nB hB
  refine CW.cut (fun s' H' => s'.env 1 = .ptr sb 0 ∧ s'.env 2 = .ptr gb 0 ∧ s'.env 3 = .ptr vb 0 ∧ s'.env 4 = .ptr q4 0 ∧ s'.ds = [] ∧ Own (VHp B1 rs gp n (.ref rn 0 n n) v1 v3 v4 (fun x => s x || x == b) vo) H' vo 1 (ints (natL out))) ?_ ?_
  · refine CW.walk1 hX mixed d108 rfl ?_
    have g1 := hown1.le _ _ (hB1.le _ _ hB1.s)
    have g4 := hown1.le _ _ (hB1.le _ _ m4)
    have gr := hown1.le _ _ (VHp.rs' hB1.ne)
    simp [g1, g4, gr, hb, boolC_len]
    have := hown1.setBase (o := .cells (boolC n fun x => s x || x == b)) (r := rs) (by rw [VHp.rs' hB1.ne]; simp)
    rw [VHp.setS hB1.ne] at this
    rw [boolC_set hb]
    exact ⟨hb, this⟩
  clear hown1
  rintro ⟨e, ds⟩ H2 ⟨e1, e2, e3, e4, rfl, hown2⟩
  dsimp only at e1 e2 e3 e4
  refine CW.cut (vsM sb gb vb q4 H2) ?_ ?_
  · refine CW.region ?_
    show CO _ _ _ _ _ [0, 1] _ _ _
    refine CO.step hX (X := cx W G) rfl ?_
    simp [e2, e4]
    refine CO.defer hX (X := cx W G) rfl rfl rfl rfl (g := 109) (first := []) (cap := [.ptr gb 0, .ptr q4 0]) (by simp) ?_
    refine CO.nil ?_
    exact ⟨by simp [e1], by simp [e2], by simp [e3], by simp [e4], by simp, rfl⟩
  clear e1 e2 e3 e4
  clear e
  rintro ⟨e, ds⟩ H2 ⟨e1, e2, e3, e4, rfl, rfl⟩
  dsimp only at e1 e2 e3 e4
  obtain ⟨l, hl⟩ : ∃ l, N b = l := ⟨_, rfl⟩
  obtain ⟨v, hv, hsl⟩ := hB1.nn b hb
  rw [hl] at hsl
  have hll : l.length ≤ 100000 := by rw [← hl]; exact hNl b hb
  have hlk : ∀ k ∈ l, k < n := by rw [← hl]; exact hN b hb
  have hlen : (v = .nilsl ∧ l.length = 0) ∨ ∃ r c, v = .ref r 0 l.length c := by
    rcases hsl with ⟨h1, h2⟩ | ⟨r, c, cs, h1, _⟩
    · exact .inl ⟨h1, by simpa [natL] using congrArg List.length h2⟩
    · exact .inr ⟨r, _, by simpa [natL] using h1⟩
  have g2 := hown2.le _ _ (hB1.le _ _ hB1.g)
  have g4 := hown2.le _ _ (hB1.le _ _ m4)
  have gn := hown2.le _ _ (hB1.le _ _ hB1.nx)
  have gg := hown2.le _ _ VHp.gp'
  have hfin : ∀ (x : CX) (en : Env) (H' : Hp) (i : Nat), (x = .normal ∨ x = .ret) → i = l.length → VH B1 rs gp n (.ref rn 0 n n) v1 v3 v4 (visL N f (l.take i) (fun x => s x || x == b, out)).1 (visL N f (l.take i) (fun x => s x || x == b, out)).2 H' →
      defQ Tryz.prog W 109 (fun H' => VH B rs gp n (.ref rn 0 n n) v1 v3 v4 (vis N (f + 1) b (s, out)).1 (vis N (f + 1) b (s, out)).2 H') x ⟨en, [.call (.func 109) [.ptr gb 0, .ptr q4 0] []]⟩ H' := by
    rintro x en H' i hx rfl ⟨vo', ho⟩
    rw [List.take_length] at ho
    refine ⟨hx, _, rfl, ?_⟩
    have hle := visL_len hN f l (fun x => s x || x == b) out hlk
    have hd := vd_c hX ho VHp.gp' (hB1.le _ _ hB1.g) (hB1.le _ _ m4) (by omega)
    intro F av w h1 h2 h3
    refine CallsDIn.mono (hd F av w h1 h2 h3) ?_
    rintro e u' w' ⟨v9, rfl, rfl, H9, k1, k2, vo9, k3⟩
    refine ⟨v9, rfl, rfl, H9, k1, k2, vo9, ?_⟩
    rw [VHp.setG] at k3
    show Own (VHp B rs gp n _ v1 v3 v4 (visL N f (N b) (fun x => s x || x == b, out)).1 vo9) H9 vo9 1 (ints (natL ((visL N f (N b) (fun x => s x || x == b, out)).2 ++ [b])))
    rw [hl]
    refine k3.base ?_
    exact Le.set (Le.set hBB)
  refine CW.walk hX mixed d108 rfl ?_
  simp [d108, e2, e4, g2, g4, gn, gg, hb, hv]
  refine lenK_of hlen ?_
  simp
  refine CW.block ?_
  refine CW.loop (vsI B1 rs gp n sb gb vb q4 (.ref rn 0 n n) v1 v3 v4 v N f l (fun x => s x || x == b) out 0) ?_ (m := l.length) ⟨0, 0, by omega, by omega, by simp [e1], by simp [e2], by simp [e3], by simp [e4], by simp, by simp, by simp, rfl, rfl, ⟨vo, hown2⟩⟩
  clear e1 e2 e3 e4 g2 g4 gn gg hown2
  clear e H2
  rintro m ⟨e, ds⟩ H3 ⟨i, i19, rfl, hi, e1, e2, e3, e4, e17, e18, e19, hi19, rfl, hVH⟩
  obtain rfl : i = i19 := by omega
  dsimp only at e1 e2 e3 e4 e17 e18 e19
  by_cases hil : i < l.length
  rotate_left
  · refine CW.walk hX mixed d108 rfl ?_
    simp [e18, e19, hil]
    refine CW.walk hX mixed d108 rfl ?_
    simp
    exact hfin _ _ _ i (.inl rfl) (by omega) hVH
  refine CW.walk hX mixed d108 rfl ?_
  simp [e18, e19, hil]
  refine CW.walk hX mixed d108 rfl ?_
  simp
  obtain ⟨k, hk⟩ : ∃ k, l[i]? = some k := ⟨_, List.getElem?_eq_getElem hil⟩
  have hkn := hlk k (List.mem_of_getElem? hk)
  have htk : l.take (i + 1) = l.take i ++ [k] := by
    rw [List.take_succ_eq_append_getElem hil]
    rw [List.getElem?_eq_getElem hil] at hk
    injection hk with hk
    rw [hk]
  rcases hsl with ⟨h1, h2⟩ | ⟨rv, cv, csv, hvr, mvB, hcs⟩
  · have := congrArg List.length h2
    simp [natL] at this
    rw [this] at hil
    simp at hil
  rw [natL_len] at hvr
  subst hvr
  have gk : csv[i]? = some (ci (k : Int)) := hcs i _ (by rw [natL, List.getElem?_map, hk]; rfl)
  obtain ⟨σ, hσ⟩ : ∃ σ, visL N f (l.take i) (fun x => s x || x == b, out) = σ := ⟨_, rfl⟩
  have hcσ : cnt n σ.1 ≤ f := by
    have := cnt_le (n := n) (s := fun x => s x || x == b) (t := σ.1) fun x hx => by rw [← hσ]; exact visL_mono f _ _ _ x hx
    omega
  have hlσ : σ.2.length + cnt n σ.1 ≤ n := by
    have := visL_len hN f (l.take i) (fun x => s x || x == b) out fun x hx => hlk x (List.mem_of_mem_take hx)
    rw [hσ] at this
    omega
  rw [hσ] at hVH
  have hnext : visL N f (l.take (i + 1)) (fun x => s x || x == b, out) = if σ.1 k then σ else vis N f k σ := by rw [htk, visL_snoc, hσ]
  refine CW.cut (vsI B1 rs gp n sb gb vb q4 (.ref rn 0 n n) v1 v3 v4 (.ref rv 0 l.length (l.length + cv)) N f l (fun x => s x || x == b) out 1 (l.length - (i + 1))) ?_ ?_
  · refine CW.block ?_
    obtain ⟨vo3, hown3⟩ := hVH
    have g1 := hown3.le _ _ (hB1.le _ _ hB1.s)
    have g3 := hown3.le _ _ (hB1.le _ _ hB1.v)
    have gv := hown3.le _ _ (hB1.le _ _ mvB)
    have gr := hown3.le _ _ (VHp.rs' hB1.ne)
    have gb' := boolC_get (p := σ.1) hkn
    refine CW.walk hX mixed d108 rfl ?_
    simp [e17, e19, hil, gv, gk]
    refine CW.walk hX mixed d108 rfl ?_
    cases hσk : σ.1 k with
    | true =>
      simp [e1, g1, gr, hkn, gb', hσk]
      refine CW.walk1 hX mixed d108 rfl ?_
      simp
      exact ⟨i + 1, i, rfl, by omega, by simp [e1], by simp [e2], by simp [e3], by simp [e4], by simp [e17], by simp [e18], by simp [e19], rfl, rfl, by rw [hnext, hσk]; exact ⟨vo3, hown3⟩⟩
    | false =>
      simp [e1, g1, gr, hkn, gb', hσk]
      refine CW.walk1 hX mixed d108 rfl ?_
      simp [e3, g3]
      refine (ih k σ.1 σ.2 B1 H3 hB1 hkn hσk hcσ hlσ ⟨vo3, hown3⟩).k ?_
      rintro x H4 ⟨rfl, hVH4⟩
      simp
      exact ⟨i + 1, i, rfl, by omega, by simp [e1], by simp [e2], by simp [e3], by simp [e4], by simp [e17], by simp [e18], by simp [e19], rfl, rfl, by rw [hnext, hσk]; exact hVH4⟩
  · clear e1 e2 e3 e4 e17 e18 e19 hVH
    clear e H3
    rintro ⟨e, ds⟩ H3 ⟨i2, i19, hm, hi2, e1, e2, e3, e4, e17, e18, e19, hi19, rfl, hVH⟩
    dsimp only at e1 e2 e3 e4 e17 e18 e19
    obtain rfl : i2 = i + 1 := by omega
    obtain rfl : i = i19 := by omega
    refine CW.walk1 hX mixed d108 rfl ?_
    simp [e19]
    exact ⟨l.length - (i + 1), by omega, i + 1, i + 1, rfl, hi2, by simp [e1], by simp [e2], by simp [e3], by simp [e4], by simp [e17], by simp [e18], by simp; rw [wrapI (by omega) (by omega)], rfl, rfl, hVH⟩
end Go.Cl.Gd
set_option linter.unusedSimpArgs false
set_option linter.unusedVariables false
namespace Go.Cl.Gd
open Go.Proofs
variable {W : World} {G : Nat → CV}
set_option maxRecDepth 8000
/-- The order of a unit's blocks. -/
def ordL (N : Nat → List Nat) (n : Nat) : List Nat := (vis N n 0 (fun _ => false, [])).2.reverse
/-- The places that were told by now. -/
def rkP (order : List Nat) (i : Nat) (x : Nat) : Int := if x ∈ order.take i then (order.idxOf x : Int) else -1
theorem rkP_zero {order : List Nat} : rkP order 0 = fun _ => -1 := by funext x; simp [rkP]
theorem rkP_all {order : List Nat} : rkP order order.length = rkOf order := by funext x; simp [rkP, rkOf]
theorem rkP_step {order : List Nat} (hn : order.Nodup) {i b : Nat} (hb : order[i]? = some b) : (fun x => if x = b then (i : Int) else rkP order i x) = rkP order (i + 1) := by
  obtain ⟨hi, he⟩ := List.getElem?_eq_some_iff.1 hb
  have ht : order.take (i + 1) = order.take i ++ [b] := by rw [List.take_succ_eq_append_getElem hi, he]
  funext x
  simp only [rkP, ht, List.mem_append, List.mem_singleton]
  by_cases hx : x = b
  · subst hx
    rw [if_pos rfl, if_pos (.inr rfl), ← he, hn.idxOf_getElem]
  · simp [hx]
structure WB (B : Hp) (gp rk n rn : Nat) (N : Nat → List Nat) (ns : List CV) : Prop where
  g : B gp = none
  k : B rk = none
  gk : gp ≠ rk
  nx : B rn = some (.cells ns)
  nn : ∀ b, b < n → ∃ v, ns[b]? = some v ∧ SlF B v (natL (N b))
structure WR (B : Hp) (gp rk n rn : Nat) (N : Nat → List Nat) (v1 v3 : CV) (order : List Nat) (f : Nat → Int) (ro co : Nat) (ex : List CV) (H' : Hp) : Prop where
  le : Le B H'
  g : H' gp = some (.cells [.ref rn 0 n n, v1, .ref ro 0 order.length co, v3, .ref rk 0 n n])
  o : H' ro = some (.cells (nums (natL order) ex))
  k : H' rk = some (.cells (genC n f))
  ob : B ro = none
  og : ro ≠ gp
  ok : ro ≠ rk
  gk : gp ≠ rk
  kb : B rk = none
  co : order.length ≤ co
theorem WR.set {B : Hp} {gp rk n rn : Nat} {N : Nat → List Nat} {v1 v3 : CV} {order : List Nat} {f g : Nat → Int} {ro co : Nat} {ex : List CV} {H' : Hp} (h : WR B gp rk n rn N v1 v3 order f ro co ex H') : WR B gp rk n rn N v1 v3 order g ro co ex (H'.set rk (.cells (genC n g))) :=
  ⟨h.le.put h.kb, by rw [hset_ne h.gk]; exact h.g, by rw [hset_ne h.ok]; exact h.o, set_at, h.ob, h.og, h.ok, h.gk, h.kb, h.co⟩
theorem WR.less {A B : Hp} {gp rk n rn : Nat} {N : Nat → List Nat} {v1 v3 : CV} {order : List Nat} {f : Nat → Int} {ro co : Nat} {ex : List CV} {H' : Hp} (h : WR B gp rk n rn N v1 v3 order f ro co ex H') (hl : Le A B) : WR A gp rk n rn N v1 v3 order f ro co ex H' :=
  ⟨hl.trans h.le, h.g, h.o, h.k, hl.none h.ob, h.og, h.ok, h.gk, hl.none h.kb, h.co⟩
structure wkZ (B : Hp) (gp rk n rn : Nat) (N : Nat → List Nat) (v1 v3 : CV) (order : List Nat) (f0 : Nat → Int) (ro co : Nat) (ex : List CV) (q1 : Nat) (d : Nat) (m : Nat) (s' : CA) (H' : Hp) : Prop where
  ex : ∃ i i26 : Nat, m = n - i ∧ i ≤ n ∧ s'.env 1 = .ptr q1 0 ∧ s'.env 25 = .int .i64 n ∧ s'.env 26 = .int .i64 i26 ∧ i26 + d = i ∧ s'.ds = [] ∧ WR B gp rk n rn N v1 v3 order (fun x => if x < i then -1 else f0 x) ro co ex H'
structure wkO (B : Hp) (gp rk n rn : Nat) (N : Nat → List Nat) (v1 v3 : CV) (order : List Nat) (ro co : Nat) (ex : List CV) (q1 : Nat) (d : Nat) (m : Nat) (s' : CA) (H' : Hp) : Prop where
  ex : ∃ i i41 : Nat, m = order.length - i ∧ i ≤ order.length ∧ s'.env 1 = .ptr q1 0 ∧ s'.env 39 = .ref ro 0 order.length co ∧ s'.env 40 = .int .i64 order.length ∧ s'.env 41 = .int .i64 i41 ∧ i41 + d = i ∧ s'.ds = [] ∧ WR B gp rk n rn N v1 v3 order (rkP order i) ro co ex H'
theorem le_at {A H : Hp} {q : Nat} {o : Ob} (h : Le A H) (hq : H q = some o) : Le (A.set q o) H := fun i x hx => by
  by_cases e : i = q
  · subst e
    rw [set_at] at hx
    rw [hq, hx]
  · rw [hset_ne e] at hx
    exact h i x hx
theorem walk_c (hX : CxOk (cx W G)) {n : Nat} {N : Nat → List Nat} (hN : ∀ b, b < n → ∀ k ∈ N b, k < n) (h0 : 0 < n) (hn : n ≤ 100000) (hNl : ∀ b, b < n → (N b).length ≤ 100000) {B H : Hp} {gp rk rn : Nat} {ns : List CV} {v1 v3 : CV} {f0 : Nat → Int} (hB : WB B gp rk n rn N ns) (hle : Le B H) (hgp : H gp = some (.cells [.ref rn 0 n n, v1, .nilsl, v3, .ref rk 0 n n])) (hrk : H rk = some (.cells (genC n f0))) :
    CC Tryz.prog W 84 [.ptr gp 0] H fun x H' => x = .ret (.tuple []) ∧ ∃ ro co ex, WR B gp rk n rn N v1 v3 (ordL N n) (rkOf (ordL N n)) ro co ex H' := by
  have hO := ord_of h0 hN (f := n) (Nat.le_refl n)
  obtain ⟨⟨new0, hne, _⟩, _⟩ := vis_spec hN n 0 (fun _ => false) [] h0 rfl (by simp only [cnt]; have := List.length_filter_le (fun _ : Nat => !false) (List.range n); simp at this ⊢; omega)
  have hcn : cnt n (fun _ => false) = n := by
    simp only [cnt]
    rw [show (List.range n).filter (fun _ => !false) = List.range n from List.filter_eq_self.2 (fun _ _ => rfl), List.length_range]
  refine CC.of_cw hX Tryz.func84 rfl rfl (Nat.le_of_ble_eq_true rfl) ?_
  refine CW.walk hX mixed d84 rfl ?_
  simp
  intro q1 hq1
  refine CW.walk hX mixed d84 rfl ?_
  have ng : ∀ q, H q = none → q ≠ gp ∧ gp ≠ q ∧ q ≠ rk ∧ rk ≠ q := fun q hq => by
    have a1 : q ≠ gp := fun e => by rw [e, hgp] at hq; cases hq
    have a2 : q ≠ rk := fun e => by rw [e, hrk] at hq; cases hq
    exact ⟨a1, Ne.symm a1, a2, Ne.symm a2⟩
  obtain ⟨a1, a2, a3, a4⟩ := ng q1 hq1
  simp [hgp, a1, a2]
  refine ⟨by omega, by omega, fun rs h1a h1b hrs sb h2a h2b h2c h2d hsb => ?_⟩
  have hz : List.map (fun i => [CV.bool false][i % 1]?.getD CV.any) (List.range n) = boolC n fun _ => false := by simp [boolC, Nat.mod_one]
  rw [hz]
  refine CW.walk hX mixed d84 rfl ?_
  simp
  intro vb h3a h3b h3c h3d h3e h3f hvb
  obtain ⟨b1, b2, b3, b4⟩ := ng rs hrs
  obtain ⟨c1, c2, c3, c4⟩ := ng sb hsb
  obtain ⟨d1, d2, d3, d4⟩ := ng vb hvb
  refine CW.walk hX mixed d84 rfl ?_
  simp
  generalize hH4 : (((H.set q1 _).set rs _).set sb _).set vb _ = H4
  have k1 : H4 q1 = some (.cells [.ptr gp 0]) := by rw [← hH4]; simp [h1a, h1b, h2a, h2b, h2c, h2d, h3a, h3b, h3c, h3d, h3e, h3f]
  have ks : H4 rs = some (.cells (boolC n fun _ => false)) := by rw [← hH4]; simp [h1a, h1b, h2a, h2b, h2c, h2d, h3a, h3b, h3c, h3d, h3e, h3f]
  have kb : H4 sb = some (.cells [.ref rs 0 n n]) := by rw [← hH4]; simp [h1a, h1b, h2a, h2b, h2c, h2d, h3a, h3b, h3c, h3d, h3e, h3f]
  have kv : H4 vb = some (.cells [.func (.func 108) [] [.ptr sb 0, .ptr q1 0, .ptr vb 0]]) := by rw [← hH4]; simp
  have hle4 : Le H H4 := by
    rw [← hH4]
    refine (Le.set_new hq1).trans ((Le.set_new ?_).trans ((Le.set_new ?_).trans (Le.set_new ?_)))
    · simp [h1a, h1b, hrs]
    · simp [h2a, h2b, h2c, h2d, hsb]
    · simp [h3a, h3b, h3c, h3d, h3e, h3f, hvb]
  clear hH4
  have kg := hle4 _ _ hgp
  have kk := hle4 _ _ hrk
  obtain ⟨B1, hB1⟩ : ∃ B1, (((B.set rk (.cells (genC n f0))).set q1 (.cells [.ptr gp 0])).set sb (.cells [.ref rs 0 n n])).set vb (.cells [.func (.func 108) [] [.ptr sb 0, .ptr q1 0, .ptr vb 0]]) = B1 := ⟨_, rfl⟩
  have hl1 : Le B1 H4 := by
    rw [← hB1]
    exact le_at (le_at (le_at (le_at (hle.trans hle4) kk) k1) kb) kv
  have hBB : Le B B1 := by
    rw [← hB1]
    refine (Le.set_new hB.k).trans ((Le.set_new ?_).trans ((Le.set_new ?_).trans (Le.set_new ?_)))
    · rw [hset_none_iff]; exact ⟨a3, hle.none hq1⟩
    · rw [hset_none_iff, hset_none_iff]; exact ⟨h2c, c3, hle.none hsb⟩
    · rw [hset_none_iff, hset_none_iff, hset_none_iff]; exact ⟨h3a, h3e, d3, hle.none hvb⟩
  have hVB : VB B1 rs gp n sb q1 vb rn N ns := by
    refine ⟨?_, ?_, ?_, hBB _ _ hB.nx, fun b hb => ?_, ?_, ?_, b1⟩
    · rw [← hB1]; simp [h3a, h3b]
    · rw [← hB1]; simp [h3e, h3f, h2c, h2d]
    · rw [← hB1]; simp
    · obtain ⟨v, g1, g2⟩ := hB.nn b hb
      exact ⟨v, g1, g2.mono hBB⟩
    · rw [← hB1, hset_none_iff, hset_none_iff, hset_none_iff, hset_none_iff]; exact ⟨d2, c2, a2, hB.gk, hB.g⟩
    · rw [← hB1, hset_none_iff, hset_none_iff, hset_none_iff, hset_none_iff]; exact ⟨h3d, h2b, h1a, b3, hle.none hrs⟩
  have hbk : B1 rk = some (.cells (genC n f0)) := by rw [← hB1]; simp [a3, a4, c3, c4, d3, d4]
  have hb1 : B1 q1 = some (.cells [.ptr gp 0]) := by rw [← hB1]; simp [h2c, h2d, h3e, h3f]
  clear hB1
  have hVH : VH B1 rs gp n (.ref rn 0 n n) v1 v3 (.ref rk 0 n n) (fun _ => false) [] H4 := ⟨.nilsl, Own.nil (le_at (le_at hl1 ks) kg)⟩
  refine CW.walk hX mixed d84 rfl ?_
  simp [kv]
  refine (visit_c hX hN hn hNl n 0 (fun _ => false) [] B1 H4 hVB h0 rfl (by omega) (by simp [hcn]) hVH).k ?_
  rintro x H5 ⟨rfl, vo, hown⟩
  simp
  have hVl := hVB.le (v0 := .ref rn 0 n n) (v1 := v1) (v3 := v3) (v4 := .ref rk 0 n n) (s := (vis N n 0 (fun _ => false, [])).1) (vo := vo)
  have kg5 := hown.le _ _ VHp.gp'
  have kk5 := hown.le _ _ (hVl _ _ hbk)
  have k15 := hown.le _ _ (hVl _ _ hb1)
  have hBH5 : Le B H5 := hBB.trans (hVl.trans hown.le)
  have hlo := vis_len hN n 0 (fun _ => false) [] h0 rfl
  have hordL : ordL N n = (vis N n 0 (fun _ => false, [])).2.reverse := rfl
  obtain ⟨out, hout⟩ : ∃ out, (vis N n 0 (fun _ => false, [])).2 = out := ⟨_, rfl⟩
  rw [hout] at hne hown hordL hlo hO
  rw [← hordL] at hO
  obtain ⟨order, hor⟩ : ∃ order, ordL N n = order := ⟨_, rfl⟩
  rw [hor] at hO hordL ⊢
  have hlen : order.length = out.length := by rw [hordL, List.length_reverse]
  have hrev : (natL out).reverse = natL order := by rw [hordL]; simp [natL]
  simp at hlo
  rw [hcn] at hlo
  rcases hown.cases with ⟨_, h2⟩ | ⟨ro, co, ex, rfl, hco, hro, h2⟩
  · rw [hne] at h2
    simp [natL] at h2
  obtain ⟨og, os, hro1⟩ := VHp.none hro
  have hrob := hBB.none hro1
  have hrok : ro ≠ rk := fun e => by rw [e, hbk] at hro1; cases hro1
  have hroq : ro ≠ q1 := fun e => by rw [e, hb1] at hro1; cases hro1
  refine CW.walk hX mixed d84 rfl ?_
  simp [k15, kg5]
  refine (reverse_c hX (natL out) ro co ex (by rw [natL_len]; omega) H5 h2).k ?_
  rintro x H6 ⟨rfl, rfl⟩
  simp
  rw [hrev]
  rw [natL_len] at kg5
  rw [← hlen] at kg5
  have hWR : WR (B.set q1 (.cells [.ptr gp 0])) gp rk n rn N v1 v3 order f0 ro co ex (H5.set ro (.cells (nums (natL order) ex))) := by
    refine ⟨?_, ?_, set_at, ?_, ?_, og, hrok, hB.gk, ?_, ?_⟩
    · exact (le_at hBH5 k15).put (by rw [hset_none_iff]; exact ⟨hroq, hrob⟩)
    · rw [hset_ne (Ne.symm og)]; exact kg5
    · rw [hset_ne (Ne.symm hrok)]; exact kk5
    · rw [hset_none_iff]; exact ⟨hroq, hrob⟩
    · rw [hset_none_iff]; exact ⟨a4, hB.k⟩
    · rw [natL_len] at hco; omega
  have hbq : (B.set q1 (.cells [.ptr gp 0])) q1 = some (.cells [.ptr gp 0]) := set_at
  have hBq : Le B (B.set q1 (.cells [.ptr gp 0])) := Le.set_new (hle.none hq1)
  generalize H5.set ro _ = H6 at hWR ⊢
  generalize B.set q1 _ = Bq at hWR hbq hBq
  clear hown h2 kg5 kk5 k15 hVl hBH5 hVH
  have hnd := hO.nd
  have hlt := hO.lt
  have hordn : order.length ≤ n := by omega
  refine CW.cut (fun s' H' => s'.env 1 = .ptr q1 0 ∧ s'.ds = [] ∧ WR Bq gp rk n rn N v1 v3 order (rkP order 0) ro co ex H') ?_ ?_
  · have g1 := hWR.le _ _ hbq
    have g2 := hWR.g
    have g3 := hWR.k
    refine CW.walk hX mixed d84 rfl ?_
    simp [g1, g2, g3]
    refine CW.block ?_
    refine CW.loop (wkZ Bq gp rk n rn N v1 v3 order f0 ro co ex q1 0) ?_ (m := n) ⟨0, 0, rfl, by omega, by simp, by simp, by simp, rfl, rfl, by simpa using hWR⟩
    rintro m ⟨e, ds⟩ H7 ⟨i, i26, rfl, hi, e1, e25, e26, hi26, rfl, hw⟩
    obtain rfl : i = i26 := by omega
    dsimp only at e1 e25 e26
    have g1 := hw.le _ _ hbq
    have g2 := hw.g
    have g3 := hw.k
    by_cases hin : i < n
    rotate_left
    · refine CW.walk hX mixed d84 rfl ?_
      simp [e25, e26, hin]
      refine CW.walk hX mixed d84 rfl ?_
      simp
      refine ⟨by simp [e1], ?_⟩
      have : H7 = H7.set rk (.cells (genC n (rkP order 0))) := by
        refine (hset_self ?_).symm
        rw [g3]
        simp only [genC]
        congr 2
        refine List.map_congr_left fun x hx => ?_
        have := List.mem_range.1 hx
        simp [rkP_zero, show x < i by omega]
      rw [this]
      exact hw.set
    refine CW.walk hX mixed d84 rfl ?_
    simp [e25, e26, hin]
    refine CW.walk hX mixed d84 rfl ?_
    simp
    refine CW.cut (wkZ Bq gp rk n rn N v1 v3 order f0 ro co ex q1 1 (n - (i + 1))) ?_ ?_
    · refine CW.block ?_
      refine CW.walk hX mixed d84 rfl ?_
      simp [e26]
      refine CW.walk1 hX mixed d84 rfl ?_
      simp [e1, g1, g2, g3, hin, genC_len]
      refine ⟨by omega, ?_⟩
      rw [genC_put hin]
      refine ⟨i + 1, i, rfl, by omega, by simp [e1], by simp [e25], by simp [e26], rfl, rfl, ?_⟩
      have hf : (fun x => if x = i then (-1 : Int) else if x < i then -1 else f0 x) = fun x => if x < i + 1 then -1 else f0 x := by
        funext x
        by_cases h1 : x = i
        · subst h1; simp
        · by_cases h2 : x < i
          · simp [h1, h2, show x < i + 1 by omega]
          · simp [h1, h2, show ¬ x < i + 1 by omega]
      rw [hf]
      exact hw.set
    · clear e1 e25 e26 g1 g2 g3 hw
      clear e H7
      rintro ⟨e, ds⟩ H7 ⟨i2, i26, hm, hi2, e1, e25, e26, hi26, rfl, hw⟩
      dsimp only at e1 e25 e26
      obtain rfl : i2 = i + 1 := by omega
      obtain rfl : i = i26 := by omega
      refine CW.walk1 hX mixed d84 rfl ?_
      simp [e26]
      exact ⟨n - (i + 1), by omega, i + 1, i + 1, rfl, hi2, by simp [e1], by simp [e25], by simp; rw [wrapI (by omega) (by omega)], rfl, rfl, hw⟩
  rintro ⟨e, ds⟩ H7 ⟨e1, rfl, hw⟩
  dsimp only at e1
  have g1 := hw.le _ _ hbq
  have g2 := hw.g
  refine CW.walk hX mixed d84 rfl ?_
  simp [e1, g1, g2]
  refine CW.block ?_
  refine CW.loop (wkO Bq gp rk n rn N v1 v3 order ro co ex q1 0) ?_ (m := order.length) ⟨0, 0, rfl, by omega, by simp [e1], by simp, by simp, by simp, rfl, rfl, hw⟩
  clear e1 g1 g2 hw
  clear e H7
  rintro m ⟨e, ds⟩ H7 ⟨i, i41, rfl, hi, e1, e39, e40, e41, hi41, rfl, hw⟩
  obtain rfl : i = i41 := by omega
  dsimp only at e1 e39 e40 e41
  have g1 := hw.le _ _ hbq
  have g2 := hw.g
  have g3 := hw.k
  by_cases hio : i < order.length
  rotate_left
  · refine CW.walk hX mixed d84 rfl ?_
    simp [e40, e41, hio]
    refine CW.walk hX mixed d84 rfl ?_
    simp
    have : i = order.length := by omega
    rw [this, rkP_all] at hw
    exact ⟨ro, co, ex, hw.less hBq⟩
  obtain ⟨b, hb⟩ : ∃ b, order[i]? = some b := ⟨_, List.getElem?_eq_getElem hio⟩
  have hbn := hlt b (List.mem_of_getElem? hb)
  have gb : (nums (natL order) ex)[i]? = some (ci (b : Int)) := by
    simp only [nums]
    rw [List.getElem?_append_left (by simp [natL]; omega), List.getElem?_map, natL, List.getElem?_map, hb]
    rfl
  refine CW.walk hX mixed d84 rfl ?_
  simp [e40, e41, hio]
  refine CW.walk hX mixed d84 rfl ?_
  simp
  refine CW.cut (wkO Bq gp rk n rn N v1 v3 order ro co ex q1 1 (order.length - (i + 1))) ?_ ?_
  · refine CW.block ?_
    refine CW.walk hX mixed d84 rfl ?_
    have g4 := hw.o
    simp [e39, e41, hio, g4, gb]
    refine CW.walk1 hX mixed d84 rfl ?_
    simp [e1, g1, g2, g3, hbn, genC_len]
    refine ⟨by omega, ?_⟩
    rw [genC_put hbn, rkP_step hnd hb]
    exact ⟨i + 1, i, rfl, by omega, by simp [e1], by simp [e39], by simp [e40], by simp [e41], rfl, rfl, hw.set⟩
  · clear e1 e39 e40 e41 g1 g2 g3 hw
    clear e H7
    rintro ⟨e, ds⟩ H7 ⟨i2, i41, hm, hi2, e1, e39, e40, e41, hi41, rfl, hw⟩
    dsimp only at e1 e39 e40 e41
    obtain rfl : i2 = i + 1 := by omega
    obtain rfl : i = i41 := by omega
    refine CW.walk1 hX mixed d84 rfl ?_
    simp [e41]
    exact ⟨order.length - (i + 1), by omega, i + 1, i + 1, rfl, hi2, by simp [e1], by simp [e39], by simp [e40], by simp; rw [wrapI (by omega) (by omega)], rfl, rfl, hw⟩
end Go.Cl.Gd
set_option linter.unusedSimpArgs false
set_option linter.unusedVariables false
namespace Go.Cl.Gd
open Go.Proofs
variable {W : World} {G : Nat → CV}
set_option maxRecDepth 8000
/-- The two tables of slices in a base. -/
def KX (X : Hp) (rn rb : Nat) (ns bs : List CV) : Hp := (X.set rn (.cells ns)).set rb (.cells bs)
theorem KX.rb' {X : Hp} {rn rb : Nat} {ns bs : List CV} : KX X rn rb ns bs rb = some (.cells bs) := set_at
theorem KX.rn' {X : Hp} {rn rb : Nat} {ns bs : List CV} (h : rn ≠ rb) : KX X rn rb ns bs rn = some (.cells ns) := by
  show ((X.set rn _).set rb _) rn = _
  rw [hset_ne h]
  exact set_at
theorem KX.setB {X : Hp} {rn rb : Nat} {ns bs bs' : List CV} : (KX X rn rb ns bs).set rb (.cells bs') = KX X rn rb ns bs' := by
  simp only [KX]
  rw [set_set]
theorem KX.setN {X : Hp} {rn rb : Nat} {ns ns' bs : List CV} (h : rn ≠ rb) : (KX X rn rb ns bs).set rn (.cells ns') = KX X rn rb ns' bs := by
  simp only [KX]
  rw [set_comm (Ne.symm h), set_set]
theorem KX.setQ {X : Hp} {rn rb q : Nat} {o : Ob} {ns bs : List CV} (h1 : q ≠ rn) (h2 : q ≠ rb) : (KX X rn rb ns bs).set q o = KX (X.set q o) rn rb ns bs := by
  simp only [KX]
  rw [set_comm (Ne.symm h2), set_comm (Ne.symm h1)]
theorem KX.none {X : Hp} {rn rb q : Nat} {ns bs : List CV} (h : KX X rn rb ns bs q = Option.none) : q ≠ rn ∧ q ≠ rb ∧ X q = Option.none := by
  simp only [KX] at h
  rw [hset_none_iff, hset_none_iff] at h
  exact ⟨h.2.1, h.1, h.2.2⟩
theorem Own.rebase {K H H' : Hp} {v : CV} {sz : Nat} {xs : List (List CV)} {r : Nat} {o : Ob} (h : Own K H v sz xs) (hl : Le H H') (hr : H r = none) (hr' : H' r = some o) : Own (K.set r o) H' v sz xs := by
  refine ⟨le_at (h.1.trans hl) hr', h.2.1, ?_⟩
  rcases h.2.2 with h2 | ⟨q, c, ex, h1, h2, h3, h4⟩
  · exact .inl h2
  · refine .inr ⟨q, c, ex, h1, ?_, hl _ _ h3, h4⟩
    rw [hset_none_iff]
    exact ⟨fun e => (by rw [e, hr] at h3; cases h3), h2⟩
/-- New, on the way: X lies still; the tables and the slices of blocks before. -/
structure NW (X H : Hp) (rn rb n i : Nat) (N : Nat → List Nat) (L : Nat → List Nat) (ns bs : List CV) : Prop where
  le : Le (KX X rn rb ns bs) H
  xn : X rn = none
  xb : X rb = none
  nb : rn ≠ rb
  nl : ns.length = n
  bl : bs.length = n
  nx : ∀ b, b < i → ∃ v, ns[b]? = some v ∧ SlF X v (natL (N b))
  bf : ∀ b, b < n → ∃ v, bs[b]? = some v ∧ Own (KX X rn rb ns bs) H v 1 (ints (natL (L b)))
  ds : ∀ (b c : Nat) (v w : CV), bs[b]? = some v → bs[c]? = some w → b ≠ c → ∀ r n1 c1 n2 c2, v = .ref r 0 n1 c1 → w ≠ .ref r 0 n2 c2
section
variable {X H H' : Hp} {rn rb n i r : Nat} {N L : Nat → List Nat} {ns bs : List CV} {o : Ob}
theorem NW.more (h : NW X H rn rb n i N L ns bs) (hl : Le H H') : NW X H' rn rb n i N L ns bs :=
  ⟨h.le.trans hl, h.xn, h.xb, h.nb, h.nl, h.bl, h.nx, fun b hb => by obtain ⟨v, h1, h2⟩ := h.bf b hb; exact ⟨v, h1, h2.mono hl⟩, h.ds⟩
theorem NW.xle (h : NW X H rn rb n i N L ns bs) : Le X H := ((Le.set_new h.xn).trans (Le.set_new (by rw [hset_none_iff]; exact ⟨Ne.symm h.nb, h.xb⟩))).trans h.le
/-- A new block lies still from now on. -/
theorem NW.fix (h : NW X H rn rb n i N L ns bs) (hl : Le H H') (hr : H r = none) (hr' : H' r = some o) : NW (X.set r o) H' rn rb n i N L ns bs := by
  obtain ⟨a1, a2, a3⟩ := KX.none (h.le.none hr)
  have hX : Le X (X.set r o) := Le.set_new a3
  refine ⟨?_, ?_, ?_, h.nb, h.nl, h.bl, fun b hb => ?_, fun b hb => ?_, h.ds⟩
  · rw [← KX.setQ a1 a2]; exact le_at (h.le.trans hl) hr'
  · rw [hset_none_iff]; exact ⟨Ne.symm a1, h.xn⟩
  · rw [hset_none_iff]; exact ⟨Ne.symm a2, h.xb⟩
  · obtain ⟨v, h1, h2⟩ := h.nx b hb; exact ⟨v, h1, h2.mono hX⟩
  · obtain ⟨v, h1, h2⟩ := h.bf b hb
    refine ⟨v, h1, ?_⟩
    rw [← KX.setQ a1 a2]
    exact Own.rebase h2 hl hr hr'
/-- The next list is put into its table. -/
theorem NW.putN (h : NW X H rn rb n i N L ns bs) {v : CV} (hi : i < n) (hv : SlF X v (natL (N i))) : NW X (H.set rn (.cells (ns.set i v))) rn rb n (i + 1) N L (ns.set i v) bs := by
  have hk : KX X rn rb ns bs rn ≠ none := by rw [KX.rn' h.nb]; simp
  refine ⟨?_, h.xn, h.xb, h.nb, by rw [List.length_set, h.nl], h.bl, fun b hb => ?_, fun b hb => ?_, h.ds⟩
  · rw [← KX.setN h.nb]; exact Le.set h.le
  · by_cases e : b = i
    · subst e
      exact ⟨v, by rw [List.getElem?_set_self (by rw [h.nl]; exact hi)], hv⟩
    · rw [List.getElem?_set_ne (Ne.symm e)]
      exact h.nx b (by omega)
  · obtain ⟨w, h1, h2⟩ := h.bf b hb
    refine ⟨w, h1, ?_⟩
    rw [← KX.setN h.nb]
    exact h2.setBase hk
/-- A block before is added. -/
theorem NW.putB (h : NW X H rn rb n i N L ns bs) {k : Nat} (hk : k < n) {v v' : CV} {a : Nat} (hv : bs[k]? = some v) (ho : Own (KX X rn rb ns bs) H' v' 1 (ints (natL (L k ++ [a])))) (hq : ∀ q o, H q = some o → (∀ n c, v ≠ .ref q 0 n c) → H' q = some o ∧ ∀ n c, v' ≠ .ref q 0 n c) :
    NW X (H'.set rb (.cells (bs.set k v'))) rn rb n i N (fun b => if b = k then L b ++ [a] else L b) ns (bs.set k v') := by
  have hkb : KX X rn rb ns bs rb ≠ none := by rw [KX.rb']; simp
  have hother : ∀ b w, b ≠ k → bs[b]? = some w → b < n → Own (KX X rn rb ns bs) H' w 1 (ints (natL (L b))) ∧ ∀ r n1 c1 n2 c2, w = .ref r 0 n1 c1 → v' ≠ .ref r 0 n2 c2 := by
    intro b w hb hw hbn
    obtain ⟨w', h1, h2⟩ := h.bf b hbn
    rw [hw] at h1
    injection h1 with h1
    subst h1
    obtain ⟨l1, l2, l3⟩ := h2
    rcases l3 with ⟨rfl, l4⟩ | ⟨q, c, ex, rfl, l4, l5, l6⟩
    · exact ⟨⟨ho.le, l2, .inl ⟨rfl, l4⟩⟩, fun r n1 c1 n2 c2 e => by cases e⟩
    · have hne : ∀ n c, v ≠ .ref q 0 n c := fun n2 c2 e => h.ds b k _ _ hw hv hb q _ _ n2 c2 rfl e
      obtain ⟨m1, m2⟩ := hq q _ l5 hne
      exact ⟨⟨ho.le, l2, .inr ⟨q, c, ex, rfl, l4, m1, l6⟩⟩, fun r n1 c1 n2 c2 e => by injection e with e1; subst e1; exact m2 _ _⟩
  refine ⟨?_, h.xn, h.xb, h.nb, h.nl, by rw [List.length_set, h.bl], h.nx, fun b hb => ?_, fun b c w z hw hz hbc => ?_⟩
  · rw [← KX.setB (bs := bs)]; exact Le.set ho.le
  · rw [← KX.setB (bs := bs)]
    by_cases e : b = k
    · subst e
      refine ⟨v', by rw [List.getElem?_set_self (by rw [h.bl]; exact hb)], ?_⟩
      rw [if_pos rfl]
      exact ho.setBase hkb
    · obtain ⟨w, h1, h2⟩ := h.bf b hb
      refine ⟨w, by rw [List.getElem?_set_ne (Ne.symm e)]; exact h1, ?_⟩
      rw [if_neg e]
      exact (hother b w e h1 hb).1.setBase hkb
  · have hlt : ∀ {j x}, bs[j]? = some x → j < n := fun {j x} e => by rw [← h.bl]; exact (List.getElem?_eq_some_iff.1 e).1
    by_cases e1 : b = k
    · subst e1
      rw [List.getElem?_set_self (by rw [h.bl]; exact hk)] at hw
      injection hw with hw
      subst hw
      rw [List.getElem?_set_ne hbc] at hz
      intro r n1 c1 n2 c2 g1 g2
      exact (hother c z (Ne.symm hbc) hz (hlt hz)).2 r n2 c2 n1 c1 g2 g1
    · rw [List.getElem?_set_ne (Ne.symm e1)] at hw
      by_cases e2 : c = k
      · subst e2
        rw [List.getElem?_set_self (by rw [h.bl]; exact hk)] at hz
        injection hz with hz
        subst hz
        exact (hother b w e1 hw (hlt hw)).2
      · rw [List.getElem?_set_ne (Ne.symm e2)] at hz
        exact h.ds b c w z hw hz hbc
end
end Go.Cl.Gd
set_option linter.unusedSimpArgs false
set_option linter.unusedVariables false
namespace Go.Cl.Gd
open Go.Proofs
variable {W : World} {G : Nat → CV}
set_option maxRecDepth 8000
/-- What New has at hand. -/
structure NX (X H0 : Hp) (u : UUnit) (p c : Nat → Bool) (q1 gp q5 rr rc ri rk : Nat) (rn rb : Nat) : Prop where
  le : Le H0 X
  uu : X q1 = some (.cells (unitC u))
  g : X gp = some (.cells [.ref rn 0 u.blocks.length u.blocks.length, .ref rb 0 u.blocks.length u.blocks.length, .nilsl, .ref ri 0 u.blocks.length u.blocks.length, .ref rk 0 u.blocks.length u.blocks.length])
  m : X q5 = some (.cells [.ref rr 0 u.regs.toNat u.regs.toNat, .ref rc 0 u.spill.toNat u.spill.toNat])
  r : X rr = some (.cells (boolC u.regs.toNat p))
  cc : X rc = some (.cells (boolC u.spill.toNat c))
  i : X ri = some (.cells (genC u.blocks.length fun _ => 0))
  k : X rk = some (.cells (genC u.blocks.length fun _ => 0))
  gi : gp ≠ ri
  gk : gp ≠ rk
  ik : ri ≠ rk
  g0 : H0 gp = none
  i0 : H0 ri = none
  k0 : H0 rk = none
theorem NX.more {X X' H0 : Hp} {u : UUnit} {p c : Nat → Bool} {q1 gp q5 rr rc ri rk rn rb : Nat} (h : NX X H0 u p c q1 gp q5 rr rc ri rk rn rb) (hl : Le X X') : NX X' H0 u p c q1 gp q5 rr rc ri rk rn rb :=
  ⟨h.le.trans hl, hl _ _ h.uu, hl _ _ h.g, hl _ _ h.m, hl _ _ h.r, hl _ _ h.cc, hl _ _ h.i, hl _ _ h.k, h.gi, h.gk, h.ik, h.g0, h.i0, h.k0⟩
def befL (N : Nat → List Nat) (i b : Nat) : List Nat := (List.range i).filter fun a => decide (b ∈ N a)
/-- The next lists don't lie in these blocks. -/
def NZ (ns : List CV) (i gp ri rk : Nat) : Prop := ∀ b, b < i → ∀ r n1 c1, ns[b]? = some (.ref r 0 n1 c1) → r ≠ gp ∧ r ≠ ri ∧ r ≠ rk
theorem NZ.put {ns : List CV} {i gp ri rk : Nat} {v : CV} (h : NZ ns i gp ri rk) (hi : i < ns.length) (hv : ∀ r n1 c1, v = .ref r 0 n1 c1 → r ≠ gp ∧ r ≠ ri ∧ r ≠ rk) : NZ (ns.set i v) (i + 1) gp ri rk := by
  intro b hb r n1 c1 e
  by_cases hbi : b = i
  · subst hbi
    rw [List.getElem?_set_self hi] at e
    injection e with e
    exact hv r n1 c1 e
  · rw [List.getElem?_set_ne (Ne.symm hbi)] at e
    exact h b (by omega) r n1 c1 e
theorem SlF.to {A B : Hp} {v : CV} {l : List Int} (h : SlF A v l) (hh : ∀ r n c o, v = .ref r 0 n c → A r = some o → B r = some o) : SlF B v l := by
  rcases h with h | ⟨r, c, cs, h1, h2, h3⟩
  · exact .inl h
  · exact .inr ⟨r, c, cs, h1, hh _ _ _ _ h1 h2, h3⟩
/-- A graph as New leaves it. -/
structure GrOk (H H' : Hp) (gp : Nat) (u : UUnit) (N : Nat → List Nat) (rn rb ro ri rk co : Nat) (ns bs ex : List CV) (I : Nat → Option Nat) : Prop where
  le : Le H H'
  g : H' gp = some (.cells [.ref rn 0 u.blocks.length u.blocks.length, .ref rb 0 u.blocks.length u.blocks.length, .ref ro 0 (ordL N u.blocks.length).length co, .ref ri 0 u.blocks.length u.blocks.length, .ref rk 0 u.blocks.length u.blocks.length])
  n : H' rn = some (.cells ns)
  nn : ∀ b, b < u.blocks.length → ∃ v, ns[b]? = some v ∧ SlF H' v (natL (N b))
  b : H' rb = some (.cells bs)
  bb : ∀ b, b < u.blocks.length → ∃ v, bs[b]? = some v ∧ SlF H' v (natL (befL N u.blocks.length b))
  o : H' ro = some (.cells (nums (natL (ordL N u.blocks.length)) ex))
  o0 : H ro = none
  co : (ordL N u.blocks.length).length ≤ co
  i : H' ri = some (.cells (ptC u.blocks.length I))
  di : DI (fun a x => decide (x ∈ N a)) (ordL N u.blocks.length) (rkOf (ordL N u.blocks.length)) 1 I
  k : H' rk = some (.cells (genC u.blocks.length (rkOf (ordL N u.blocks.length))))
  fx : Fx (fun a x => decide (x ∈ N a)) (ordL N u.blocks.length) (ordL N u.blocks.length).length I
structure nwI (H0 : Hp) (u : UUnit) (p c : Nat → Bool) (N : Nat → List Nat) (q1 gp q5 rr rc ri rk rn rb : Nat) (d : Nat) (m : Nat) (s' : CA) (H' : Hp) : Prop where
  ex : ∃ (i i28 : Nat) (X : Hp) (ns bs : List CV), m = u.blocks.length - i ∧ i ≤ u.blocks.length ∧ s'.env 1 = .ptr q1 0 ∧ s'.env 4 = .ptr gp 0 ∧ s'.env 5 = .ptr q5 0 ∧ s'.env 26 = .sl 6 (u.blocks.map blkC) ∧ s'.env 27 = .int .i64 u.blocks.length ∧ s'.env 28 = .int .i64 i28 ∧ i28 + d = i ∧ s'.ds = [] ∧ NX X H0 u p c q1 gp q5 rr rc ri rk rn rb ∧ NZ ns i gp ri rk ∧ NW X H' rn rb u.blocks.length i N (befL N i) ns bs
structure nwE (H0 : Hp) (u : UUnit) (p c : Nat → Bool) (N : Nat → List Nat) (q1 gp q5 rr rc ri rk rn rb : Nat) (s' : CA) (H' : Hp) : Prop where
  ex : ∃ (X : Hp) (ns bs : List CV), s'.env 4 = .ptr gp 0 ∧ s'.ds = [] ∧ NX X H0 u p c q1 gp q5 rr rc ri rk rn rb ∧ NZ ns u.blocks.length gp ri rk ∧ NW X H' rn rb u.blocks.length u.blocks.length N (befL N u.blocks.length) ns bs
def befT (N : Nat → List Nat) (i t b : Nat) : List Nat := befL N i b ++ if b ∈ (N i).take t then [i] else []
theorem befT_zero {N : Nat → List Nat} {i : Nat} : befT N i 0 = befL N i := by funext b; simp [befT]
theorem befT_end {N : Nat → List Nat} {i t : Nat} (h : (N i).length ≤ t) : befT N i t = befL N (i + 1) := by
  funext b
  simp only [befT, befL]
  rw [List.take_of_length_le h, List.range_succ, List.filter_append]
  congr 1
  by_cases hb : b ∈ N i <;> simp [hb]
theorem befT_step {N : Nat → List Nat} {i t k : Nat} (hn : (N i).Nodup) (hk : (N i)[t]? = some k) : (fun b => if b = k then befT N i t b ++ [i] else befT N i t b) = befT N i (t + 1) := by
  obtain ⟨ht, he⟩ := List.getElem?_eq_some_iff.1 hk
  have htk : (N i).take (t + 1) = (N i).take t ++ [k] := by rw [List.take_succ_eq_append_getElem ht, he]
  have hnk : k ∉ (N i).take t := fun h => by
    have h2 : ((N i).take (t + 1)).Nodup := hn.sublist (List.take_sublist _ _)
    rw [htk, List.nodup_append] at h2
    exact h2.2.2 k h k (by simp) rfl
  funext b
  simp only [befT, htk, List.mem_append, List.mem_singleton]
  by_cases hb : b = k
  · subst hb
    simp [hnk]
  · simp [hb]
theorem befT_len {N : Nat → List Nat} {i t b : Nat} : (befT N i t b).length ≤ i + 1 := by
  simp only [befT, befL, List.length_append]
  have h1 := List.length_filter_le (fun a => decide (b ∈ N a)) (List.range i)
  rw [List.length_range] at h1
  split <;> simp <;> omega
structure nwJ (H0 : Hp) (u : UUnit) (p c : Nat → Bool) (N : Nat → List Nat) (q1 gp q5 rr rc ri rk rn rb i : Nat) (X : Hp) (ns : List CV) (v : CV) (d : Nat) (m : Nat) (s' : CA) (H' : Hp) : Prop where
  ex : ∃ (t t58 : Nat) (bs : List CV), m = (N i).length - t ∧ t ≤ (N i).length ∧ s'.env 1 = .ptr q1 0 ∧ s'.env 4 = .ptr gp 0 ∧ s'.env 5 = .ptr q5 0 ∧ s'.env 6 = .int .i64 i ∧ s'.env 26 = .sl 6 (u.blocks.map blkC) ∧ s'.env 27 = .int .i64 u.blocks.length ∧ s'.env 28 = .int .i64 i ∧ s'.env 56 = v ∧ s'.env 57 = .int .i64 (N i).length ∧ s'.env 58 = .int .i64 t58 ∧ t58 + d = t ∧ s'.ds = [] ∧ NW X H' rn rb u.blocks.length (i + 1) N (befT N i t) ns bs
theorem dd_len : ∀ (t : List Int) (p : Int), (dd p t).length ≤ t.length
  | [], p => by simp [dd]
  | y :: t, p => by
    simp only [dd]
    have h1 := dd_len t p
    have h2 := dd_len t y
    split <;> simp <;> omega
theorem compL_len : ∀ (l : List Int), (compL l).length ≤ l.length
  | [] => by simp [compL]
  | x :: t => by simp only [compL, List.length_cons]; have := dd_len t x; omega
structure nwM (H0 : Hp) (u : UUnit) (p c : Nat → Bool) (N : Nat → List Nat) (q1 gp q5 rr rc ri rk rn rb i : Nat) (s' : CA) (H' : Hp) : Prop where
  ex : ∃ (X : Hp) (ns bs : List CV), s'.env 1 = .ptr q1 0 ∧ s'.env 4 = .ptr gp 0 ∧ s'.env 5 = .ptr q5 0 ∧ s'.env 6 = .int .i64 i ∧ s'.env 26 = .sl 6 (u.blocks.map blkC) ∧ s'.env 27 = .int .i64 u.blocks.length ∧ s'.env 28 = .int .i64 i ∧ s'.ds = [] ∧ NX X H0 u p c q1 gp q5 rr rc ri rk rn rb ∧ NZ ns (i + 1) gp ri rk ∧ NW X H' rn rb u.blocks.length (i + 1) N (befL N i) ns bs
theorem Own.oneCell {H0 H : Hp} {v : CV} {sz : Nat} {xs : List (List CV)} (h : Own H0 H v sz xs) : v.stor = true ∧ v.cells = [v] := by
  rcases h.2.2 with ⟨rfl, _⟩ | ⟨r, c, ex, rfl, _⟩
  · exact ⟨rfl, rfl⟩
  · exact ⟨rfl, rfl⟩
theorem boolC_ne {m n : Nat} {p : Nat → Bool} (hn : 0 < n) : boolC m p ≠ List.replicate n .nilsl := fun e => by
  have := congrArg (fun l => l[0]?) e
  simp only [List.getElem?_replicate, if_pos hn, boolC, List.getElem?_map] at this
  cases h : (List.range m)[0]? <;> rw [h] at this <;> simp at this
theorem gnew_c (hX : CxOk (cx W G)) (hG : G 0 = .iptr formsC) (u : UUnit) (hu : wfU u = true) (H : Hp) :
    CC Tryz.prog W 61 [.agg (unitC u)] H fun x H' => ∃ gp p c rn rb ro ri rk co ns bs ex I, x = .ret (.ptr gp 0) ∧ PLeast (opsOf u) p c ∧ GrOk H H' gp u (nextN u p) rn rb ro ri rk co ns bs ex I := by
  obtain ⟨f1, f2, f3, f4, f5, f6, f7, f8, f9, f10, f11⟩ := wfU_facts hu
  refine CC.of_cw hX Tryz.func61 rfl rfl (Nat.le_of_ble_eq_true rfl) ?_
  refine CW.walk hX mixed d61 rfl ?_
  simp
  intro q1 hq1
  refine CW.walk hX mixed d61 rfl ?_
  simp [unitC]
  refine CW.walk hX mixed d61 rfl ?_
  simp [d61, cfill]
  refine ⟨by omega, by omega, fun rn n1 n2 hrn => ⟨by omega, by omega, fun rb b1 b2 b3 b4 hrb => ⟨by omega, by omega, fun ri i1 i2 i3 i4 i5 i6 hri => ⟨by omega, by omega, fun rk k1 k2 k3 k4 k5 k6 k7 k8 hrk gp g1 g2 g3 g4 g5 g6 g7 g8 g9 g10 hgp => ?_⟩⟩⟩⟩
  have hz : List.map (fun i => [CV.int .i64 0][i % 1]?.getD CV.any) (List.range u.blocks.length) = genC u.blocks.length fun _ => 0 := by simp [genC, Nat.mod_one]
  have hy : List.map (fun i => [CV.nilsl][i % 1]?.getD CV.any) (List.range u.blocks.length) = List.replicate u.blocks.length .nilsl := by
    apply List.ext_getElem?
    intro j
    rw [List.getElem?_map, List.getElem?_replicate]
    rcases Nat.lt_or_ge j u.blocks.length with h | h
    · rw [List.getElem?_range h, if_pos h]; simp [Nat.mod_one]
    · rw [List.getElem?_eq_none (by simpa using h), if_neg (by omega)]; rfl
  rw [hz, hy]
  generalize hH1 : (((((H.set q1 _).set rn _).set rb _).set ri _).set rk _).set gp _ = H1
  have l1 : Le H H1 := by
    rw [← hH1]
    refine (Le.set_new hq1).trans ((Le.set_new ?_).trans ((Le.set_new ?_).trans ((Le.set_new ?_).trans ((Le.set_new ?_).trans (Le.set_new ?_)))))
    · simp [*]
    · simp [*]
    · simp [*]
    · simp [*]
    · simp [*]
  have m1 : H1 q1 = some (.cells (unitC u)) := by rw [← hH1]; simp [*]; rfl
  have mn : H1 rn = some (.cells (List.replicate u.blocks.length .nilsl)) := by rw [← hH1]; simp [*]
  have mb : H1 rb = some (.cells (List.replicate u.blocks.length .nilsl)) := by rw [← hH1]; simp [*]
  have mi : H1 ri = some (.cells (genC u.blocks.length fun _ => 0)) := by rw [← hH1]; simp [*]
  have mk : H1 rk = some (.cells (genC u.blocks.length fun _ => 0)) := by rw [← hH1]; simp [*]
  have mg : H1 gp = some (.cells [.ref rn 0 u.blocks.length u.blocks.length, .ref rb 0 u.blocks.length u.blocks.length, .nilsl, .ref ri 0 u.blocks.length u.blocks.length, .ref rk 0 u.blocks.length u.blocks.length]) := by rw [← hH1]; simp
  clear hH1
  refine CW.walk hX mixed d61 rfl ?_
  have m1' := m1
  simp only [unitC] at m1'
  simp [m1', cfill]
  refine (poisoned_c hX hG u hu H1).k ?_
  rintro x H2 ⟨p, c, rr, rc, rfl, hrc, hr, hc, hle, hpl⟩
  simp
  intro q5 hq5
  generalize hH3 : H2.set q5 _ = H3
  have l3 : Le H2 H3 := by rw [← hH3]; exact Le.set_new hq5
  have m5 : H3 q5 = some (.cells [.ref rr 0 u.regs.toNat u.regs.toNat, .ref rc 0 u.spill.toNat u.spill.toNat]) := by rw [← hH3]; simp
  clear hH3
  have hle0 := hle
  have mn0 := mn
  have mb0 := mb
  replace hle := hle.trans l3
  replace m1 := hle _ _ m1
  replace mn := hle _ _ mn
  replace mb := hle _ _ mb
  replace mi := hle _ _ mi
  replace mk := hle _ _ mk
  replace mg := hle _ _ mg
  replace hr := l3 _ _ hr
  replace hc := l3 _ _ hc
  replace l1 := l1.trans hle
  have e5n : q5 ≠ rn := fun e => by rw [e] at hq5; have := hle0 _ _ mn0; rw [hq5] at this; cases this
  have e5b : q5 ≠ rb := fun e => by rw [e] at hq5; have := hle0 _ _ mb0; rw [hq5] at this; cases this
  clear hle l3 hq5 hrc m1' hle0 mn0 mb0
  clear H1 H2
  have ern : rr ≠ rn := fun e => by rw [e, mn] at hr; injection hr with hr; injection hr with hr; exact boolC_ne (by omega) hr.symm
  have erb : rr ≠ rb := fun e => by rw [e, mb] at hr; injection hr with hr; injection hr with hr; exact boolC_ne (by omega) hr.symm
  have ecn : rc ≠ rn := fun e => by rw [e, mn] at hc; injection hc with hc; injection hc with hc; exact boolC_ne (by omega) hc.symm
  have ecb : rc ≠ rb := fun e => by rw [e, mb] at hc; injection hc with hc; injection hc with hc; exact boolC_ne (by omega) hc.symm
  obtain ⟨N, hN⟩ : ∃ N, nextN u p = N := ⟨_, rfl⟩
  have hNX : NX (hole (hole H3 rn) rb) H u p c q1 gp q5 rr rc ri rk rn rb := by
    refine ⟨fun q o hq => ?_, ?_, ?_, ?_, ?_, ?_, ?_, ?_, ?_, ?_, ?_, hgp, hri, hrk⟩
    · have e1 : q ≠ rn := fun e => by rw [e, hrn] at hq; cases hq
      have e2 : q ≠ rb := fun e => by rw [e, hrb] at hq; cases hq
      simp only [hole, if_neg e1, if_neg e2]
      exact l1 _ _ hq
    all_goals simp [hole, *]
  have hNW : NW (hole (hole H3 rn) rb) H3 rn rb u.blocks.length 0 N (befL N 0) (List.replicate u.blocks.length .nilsl) (List.replicate u.blocks.length .nilsl) := by
    have hxl : Le (hole (hole H3 rn) rb) H3 := hole_le.trans hole_le
    have hkl := le_at (le_at hxl mn) mb
    refine ⟨hkl, by simp [hole], by simp [hole], fun e => b2 e, by simp, by simp, fun b hb => by omega, fun b hb => ⟨.nilsl, by simp [hb], Own.nil hkl⟩, fun b c v w hv hw hbc r n1 c1 n2 c2 e => ?_⟩
    subst e
    rw [List.getElem?_replicate] at hv
    split at hv <;> simp at hv
  generalize hole (hole H3 rn) rb = X at hNX hNW
  clear mn mb mi mk mg m1 hr hc m5 l1
  refine CW.cut (nwE H u p c N q1 gp q5 rr rc ri rk rn rb) ?_ ?_
  · have m1 := hNW.xle _ _ hNX.uu
    simp only [unitC] at m1
    refine CW.walk hX mixed d61 rfl ?_
    simp [m1]
    refine CW.block ?_
    refine CW.loop (nwI H u p c N q1 gp q5 rr rc ri rk rn rb 0) ?_ (m := u.blocks.length) ⟨0, 0, X, _, _, rfl, by omega, by simp, by simp, by simp, by simp, by simp, by simp, rfl, rfl, hNX, (fun b hb => by omega), hNW⟩
    clear m1 hNX hNW
    clear X H3
    rintro m ⟨e, ds⟩ H1 ⟨i, i28, X, ns, bs, rfl, hi, e1, e4, e5, e26, e27, e28, hi28, rfl, hNX, hNZ, hNW⟩
    obtain rfl : i = i28 := by omega
    dsimp only at e1 e4 e5 e26 e27 e28
    by_cases hil : i < u.blocks.length
    rotate_left
    · refine CW.walk hX mixed d61 rfl ?_
      simp [e27, e28, hil]
      refine CW.walk hX mixed d61 rfl ?_
      simp
      obtain rfl : i = u.blocks.length := by omega
      exact ⟨X, ns, bs, by simp [e4], rfl, hNX, hNZ, hNW⟩
    obtain ⟨k, hke⟩ : ∃ k, u.blocks[i] = k := ⟨_, rfl⟩
    have hk : u.blocks[i]? = some k := by rw [List.getElem?_eq_getElem hil, hke]
    obtain ⟨g1', hops, g3', g4'⟩ := wfB_facts hu hk
    refine CW.walk hX mixed d61 rfl ?_
    simp [e27, e28, hil]
    refine CW.walk hX mixed d61 rfl ?_
    simp
    refine CW.cut (nwI H u p c N q1 gp q5 rr rc ri rk rn rb 1 (u.blocks.length - (i + 1))) ?_ ?_
    · refine CW.block ?_
      refine CW.walk hX mixed d61 rfl ?_
      simp [e26, e28, hil, hke, cfill, blkC]
      intro q7 hq7
      replace hNW := hNW.more (Le.set_new (o := .cells (blkC k)) hq7)
      have m7 : (H1.set q7 (.cells (blkC k))) q7 = some (.cells (blkC k)) := set_at
      simp only [blkC, blkT] at hNW m7
      generalize H1.set q7 _ = H2 at hNW m7 ⊢
      clear hq7
      clear H1
      have mg := hNW.xle _ _ hNX.g
      have m5 := hNW.xle _ _ hNX.m
      refine CW.cut (nwM H u p c N q1 gp q5 rr rc ri rk rn rb i) ?_ ?_
      rotate_left
      · clear e1 e4 e5 e26 e27 e28 hNX hNZ hNW m7 mg m5
        clear e H2 X ns bs
        rintro ⟨e, ds⟩ H1 ⟨X, ns, bs, e1, e4, e5, e6, e26, e27, e28, rfl, hNX, hNZ, hNW⟩
        dsimp only at e1 e4 e5 e6 e26 e27 e28
        obtain ⟨v, hnv, hsv⟩ := hNW.nx i (by omega)
        have hlen : (v = .nilsl ∧ (N i).length = 0) ∨ ∃ r c, v = .ref r 0 (N i).length c := by
          rcases hsv with ⟨h1, h2⟩ | ⟨r, c, cs, h1, _⟩
          · exact .inl ⟨h1, by simpa [natL] using congrArg List.length h2⟩
          · exact .inr ⟨r, _, by simpa [natL] using h1⟩
        have hnd : (N i).Nodup := by
          rw [← hN]
          simp only [nextN, hk]
          exact List.nodup_range.filter _
        have hNlt : ∀ x ∈ N i, x < u.blocks.length := by rw [← hN]; exact nextN_lt i hil
        have hNl : (N i).length ≤ u.blocks.length := nodup_le _ _ hnd hNlt
        have mg := hNW.xle _ _ hNX.g
        have mn := hNW.le _ _ (KX.rn' hNW.nb)
        refine CW.walk hX mixed d61 rfl ?_
        simp [e4, e6, mg, mn, hil, hnv]
        refine lenK_of hlen ?_
        simp
        refine CW.block ?_
        refine CW.loop (nwJ H u p c N q1 gp q5 rr rc ri rk rn rb i X ns v 0) ?_ (m := (N i).length) ⟨0, 0, bs, rfl, by omega, by simp [e1], by simp [e4], by simp [e5], by simp [e6], by simp [e26], by simp [e27], by simp [e28], by simp, by simp, by simp, rfl, rfl, by rw [befT_zero]; exact hNW⟩
        clear e1 e4 e5 e6 e26 e27 e28 mg mn hNW
        clear e H1 bs
        rintro m ⟨e, ds⟩ H1 ⟨t, t58, bs, rfl, ht, e1, e4, e5, e6, e26, e27, e28, e56, e57, e58, ht58, rfl, hNW⟩
        obtain rfl : t = t58 := by omega
        dsimp only at e1 e4 e5 e6 e26 e27 e28 e56 e57 e58
        by_cases htl : t < (N i).length
        rotate_left
        · refine CW.walk hX mixed d61 rfl ?_
          simp [e57, e58, htl]
          refine CW.walk hX mixed d61 rfl ?_
          simp
          rw [befT_end (by omega)] at hNW
          exact ⟨i + 1, i, X, ns, bs, rfl, by omega, by simp [e1], by simp [e4], by simp [e5], by simp [e26], by simp [e27], by simp [e28], rfl, rfl, hNX, hNZ, hNW⟩
        refine CW.walk hX mixed d61 rfl ?_
        simp [e57, e58, htl]
        refine CW.walk hX mixed d61 rfl ?_
        simp
        obtain ⟨k2, hk2⟩ : ∃ k2, (N i)[t]? = some k2 := ⟨_, List.getElem?_eq_getElem htl⟩
        have hkn := hNlt k2 (List.mem_of_getElem? hk2)
        rcases hsv with ⟨h1, h2⟩ | ⟨rv, cv, csv, hvr, mvX, hcs⟩
        · have := congrArg List.length h2
          simp [natL] at this
          rw [this] at htl
          simp at htl
        rw [natL_len] at hvr
        subst hvr
        have gk : csv[t]? = some (ci (k2 : Int)) := hcs t _ (by rw [natL, List.getElem?_map, hk2]; rfl)
        refine CW.cut (nwJ H u p c N q1 gp q5 rr rc ri rk rn rb i X ns (.ref rv 0 (N i).length ((N i).length + cv)) 1 ((N i).length - (t + 1))) ?_ ?_
        · refine CW.block ?_
          have mv := hNW.xle _ _ mvX
          refine CW.walk hX mixed d61 rfl ?_
          simp [e56, e58, htl, mv, gk]
          have mg := hNW.xle _ _ hNX.g
          have mb := hNW.le _ _ KX.rb'
          have hbl := hNW.bl
          obtain ⟨vk, hvk, hok⟩ := hNW.bf k2 hkn
          refine CW.walk1 hX mixed d61 rfl ?_
          have hvk2 : bs[k2]'(by omega) = vk := by
            rw [List.getElem?_eq_getElem (by omega)] at hvk
            injection hvk
          simp [d61, e4, e6, mg, mb, hbl, hkn, hvk2, cfill, -vcAppend]
          intro r hr
          have hbt := befT_len (N := N) (i := i) (t := t) (b := k2)
          refine (hok.more hr).append2 (ys := [[.int .i64 (i : Int)]]) (by simp) (by simp [ints, natL]; omega) (src_one set_at rfl) fun v' H4 how4 hq4 => ?_
          have hNW2 := hNW.more (Le.set_new (o := .cells [CV.int .i64 (i : Int)]) hr)
          obtain ⟨r', c', rfl⟩ := how4.isRef (by simp)
          have mb4 := how4.le _ _ KX.rb'
          have mg4 := how4.le _ _ ((show Le X (KX X rn rb ns bs) from (Le.set_new hNW.xn).trans (Le.set_new (by rw [hset_none_iff]; exact ⟨Ne.symm hNW.nb, hNW.xb⟩))) _ _ hNX.g)
          have mg5 := hNW2.xle _ _ hNX.g
          have nbr : rb ≠ r := fun e => by rw [e, hr] at mb; cases mb
          simp [stabI, Stab, IsV, mg, mb, mg4, mg5, mb4, nbr, hbl, hkn, hvk2, -List.length_append]
          rw [take_drop_set (by omega)]
          have how5 : Own (KX X rn rb ns bs) H4 (.ref r' 0 (ints (natL (befT N i t k2)) ++ [[CV.int IntKind.i64 ↑i]]).length c') 1 (ints (natL (befT N i t k2 ++ [i]))) := by
            rw [natL_snoc, show ints (natL (befT N i t k2) ++ [(i : Int)]) = ints (natL (befT N i t k2)) ++ [[.int .i64 (i : Int)]] by simp [ints]]
            exact how4
          have hfin := hNW2.putB hkn hvk how5 hq4
          rw [befT_step hnd hk2] at hfin
          exact ⟨hkn, t + 1, t, _, rfl, by omega, by simp [e1], by simp [e4], by simp [e5], by simp [e6], by simp [e26], by simp [e27], by simp [e28], by simp [e56], by simp [e57], by simp [e58], rfl, rfl, hfin⟩
        · clear e1 e4 e5 e6 e26 e27 e28 e56 e57 e58 hNW
          clear e H1 bs
          rintro ⟨e, ds⟩ H1 ⟨t2, t58, bs, hm, ht2, e1, e4, e5, e6, e26, e27, e28, e56, e57, e58, ht58, rfl, hNW⟩
          dsimp only at e1 e4 e5 e6 e26 e27 e28 e56 e57 e58
          obtain rfl : t2 = t + 1 := by omega
          obtain rfl : t = t58 := by omega
          refine CW.walk1 hX mixed d61 rfl ?_
          simp [e58]
          exact ⟨(N i).length - (t + 1), by omega, t + 1, t + 1, bs, rfl, ht2, by simp [e1], by simp [e4], by simp [e5], by simp [e6], by simp [e26], by simp [e27], by simp [e28], by simp [e56], by simp [e57], by simp; rw [wrapI (by omega) (by omega)], rfl, rfl, hNW⟩
      refine CW.walk1 hX mixed d61 rfl ?_
      simp [d61, e4, e5, mg, m5, m7]
      have hx1 := exits_c hX k (by omega) H2
      simp only [blkC, blkT] at hx1
      refine hx1.k ?_
      rintro x H3 ⟨va, rfl, hva⟩
      have m73 := hva.le _ _ m7
      have m53 := hva.le _ _ m5
      simp [d61, m73, m53]
      have hx2 := goes_c hX k.en H3
      simp only [endC] at hx2
      refine ⟨?_, hx2.k ?_⟩
      · repeat' (first | exact stabI_le rfl hva.le | refine ⟨?_, ?_⟩)
      rintro x H4 ⟨vb, rfl, hvb⟩
      have m74 := hvb.le _ _ m73
      have m54 := hvb.le _ _ m53
      simp [d61, m74, m54]
      have hx3 := caught_c hX u hu k hk p c u.spill.toNat rr rc (hvb.le _ _ (hva.le _ _ (hNW.xle _ _ hNX.r))) (hvb.le _ _ (hva.le _ _ (hNW.xle _ _ hNX.cc)))
      simp only [blkC, blkT] at hx3
      refine ⟨?_, hx3.k ?_⟩
      · repeat' (first | exact stabI_le rfl hvb.le | exact stabI_le rfl (hva.le.trans hvb.le) | refine ⟨?_, ?_⟩)
      rintro x H5 ⟨vc, rfl, hvc⟩
      obtain ⟨sa, ca⟩ := Own.oneCell hva
      obtain ⟨sb, cb⟩ := Own.oneCell hvb
      obtain ⟨sc, cc⟩ := Own.oneCell hvc
      simp only [CV.stor, CV.cells] at sa ca sb cb sc cc
      simp [d61, cfill, sa, ca, sb, cb, sc, cc]
      refine ⟨stabI_le rfl hvc.le, fun r hr => ?_⟩
      generalize hvs : va :: vb :: vc :: List.drop 3 (List.map (fun i => [CV.nilsl][i % 1]?.getD CV.any) (List.range 3)) = vs
      have hl5 : Le H5 (H5.set r (.cells vs)) := Le.set_new hr
      have hcc : CC Tryz.prog W 83 [.ref r 0 3 3] (H5.set r (.cells vs)) fun x H' => ∃ v, x = .ret v ∧ Own (H5.set r (.cells vs)) H' v 1 (ints (waysL p k)) := by
        have := concat_c hX r 3 [exitsL k, goesL k.en, caughtL p k] vs ?_ (by simp) (H := H5.set r (.cells vs)) set_at ?_
        · simpa [waysL] using this
        · have h1 : (exitsL k).length ≤ 400 := by
            simp only [exitsL, List.length_map]
            exact Nat.le_trans (List.length_filter_le _ _) hops
          have h2 : (goesL k.en).length ≤ 2 := by
            simp only [goesL]
            split
            · simp
            · split <;> simp
          have h3 : (caughtL p k).length ≤ 1 := by
            simp only [caughtL]
            split <;> simp
          simp
          omega
        · intro j l hj
          rw [← hvs]
          rcases j with _|_|_|j
          · simp at hj; subst hj; exact ⟨va, by simp, hva.slF.mono ((hvb.le.trans hvc.le).trans (hvs ▸ hl5))⟩
          · simp at hj; subst hj; exact ⟨vb, by simp, hvb.slF.mono (hvc.le.trans (hvs ▸ hl5))⟩
          · simp at hj; subst hj; exact ⟨vc, by simp, hvc.slF.mono (hvs ▸ hl5)⟩
          · simp at hj
      refine hcc.k ?_
      rintro x H6 ⟨vd, rfl, hvd⟩
      simp [d61]
      have hNi : ∀ L, List.Perm L (waysL p k) → L.Pairwise (· ≤ ·) → natL (N i) = compL L := fun L hp hs => by
        rw [next_sorted hu hk hp hs, ← hN]
        simp only [nextN, hk]
        rfl
      have hwl : (waysL p k).length ≤ 1000000 := by
        have h1 : (exitsL k).length ≤ 400 := by
          simp only [exitsL, List.length_map]
          exact Nat.le_trans (List.length_filter_le _ _) hops
        have h2 : (goesL k.en).length ≤ 2 := by
          simp only [goesL]
          split
          · simp
          · split <;> simp
        have h3 : (caughtL p k).length ≤ 1 := by
          simp only [caughtL]
          split <;> simp
        simp [waysL]
        omega
      have hNW5 := hNW.more (((hva.le.trans hvb.le).trans hvc.le).trans hl5)
      rcases hvd.cases with ⟨rfl, hw0⟩ | ⟨r2, c2, ex2, rfl, hc2, hr2, hm2⟩
      · refine ⟨stabI_le rfl hvd.le, (sorted_nil hX H6).k ?_⟩
        rintro x H7 ⟨rfl, rfl⟩
        have hNW6 := hNW5.more hvd.le
        have mn := hNW6.le _ _ (KX.rn' hNW6.nb)
        have hnl := hNW6.nl
        simp [d61, mn, hnl, hil]
        rw [take_drop_set (by omega)]
        refine ⟨stabI_le rfl (Le.refl _), by omega, X, _, bs, by simp [e1], by simp [e4], by simp [e5], by simp, by simp [e26], by simp [e27], by simp [e28], rfl, hNX, hNZ.put (by omega) (fun r n1 c1 e => by cases e), hNW6.putN hil (.inl ⟨rfl, ?_⟩)⟩
        exact hNi [] (by rw [hw0]) List.Pairwise.nil
      · refine ⟨stabI_le rfl hvd.le, (sorted_c hX (waysL p k) r2 c2 ex2 hwl hc2 H6 hm2).k ?_⟩
        rintro x H7 ⟨L, ex', hp, hs, rfl, rfl⟩
        have hNW6 := hNW5.fix (H' := H6.set r2 (.cells (nums (compL L) ex'))) (hvd.le.put hr2) hr2 set_at
        have mn := hNW6.le _ _ (KX.rn' hNW6.nb)
        have hnl := hNW6.nl
        have hxr := hNW5.xle.none hr2
        have mg6 := hvd.le _ _ (hNW5.xle _ _ hNX.g)
        have mg7 := hNW6.xle _ _ (Le.set_new (o := .cells (nums (compL L) ex')) hxr _ _ hNX.g)
        simp [d61, mn, hnl, hil]
        rw [take_drop_set (by omega)]
        refine ⟨?_, by omega, X.set r2 (.cells (nums (compL L) ex')), _, bs, by simp [e1], by simp [e4], by simp [e5], by simp, by simp [e26], by simp [e27], by simp [e28], rfl, hNX.more (Le.set_new hxr), hNZ.put (by omega) (fun r n1 c1 e => by injection e with e1; subst e1; exact ⟨fun e2 => (by rw [e2, hNX.g] at hxr; cases hxr), fun e2 => (by rw [e2, hNX.i] at hxr; cases hxr), fun e2 => (by rw [e2, hNX.k] at hxr; cases hxr)⟩), hNW6.putN hil (.inr ⟨r2, c2 - (compL L).length, _, ?_, set_at, fun j y hj => ?_⟩)⟩
        · simp [stabI, Stab, IsV, mg6, mg7]
        · rw [hNi L hp hs]
          have hcl : (compL L).length ≤ (waysL p k).length := by rw [← hp.length_eq]; exact compL_len L
          congr 1
          omega
        · rw [hNi L hp hs] at hj
          simp only [nums]
          rw [List.getElem?_append_left (by rw [List.length_map]; exact (List.getElem?_eq_some_iff.1 hj).1), List.getElem?_map, hj]
          rfl
    · clear e1 e4 e5 e26 e27 e28 hNX hNZ hNW
      clear e H1 X ns bs
      rintro ⟨e, ds⟩ H1 ⟨i2, i28, X, ns, bs, hm, hi2, e1, e4, e5, e26, e27, e28, hi28, rfl, hNX, hNZ, hNW⟩
      dsimp only at e1 e4 e5 e26 e27 e28
      obtain rfl : i2 = i + 1 := by omega
      obtain rfl : i = i28 := by omega
      refine CW.walk1 hX mixed d61 rfl ?_
      simp [e28]
      exact ⟨u.blocks.length - (i + 1), by omega, i + 1, i + 1, X, ns, bs, rfl, hi2, by simp [e1], by simp [e4], by simp [e5], by simp [e26], by simp [e27], by simp; rw [wrapI (by omega) (by omega)], rfl, rfl, hNX, hNZ, hNW⟩
  rintro ⟨e, ds⟩ H4 ⟨X, ns, bs, e4, rfl, hNX, hNZ, hNW⟩
  dsimp only at e4
  have hgn : gp ≠ rn := fun e => by have := hNX.g; rw [e, hNW.xn] at this; cases this
  have hkn : rk ≠ rn := fun e => by have := hNX.k; rw [e, hNW.xn] at this; cases this
  have hin : ri ≠ rn := fun e => by have := hNX.i; rw [e, hNW.xn] at this; cases this
  have hgb : gp ≠ rb := fun e => by have := hNX.g; rw [e, hNW.xb] at this; cases this
  have hkb : rk ≠ rb := fun e => by have := hNX.k; rw [e, hNW.xb] at this; cases this
  have hib : ri ≠ rb := fun e => by have := hNX.i; rw [e, hNW.xb] at this; cases this
  have hxl := hNW.xle
  have hNb : ∀ b, b < u.blocks.length → ∀ k ∈ N b, k < u.blocks.length := by rw [← hN]; exact nextN_lt
  have hNnd : ∀ b, b < u.blocks.length → (N b).length ≤ 100000 := fun b hb => by
    have h1 : (N b).Nodup := by
      rw [← hN]
      simp only [nextN]
      split
      · exact List.nodup_range.filter _
      · exact List.nodup_nil
    have := nodup_le _ _ h1 (hNb b hb)
    omega
  have hB : ∀ q, q ≠ gp → q ≠ rk → (hole (hole H4 gp) rk) q = H4 q := fun q h1 h2 => by simp [hole, h1, h2]
  have hWB : WB (hole (hole H4 gp) rk) gp rk u.blocks.length rn N ns := by
    refine ⟨by simp [hole], by simp [hole], hNX.gk, ?_, fun b hb => ?_⟩
    · rw [hB _ (Ne.symm hgn) (Ne.symm hkn)]; exact hNW.le _ _ (KX.rn' hNW.nb)
    · obtain ⟨v, h1, h2⟩ := hNW.nx b hb
      refine ⟨v, h1, SlF.to h2 fun r n1 c1 o e ho => ?_⟩
      subst e
      obtain ⟨z1, z2, z3⟩ := hNZ b hb r n1 c1 h1
      rw [hB _ z1 z3]
      exact hxl _ _ ho
  refine CW.walk hX mixed d61 rfl ?_
  simp [e4]
  refine (walk_c hX hNb (by omega) (by omega) hNnd hWB (hole_le.trans hole_le) (hxl _ _ hNX.g) (hxl _ _ hNX.k)).k ?_
  rintro x H5 ⟨rfl, ro, co, ex, hWR⟩
  simp
  have hO := ord_of (by omega : 0 < u.blocks.length) hNb (f := u.blocks.length) (Nat.le_refl _)
  have hoi : ro ≠ ri := fun e => by
    have := hWR.ob
    rw [e, hB _ (Ne.symm hNX.gi) hNX.ik, hxl _ _ hNX.i] at this
    cases this
  have h5 : ∀ q, q ≠ gp → q ≠ rk → q ≠ ri → ∀ o, H4 q = some o → (hole H5 ri) q = some o := fun q h1 h2 h3 o h4 => by
    simp only [hole, if_neg h3]
    exact hWR.le _ _ (by rw [hB _ h1 h2]; exact h4)
  have hDm : DmB (hole H5 ri) gp rb ri rk ro co u.blocks.length (.ref rn 0 u.blocks.length u.blocks.length) (ordL N u.blocks.length) (rkOf (ordL N u.blocks.length)) (befL N u.blocks.length) bs (nums (natL (ordL N u.blocks.length)) ex) := by
    refine ⟨?_, ?_, fun b hb => ?_, ?_, fun j b hj => ?_, hWR.co, ?_, by simp [hole]⟩
    · simp only [hole, if_neg hNX.gi]; exact hWR.g
    · exact h5 _ (Ne.symm hgb) (Ne.symm hkb) (Ne.symm hib) _ (hNW.le _ _ KX.rb')
    · obtain ⟨v, h1, h2⟩ := hNW.bf b hb
      refine ⟨v, h1, SlF.to h2.slF fun r n1 c1 o e ho => ?_⟩
      subst e
      have hk0 : KX X rn rb ns bs r = none := by
        rcases h2.2.2 with ⟨e, _⟩ | ⟨q, c', ex', e, e2, _⟩
        · cases e
        · injection e with e3; subst e3; exact e2
      obtain ⟨_, _, hx0⟩ := KX.none hk0
      exact h5 r (fun e => by rw [e, hNX.g] at hx0; cases hx0) (fun e => by rw [e, hNX.k] at hx0; cases hx0) (fun e => by rw [e, hNX.i] at hx0; cases hx0) o ho
    · simp only [hole, if_neg hoi]; exact hWR.o
    · simp only [nums]
      rw [List.getElem?_append_left (by simp [natL]; exact (List.getElem?_eq_some_iff.1 hj).1), List.getElem?_map, natL, List.getElem?_map, hj]
      rfl
    · simp only [hole, if_neg (Ne.symm hNX.ik)]; exact hWR.k
  have hri5 : H5 ri = some (.cells (genC u.blocks.length fun _ => 0)) := hWR.le _ _ (by rw [hB _ (Ne.symm hNX.gi) hNX.ik]; exact hxl _ _ hNX.i)
  have hON : OrdN (fun a x => decide (x ∈ N a)) (ordL N u.blocks.length) (rkOf (ordL N u.blocks.length)) u.blocks.length := ⟨hO.ok, hO.lt⟩
  refine CW.walk hX mixed d61 rfl ?_
  simp [e4]
  refine (dominate_c hX (by omega) hON (L := befL N u.blocks.length) ?_ ?_ ?_ hDm hole_le hri5).k ?_
  · intro k b hk hb
    simp [befL, hk]
  · intro b
    have := List.length_filter_le (fun a => decide (b ∈ N a)) (List.range u.blocks.length)
    rw [List.length_range] at this
    simp only [befL]
    omega
  · intro b k hk
    simp [befL] at hk
    exact hk.1
  rintro x H6 ⟨rfl, I, hDI, hFx, rfl⟩
  simp
  refine CW.walk1 hX mixed d61 rfl ?_
  simp [e4]
  have h6 : ∀ q, q ≠ gp → q ≠ rk → q ≠ ri → ∀ o, H4 q = some o → (H5.set ri (.cells (ptC u.blocks.length I))) q = some o := fun q h1 h2 h3 o h4 => by
    rw [hset_ne h3]
    exact hole_le _ _ (h5 q h1 h2 h3 o h4)
  refine ⟨p, ⟨c, hpl⟩, rn, rb, ro, ri, rk, co, ns, bs, ex, I, ?_⟩
  rw [hN]
  refine ⟨fun q o hq => ?_, ?_, ?_, fun b hb => ?_, ?_, fun b hb => ?_, ?_, ?_, hWR.co, set_at, hDI, ?_, hFx⟩
  · exact h6 q (fun e => by rw [e, hNX.g0] at hq; cases hq) (fun e => by rw [e, hNX.k0] at hq; cases hq) (fun e => by rw [e, hNX.i0] at hq; cases hq) o (hxl _ _ (hNX.le _ _ hq))
  · rw [hset_ne hNX.gi]; exact hWR.g
  · exact h6 _ (Ne.symm hgn) (Ne.symm hkn) (Ne.symm hin) _ (hNW.le _ _ (KX.rn' hNW.nb))
  · obtain ⟨v, h1, h2⟩ := hNW.nx b hb
    refine ⟨v, h1, SlF.to h2 fun r n1 c1 o e ho => ?_⟩
    subst e
    obtain ⟨z1, z2, z3⟩ := hNZ b hb r n1 c1 h1
    exact h6 r z1 z3 z2 o (hxl _ _ ho)
  · exact h6 _ (Ne.symm hgb) (Ne.symm hkb) (Ne.symm hib) _ (hNW.le _ _ KX.rb')
  · obtain ⟨v, h1, h2⟩ := hDm.bb b hb
    refine ⟨v, h1, SlF.to h2 fun r n1 c1 o e ho => ?_⟩
    by_cases e2 : r = ri
    · subst e2; simp [hole] at ho
    · rw [hset_ne e2]; exact hole_le _ _ ho
  · rw [hset_ne hoi]; exact hWR.o
  · have h1 := hWR.ob
    rw [hB _ hWR.og hWR.ok] at h1
    exact (hNX.le.trans hxl).none h1
  · rw [hset_ne (Ne.symm hNX.ik)]; exact hWR.k
end Go.Cl.Gd
