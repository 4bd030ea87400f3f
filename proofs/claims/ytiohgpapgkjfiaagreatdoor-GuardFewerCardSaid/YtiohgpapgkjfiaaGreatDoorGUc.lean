/- DERIVED HERE. The guard's form: fresh, put. DERIVED HERE. The guard's form: side. DERIVED HERE. The guard's convert. DERIVED HERE. The guard's Convert. DERIVED HERE. The reference's guarded. DERIVED HERE. The guard's follower. DERIVED HERE. The guard's join. DERIVED HERE. The guard's again. DERIVED HERE. The guard's Join, Joins, All. DERIVED HERE. The law's alive. -/
import Derived.Test.YtiohgpapgkjfiaaGreatDoorGUb
import Derived.Test.YtiohgpapgkjfiaaGreatDoorGUa
set_option linter.unusedSimpArgs false
set_option linter.unusedVariables false
namespace Go.Cl.Gu
open Go.Proofs Go.Cl.Gd
variable {W : World} {G : Nat → CV}
set_option maxRecDepth 8000
set_option maxHeartbeats 1000000
theorem fresh_c (hX : CxOk (cx W G)) {fp xp : Nat} {ov v0 v5 vw vr : CV} {pa rg cd sp : Int} (hrg : 0 ≤ rg ∧ rg ≤ 1000000000) (hne : fp ≠ xp) (H : Hp) (hf : H fp = some (.cells [.ptr xp 0, ov])) (hx : H xp = some (.cells [v0, ci pa, ci rg, ci cd, ci sp, v5, vw, vr])) :
    CC Tryz.prog W 67 [.ptr fp 0] H fun x H' => x = .ret (ci rg) ∧ H' = H.set xp (.cells [v0, ci pa, ci (rg + 1), ci cd, ci sp, v5, vw, vr]) := by
  have hw1 : IntKind.i64.wrap (rg + 1) = rg + 1 := wrapI (by omega) (by omega)
  have hw2 : IntKind.i64.wrap (rg + 1 - 1) = rg := by rw [show rg + 1 - 1 = rg by omega, wrapI (by omega) (by omega)]
  have hw3 : IntKind.i64.wrap rg = rg := wrapI (by omega) (by omega)
  refine CC.of_cw hX Tryz.func67 rfl rfl (Nat.le_of_ble_eq_true rfl) ?_
  refine CW.walk hX mixed d67 rfl ?_
  simp
  refine CW.walk hX mixed d67 rfl ?_
  simp [hf, hx, hw1]
  refine CW.walk hX mixed d67 rfl ?_
  simp [hf, hne, Ne.symm hne, hw2, hw3]
  refine CW.walk1 hX mixed d67 rfl ?_
  simp
theorem put_c (hX : CxOk (cx W G)) {fp : Nat} {xv ov lv : CV} {xs ys : List (List CV)} (hys : ∀ e ∈ ys, e.length = 7) (hl : xs.length + ys.length ≤ 1000000) (B H : Hp) (hown : Own (B.set fp (.cells [xv, ov])) H ov 7 xs) (hsrc : ∀ K' : Nat → List CV → Prop, K' ys.length ys.flatten → srcC H 7 lv K') :
    CC Tryz.prog W 68 [.ptr fp 0, lv] H fun x H' => x = .ret (.tuple []) ∧ ∃ ov', Own (B.set fp (.cells [xv, ov'])) H' ov' 7 (xs ++ ys) := by
  have hf := hown.le _ _ set_at
  refine CC.of_cw hX Tryz.func68 rfl rfl (Nat.le_of_ble_eq_true rfl) ?_
  refine CW.walk1 hX mixed d68 rfl ?_
  simp [hf, -vcAppend]
  refine hown.append2 (ys := ys) hys (by simp; omega) hsrc fun v' H4 how4 _ => ?_
  have hf4 := how4.le _ _ set_at
  obtain ⟨sa, ca⟩ := Own.oneCell how4
  simp only [CV.stor, CV.cells] at sa ca
  simp [hf4, sa, ca]
  have := how4.setBase (r := fp) (o := .cells [xv, v']) (by rw [set_at]; simp)
  rw [set_set] at this
  exact ⟨v', this⟩
theorem sideP_snoc {g z : Int} {o : UOp} : ∀ {l : List UOp} {r : Int}, sideP g z (l ++ [o]) r = ((sideP g z l r).1 ++ (if o.guard = -1 then [{ o with guard := g }] else [⟨12, (sideP g z l r).2, g, o.guard, z, 0, -1⟩, { o with guard := (sideP g z l r).2 }]), if o.guard = -1 then (sideP g z l r).2 else (sideP g z l r).2 + 1)
  | [], r => by
    simp only [List.nil_append, sideP]
    split <;> simp
  | a :: l, r => by
    have h1 := sideP_snoc (g := g) (z := z) (o := o) (l := l) (r := r)
    have h2 := sideP_snoc (g := g) (z := z) (o := o) (l := l) (r := r + 1)
    simp only [List.cons_append, sideP]
    split
    · rw [h1]; rfl
    · rw [h2]; rfl
theorem sideP_regs {g z : Int} : ∀ {l : List UOp} {r : Int}, r ≤ (sideP g z l r).2 ∧ (sideP g z l r).2 ≤ r + l.length ∧ (sideP g z l r).1.length ≤ 2 * l.length
  | [], r => by simp [sideP]
  | a :: l, r => by
    have h1 := sideP_regs (g := g) (z := z) (l := l) (r := r)
    have h2 := sideP_regs (g := g) (z := z) (l := l) (r := r + 1)
    simp only [sideP]
    split
    · simp only [List.length_cons]; omega
    · simp only [List.length_cons]; omega
end Go.Cl.Gu
set_option linter.unusedSimpArgs false
set_option linter.unusedVariables false
namespace Go.Cl.Gu
open Go.Proofs Go.Cl.Gd
variable {W : World} {G : Nat → CV}
set_option maxRecDepth 8000
set_option maxHeartbeats 1000000
def xCells (v0 v5 vw vr : CV) (pa rg cd sp : Int) : List CV := [v0, ci pa, ci rg, ci cd, ci sp, v5, vw, vr]
/-- A form: the unit's block, the operations so far. -/
def FS (B : Hp) (fp xp : Nat) (v0 v5 vw vr : CV) (pa cd sp rg : Int) (xs : List (List CV)) (H : Hp) : Prop :=
  ∃ ov, Own ((B.set xp (.cells (xCells v0 v5 vw vr pa rg cd sp))).set fp (.cells [.ptr xp 0, ov])) H ov 7 xs
section
variable {B H : Hp} {fp xp : Nat} {v0 v5 vw vr : CV} {pa cd sp rg : Int} {xs : List (List CV)}
theorem FS.mono {H' : Hp} (h : FS B fp xp v0 v5 vw vr pa cd sp rg xs H) (hl : Le H H') : FS B fp xp v0 v5 vw vr pa cd sp rg xs H' := by
  obtain ⟨ov, h⟩ := h
  exact ⟨ov, h.mono hl⟩
theorem FS.base {B' : Hp} (h : FS B fp xp v0 v5 vw vr pa cd sp rg xs H) (hl : Le B' B) : FS B' fp xp v0 v5 vw vr pa cd sp rg xs H := by
  obtain ⟨ov, h⟩ := h
  exact ⟨ov, h.base (Le.set (Le.set hl))⟩
theorem FS.grow {q : Nat} {o : Ob} (h : FS B fp xp v0 v5 vw vr pa cd sp rg xs H) (hq : H q = none) : FS (B.set q o) fp xp v0 v5 vw vr pa cd sp rg xs (H.set q o) := by
  obtain ⟨ov, h⟩ := h
  have hf := h.le _ _ set_at
  have hqf : q ≠ fp := fun e => by rw [← e, hq] at hf; cases hf
  have hqx : q ≠ xp := fun e => by
    by_cases e2 : xp = fp
    · exact hqf (e.trans e2)
    · have := h.le xp _ (by rw [hset_ne e2]; exact set_at)
      rw [← e, hq] at this
      cases this
  have h2 := h.grow (o := o) hq
  rw [set_comm (Ne.symm hqf), set_comm (Ne.symm hqx)] at h2
  exact ⟨ov, h2⟩
theorem FS.set {q : Nat} {o : Ob} (h : FS B fp xp v0 v5 vw vr pa cd sp rg xs H) (hq : B q ≠ none) (hqf : q ≠ fp) (hqx : q ≠ xp) : FS (B.set q o) fp xp v0 v5 vw vr pa cd sp rg xs (H.set q o) := by
  obtain ⟨ov, h⟩ := h
  have h2 := h.setBase (r := q) (o := o) (by rw [hset_ne hqf, hset_ne hqx]; exact hq)
  rw [set_comm (Ne.symm hqf), set_comm (Ne.symm hqx)] at h2
  exact ⟨ov, h2⟩
theorem FS.at {q : Nat} {o : Ob} (h : FS B fp xp v0 v5 vw vr pa cd sp rg xs H) (hq : B q = some o) (hqf : q ≠ fp) (hqx : q ≠ xp) : H q = some o := by
  obtain ⟨ov, h⟩ := h
  exact h.le _ _ (by rw [hset_ne hqf, hset_ne hqx]; exact hq)
theorem freshF_c (hX : CxOk (cx W G)) (hrg : 0 ≤ rg ∧ rg ≤ 1000000000) (hne : fp ≠ xp) (h : FS B fp xp v0 v5 vw vr pa cd sp rg xs H) :
    CC Tryz.prog W 67 [.ptr fp 0] H fun x H' => x = .ret (ci rg) ∧ FS B fp xp v0 v5 vw vr pa cd sp (rg + 1) xs H' := by
  obtain ⟨ov, h⟩ := h
  have hf := h.le _ _ set_at
  have hx := h.le xp _ (by rw [hset_ne (Ne.symm hne)]; exact set_at)
  refine (fresh_c hX hrg hne H hf hx).mono ?_
  rintro x H' ⟨rfl, rfl⟩
  have h2 := h.setBase (r := xp) (o := .cells (xCells v0 v5 vw vr pa (rg + 1) cd sp)) (by rw [hset_ne (Ne.symm hne), set_at]; simp)
  rw [set_comm hne, set_set] at h2
  exact ⟨rfl, ov, h2⟩
theorem putF_c (hX : CxOk (cx W G)) {lv : CV} {ys : List (List CV)} (hys : ∀ e ∈ ys, e.length = 7) (hl : xs.length + ys.length ≤ 1000000) (h : FS B fp xp v0 v5 vw vr pa cd sp rg xs H) (hsrc : ∀ K' : Nat → List CV → Prop, K' ys.length ys.flatten → srcC H 7 lv K') :
    CC Tryz.prog W 68 [.ptr fp 0, lv] H fun x H' => x = .ret (.tuple []) ∧ FS B fp xp v0 v5 vw vr pa cd sp rg (xs ++ ys) H' := by
  obtain ⟨ov, h⟩ := h
  refine (put_c hX hys hl _ H h hsrc).mono ?_
  rintro x H' ⟨rfl, ov', h2⟩
  exact ⟨rfl, ov', h2⟩
end
/-- The operations of a side so far. -/
def sdX (g z rg : Int) (l : List UOp) (xs : List (List CV)) : List (List CV) := xs ++ (sideP g z l rg).1.map opC
structure sdI (B : Hp) (fp xp : Nat) (v0 v5 vw vr : CV) (pa cd sp rg g z : Int) (l : List UOp) (x0 : CV) (xs : List (List CV)) (d m : Nat) (s' : CA) (H' : Hp) : Prop where
  ex : ∃ j j26 : Nat, m = l.length - j ∧ j ≤ l.length ∧ j26 + d = j ∧ s'.env 0 = .ptr fp 0 ∧ s'.env 2 = ci g ∧ s'.env 3 = ci z ∧ s'.env 24 = x0 ∧ s'.env 25 = .int .i64 l.length ∧ s'.env 26 = .int .i64 j26 ∧ s'.ds = [] ∧ FS B fp xp v0 v5 vw vr pa cd sp (sideP g z (l.take j) rg).2 (sdX g z rg (l.take j) xs) H'
structure sdM (B : Hp) (fp xp : Nat) (v0 v5 vw vr : CV) (pa cd sp R g z g' : Int) (x0 : CV) (n j q9 : Nat) (X : List (List CV)) (s' : CA) (H' : Hp) : Prop where
  e0 : s'.env 0 = .ptr fp 0
  e2 : s'.env 2 = ci g
  e3 : s'.env 3 = ci z
  e9 : s'.env 9 = .ptr q9 0
  e10 : s'.env 10 = ci g'
  e24 : s'.env 24 = x0
  e25 : s'.env 25 = .int .i64 n
  e26 : s'.env 26 = .int .i64 j
  ds : s'.ds = []
  fs : FS B fp xp v0 v5 vw vr pa cd sp R X H'
theorem side_c (hX : CxOk (cx W G)) {B H : Hp} {fp xp rb n c : Nat} {v0 vw vr : CV} {pa cd sp rg g z : Int} {xs : List (List CV)} {ds : List CV} {bn : Nat} {k : UBlk} {x0 : CV} (hne : fp ≠ xp) (hrg : 0 ≤ rg ∧ rg ≤ 1000000) (hxs : xs.length ≤ 100000) (hk : k.ops.length ≤ 400) (hbn : bn < n) (hrb : B rb = some (.cells ds)) (hbf : rb ≠ fp) (hbx : rb ≠ xp) (hrow : (ds.drop (bn * 6)).take 6 = x0 :: blkT k) (hown : Own E0 B x0 7 (k.ops.map opC)) (hxf : ∀ r o m c, x0 = .ref r o m c → r ≠ fp ∧ r ≠ xp) (h : FS B fp xp v0 (.ref rb 0 n c) vw vr pa cd sp rg xs H) :
    CC Tryz.prog W 69 [.ptr fp 0, .int .i64 bn, ci g, ci z] H fun x H' => x = .ret (.tuple []) ∧ FS B fp xp v0 (.ref rb 0 n c) vw vr pa cd sp (sideP g z k.ops rg).2 (sdX g z rg k.ops xs) H' := by
  have hcell := row_head hrow
  have hdl : bn * 6 + 6 ≤ ds.length := by
    have := congrArg List.length hrow
    simp [blkT] at this
    omega
  have hrbH := h.at hrb hbf hbx
  have hfx : ∃ ov, H fp = some (.cells [.ptr xp 0, ov]) ∧ H xp = some (.cells (xCells v0 (.ref rb 0 n c) vw vr pa rg cd sp)) := by
    obtain ⟨ov, h⟩ := h
    exact ⟨ov, h.le _ _ set_at, h.le xp _ (by rw [hset_ne (Ne.symm hne)]; exact set_at)⟩
  obtain ⟨ov, hf, hx⟩ := hfx
  simp only [xCells] at hx
  refine CC.of_cw hX Tryz.func69 rfl rfl (Nat.le_of_ble_eq_true rfl) ?_
  refine CW.walk hX mixed d69 rfl ?_
  simp
  refine ⟨fun h => by omega, ?_⟩
  refine CW.cut (sdI B fp xp v0 (.ref rb 0 n c) vw vr pa cd sp rg g z k.ops x0 xs 0 k.ops.length) ?_ ?_
  · refine CW.walk1 hX mixed d69 rfl ?_
    obtain ⟨_, hz7, ⟨rfl, h0⟩ | ⟨r7, c7, ex7, rfl, _⟩⟩ := hown
    · have h0 : k.ops.length = 0 := by simpa using h0
      simp [hf, hx, hrbH, hbn, hcell]
      exact ⟨0, 0, by omega, by omega, rfl, by simp, by simp, by simp, by simp, by simp [h0], by simp, rfl, by simpa [sideP, sdX] using h⟩
    · simp [hf, hx, hrbH, hbn, hcell]
      exact ⟨0, 0, by omega, by omega, rfl, by simp, by simp, by simp, by simp, by simp, by simp, rfl, by simpa [sideP, sdX] using h⟩
  clear hf hx hrbH h
  clear H
  rintro ⟨e, ds'⟩ H hJ
  refine CW.block ?_
  refine CW.loop (sdI B fp xp v0 (.ref rb 0 n c) vw vr pa cd sp rg g z k.ops x0 xs 0) ?_ (m := k.ops.length) hJ
  clear hJ
  clear e ds' H
  rintro m ⟨e, ds'⟩ H ⟨j, j26, rfl, hj, hj26, e0, e2, e3, e24, e25, e26, hds, h⟩
  obtain rfl : j26 = j := by omega
  dsimp only at e0 e2 e3 e24 e25 e26 hds
  subst hds
  by_cases hjl : j26 < k.ops.length
  rotate_left
  · refine CW.walk hX mixed d69 rfl ?_
    simp [e25, e26, hjl]
    refine CW.walk1 hX mixed d69 rfl ?_
    simp
    rwa [List.take_of_length_le (by omega)] at h
  refine CW.walk hX mixed d69 rfl ?_
  simp [e25, e26, hjl]
  refine CW.walk hX mixed d69 rfl ?_
  simp
  refine CW.cut (sdI B fp xp v0 (.ref rb 0 n c) vw vr pa cd sp rg g z k.ops x0 xs 1 (k.ops.length - (j26 + 1))) ?_ ?_
  rotate_left
  · clear e0 e2 e3 e24 e25 e26 h
    rintro ⟨e, ds'⟩ H ⟨j2, j3, hm, hj2, hj3, e0, e2, e3, e24, e25, e26, hds, h⟩
    dsimp only at e0 e2 e3 e24 e25 e26 hds
    subst hds
    obtain rfl : j2 = j26 + 1 := by omega
    obtain rfl : j26 = j3 := by omega
    refine CW.walk1 hX mixed d69 rfl ?_
    simp [e26]
    exact ⟨k.ops.length - (j26 + 1), by omega, j26 + 1, j26 + 1, rfl, hj2, rfl, by simp [e0], by simp [e2], by simp [e3], by simp [e24], by simp [e25], by simp; rw [wrapI (by omega) (by omega)], rfl, h⟩
  refine CW.block ?_
  obtain ⟨o, ho⟩ : ∃ o, k.ops[j26]? = some o := ⟨_, List.getElem?_eq_getElem hjl⟩
  have hto : k.ops.take (j26 + 1) = k.ops.take j26 ++ [o] := by rw [List.take_add_one, ho]; rfl
  have hsn := sideP_snoc (g := g) (z := z) (o := o) (l := k.ops.take j26) (r := rg)
  have hsr := sideP_regs (g := g) (z := z) (l := k.ops.take j26) (r := rg)
  have htl : (k.ops.take j26).length ≤ 400 := by rw [List.length_take]; omega
  have hxl : (sdX g z rg (k.ops.take j26) xs).length ≤ 101000 := by
    simp only [sdX, List.length_append, List.length_map]
    omega
  obtain ⟨_, hz7, ⟨hn, h0⟩ | ⟨r7, c7, ex7, hx7, _, hr7, _, hc7⟩⟩ := hown
  · simp at h0
    rw [h0] at hjl
    simp at hjl
  subst hx7
  obtain ⟨n7f, n7x⟩ := hxf _ _ _ _ rfl
  rw [List.length_map] at e24 hc7
  have hel := flat_take (ex := ex7) hz7 (i := j26) (e := opC o) (by rw [List.getElem?_map, ho]; rfl)
  have hfl : ((k.ops.map opC).flatten ++ ex7).length ≥ j26 * 7 + 7 := by
    rw [List.length_append, flat_len hz7, List.length_map]
    omega
  have mr7 := h.at hr7 n7f n7x
  generalize (k.ops.map opC).flatten ++ ex7 = c7s at hel hfl mr7
  obtain ⟨R, hR⟩ : ∃ R, (sideP g z (k.ops.take j26) rg).2 = R := ⟨_, rfl⟩
  obtain ⟨X, hX'⟩ : ∃ X, sdX g z rg (k.ops.take j26) xs = X := ⟨_, rfl⟩
  rw [hR] at h hsn hsr
  rw [hX'] at h hxl
  have hXn : ∀ ys : List UOp, (sideP g z (k.ops.take (j26 + 1)) rg).1 = (sideP g z (k.ops.take j26) rg).1 ++ ys → sdX g z rg (k.ops.take (j26 + 1)) xs = X ++ ys.map opC := fun ys hy => by
    rw [← hX']
    simp only [sdX, hy, List.map_append, List.append_assoc]
  refine CW.walk hX mixed d69 rfl ?_
  simp [e24, e26, hjl, mr7, hel, opC]
  refine ⟨hfl, fun q9 hq9 => ⟨by omega, ?_⟩⟩
  have hg9 := h.grow (o := .cells (opC o)) hq9
  have hB9 : (B.set q9 (.cells (opC o))) q9 = some (.cells (opC o)) := set_at
  have hq9f : q9 ≠ fp := fun e => by obtain ⟨ov, h⟩ := h; have := h.le _ _ set_at; rw [← e, hq9] at this; cases this
  have hq9x : q9 ≠ xp := fun e => by obtain ⟨ov, h⟩ := h; have := h.le xp _ (by rw [hset_ne (Ne.symm hne)]; exact set_at); rw [← e, hq9] at this; cases this
  have hBn : B q9 = none := by
    cases hb : B q9 with
    | none => rfl
    | some o' => have := h.at hb hq9f hq9x; rw [hq9] at this; cases this
  have hBB : ∀ o', Le B (B.set q9 o') := fun o' => Le.set_new hBn
  simp only [opC] at hg9 hB9
  generalize H.set q9 _ = H1 at hg9 ⊢
  clear h mr7
  refine CW.walk hX mixed d69 rfl ?_
  simp [e2]
  have hww : 0 ≤ R ∧ R ≤ 1000000000 := by omega
  refine CW.cut (sdM (B.set q9 (.cells [ci o.kind, ci o.dst, ci o.a, ci o.b, ci o.c, ci o.n, ci o.guard])) fp xp v0 (.ref rb 0 n c) vw vr pa cd sp (if o.guard = -1 then R else R + 1) g z (if o.guard = -1 then g else R) (.ref r7 0 k.ops.length c7) k.ops.length j26 q9 (X ++ if o.guard = -1 then [] else [opC ⟨12, R, g, o.guard, z, 0, -1⟩])) ?_ ?_
  · have m9 := hg9.at hB9 hq9f hq9x
    refine CW.walk1 hX mixed d69 rfl ?_
    by_cases hg : o.guard = -1
    · simp [m9, hg]
      exact ⟨by simp [e0], by simp [e2], by simp [e3], by simp, by simp, by simp [e24], by simp [e25], by simp [e26], rfl, by simpa [hg] using hg9⟩
    · simp [m9, hg, e0]
      refine (freshF_c hX hww hne hg9).k ?_
      rintro x H2 ⟨rfl, h2⟩
      have m92 := h2.at hB9 hq9f hq9x
      simp [e0, e2, e3, m92, cfill]
      intro q hq
      refine (putF_c hX (ys := [opC ⟨12, R, g, o.guard, z, 0, -1⟩]) (by simp [opC]) (by simp; omega) (h2.mono (Le.set_new hq)) (src_one set_at rfl)).k ?_
      rintro x H3 ⟨rfl, h3⟩
      simp
      exact ⟨by simp [e0], by simp [e2], by simp [e3], by simp, by simp [hg], by simp [e24], by simp [e25], by simp [e26], rfl, by simpa [hg] using h3⟩
  clear hg9 e0 e2 e3 e24 e25 e26
  clear e H1
  rintro ⟨e, ds'⟩ H1 ⟨e0, e2, e3, e9, e10, e24, e25, e26, hds, h⟩
  dsimp only at e0 e2 e3 e9 e10 e24 e25 e26 hds
  subst hds
  obtain ⟨g', hg'⟩ : ∃ g', (if o.guard = -1 then g else R) = g' := ⟨_, rfl⟩
  obtain ⟨R', hR'⟩ : ∃ R', (if o.guard = -1 then R else R + 1) = R' := ⟨_, rfl⟩
  obtain ⟨ys, hys⟩ : ∃ ys : List UOp, (if o.guard = -1 then [] else [(⟨12, R, g, o.guard, z, 0, -1⟩ : UOp)]) = ys := ⟨_, rfl⟩
  have hys2 : (if o.guard = -1 then ([] : List (List CV)) else [opC ⟨12, R, g, o.guard, z, 0, -1⟩]) = ys.map opC := by
    rw [← hys]
    split <;> rfl
  have hysl : ys.length ≤ 1 := by rw [← hys]; split <;> simp
  rw [hg'] at e10
  rw [hR', hys2] at h
  have hfin2 : (sideP g z (k.ops.take (j26 + 1)) rg).2 = R' := by rw [hto, hsn, ← hR']
  have hfin1 : sdX g z rg (k.ops.take (j26 + 1)) xs = (X ++ ys.map opC) ++ [opC { o with guard := g' }] := by
    have h1 : (sideP g z (k.ops.take (j26 + 1)) rg).1 = (sideP g z (k.ops.take j26) rg).1 ++ (ys ++ [{ o with guard := g' }]) := by
      rw [hto, hsn, ← hys, ← hg']
      split <;> rfl
    rw [hXn _ h1, List.map_append, List.append_assoc]
    rfl
  have m9 := h.at hB9 hq9f hq9x
  have h8 := h.set (o := .cells [ci o.kind, ci o.dst, ci o.a, ci o.b, ci o.c, ci o.n, ci g']) (by rw [hB9]; simp) hq9f hq9x
  refine CW.walk hX mixed d69 rfl ?_
  simp [e9, e10, m9]
  generalize hH2 : H1.set q9 _ = H2 at h8 ⊢
  have m92 : H2 q9 = some (.cells [ci o.kind, ci o.dst, ci o.a, ci o.b, ci o.c, ci o.n, ci g']) := by rw [← hH2]; exact set_at
  refine CW.walk1 hX mixed d69 rfl ?_
  simp [e0, e9, m92, cfill]
  intro q hq
  refine (putF_c hX (ys := [opC { o with guard := g' }]) (by simp [opC]) (by simp; omega) (h8.mono (Le.set_new hq)) (src_one set_at rfl)).k ?_
  rintro x H3 ⟨rfl, h3⟩
  simp
  exact ⟨j26 + 1, j26, rfl, by omega, rfl, by simp [e0], by simp [e2], by simp [e3], by simp [e24], by simp [e25], by simp [e26], rfl, by rw [hfin1, hfin2]; refine (h3.base (B' := B) ?_); rw [set_set]; exact hBB _⟩
end Go.Cl.Gu
set_option linter.unusedSimpArgs false
set_option linter.unusedVariables false
namespace Go.Cl.Gu
open Go.Proofs Go.Cl.Gd
variable {W : World} {G : Nat → CV}
set_option maxRecDepth 8000
set_option maxHeartbeats 1000000
theorem side_neg (hX : CxOk (cx W G)) (fv : CV) (t g z : Int) (ht : t < 0) (H : Hp) : CC Tryz.prog W 69 [fv, ci t, ci g, ci z] H fun x H' => x = .ret (.tuple []) ∧ H' = H := by
  refine CC.of_cw hX Tryz.func69 rfl rfl (Nat.le_of_ble_eq_true rfl) ?_
  refine CW.walk hX mixed d69 rfl ?_
  simp [ht]
theorem uv_of {H : Hp} {v0 v5 : CV} {u : UUnit} (h0 : Own E0 H v0 1 (ints u.sizes)) (h5 : BlkR H v5 u.blocks) (hc : ∀ r n c, v5 = .ref r 0 n c → n ≤ c) : UV H [v0, ci u.params, ci u.regs, ci u.code, ci u.spill, v5] u := by
  refine ⟨rfl, ?_, ⟨v0, v5, rfl, h5⟩, h0⟩
  exact fzAgg6 h0.fz (.same _) (.same _) (.same _) (.same _) (h5.fz hc)
theorem FS.le {B H : Hp} {fp xp : Nat} {v0 v5 vw vr : CV} {pa cd sp rg : Int} {xs : List (List CV)} (h : FS B fp xp v0 v5 vw vr pa cd sp rg xs H) (hf : B fp = none) (hx : B xp = none) : Le B H := by
  obtain ⟨ov, h⟩ := h
  exact ((Le.set_new hx).put hf).trans h.le
theorem sideO_c (hX : CxOk (cx W G)) {u : UUnit} (hw : wfU u = true) {B H : Hp} {fp xp rb c : Nat} {v0 vw vr : CV} {pa cd sp rg g z t : Int} {xs : List (List CV)} {ds : List CV} (hne : fp ≠ xp) (hrg : 0 ≤ rg ∧ rg ≤ 1000000) (hxs : xs.length ≤ 100000) (ht : t = -1 ∨ 0 ≤ t ∧ t < u.blocks.length) (hrb : B rb = some (.cells ds)) (hBf : B fp = none) (hBx : B xp = none)
    (hrows : ∀ (j : Nat) k, u.blocks[j]? = some k → ∃ x0, (ds.drop (j * 6)).take 6 = x0 :: blkT k ∧ Own E0 B x0 7 (k.ops.map opC)) (h : FS B fp xp v0 (.ref rb 0 u.blocks.length c) vw vr pa cd sp rg xs H) :
    CC Tryz.prog W 69 [.ptr fp 0, ci t, ci g, ci z] H fun x H' => x = .ret (.tuple []) ∧ FS B fp xp v0 (.ref rb 0 u.blocks.length c) vw vr pa cd sp (sideP g z (sideOps u t) rg).2 (sdX g z rg (sideOps u t) xs) H' := by
  rcases ht with rfl | ⟨h0, hl⟩
  · refine (side_neg hX _ _ _ _ (by omega) H).mono ?_
    rintro x H' ⟨rfl, rfl⟩
    exact ⟨rfl, by simpa [sideOps, sideP, sdX] using h⟩
  · obtain ⟨n, rfl⟩ := Int.eq_ofNat_of_zero_le h0
    have hn : n < u.blocks.length := by omega
    have hk : u.blocks[n]? = some (blkAt u n) := by rw [blkAt, List.getD_eq_getElem?_getD, List.getElem?_eq_getElem hn]; rfl
    obtain ⟨g1, g2, g3, g4⟩ := wfB_facts hw hk
    obtain ⟨x0, hrow, hown⟩ := hrows n _ hk
    have e1 : sideOps u (n : Int) = (blkAt u n).ops := by simp [sideOps]; intro h; omega
    rw [e1]
    exact side_c hX hne hrg hxs g2 hn hrb (fun e => by rw [e, hBf] at hrb; cases hrb) (fun e => by rw [e, hBx] at hrb; cases hrb) hrow hown (fun r o m c e => by
      obtain ⟨ob, hob⟩ : ∃ ob, B r = some ob := by
        obtain ⟨_, _, ⟨h1, _⟩ | ⟨r', c', ex, h1, _, h2, _⟩⟩ := hown
        · rw [h1] at e; cases e
        · rw [h1] at e; injection e with e1 _ _ _; exact ⟨_, by rw [← e1]; exact h2⟩
      exact ⟨fun e => (by rw [e, hBf] at hob; cases hob), fun e => (by rw [e, hBx] at hob; cases hob)⟩) h
theorem row_get {cs l : List CV} {j i : Nat} {y : CV} (h : (cs.drop (j * 6)).take 6 = l) (hi : i < 6) (hl : l[i]? = some y) : cs[j * 6 + i]? = some y := by
  rw [← h] at hl
  simpa [List.getElem?_take, List.getElem?_drop, hi] using hl
theorem hole_le_set {H : Hp} {r : Nat} {o : Ob} : Le (hole H r) (H.set r o) := fun x ob hx => by
  by_cases e : x = r
  · simp [hole, e] at hx
  · simp only [hole, if_neg e] at hx
    rw [hset_ne e]
    exact hx
theorem row6_same {ds row : List CV} {x : Nat} (h : x * 6 + 6 ≤ ds.length) (hr : row.length = 6) : ((ds.take (x * 6) ++ (row ++ ds.drop (x * 6 + 6))).drop (x * 6)).take 6 = row := by
  rw [List.drop_left' (by rw [List.length_take]; omega), List.take_left' hr]
theorem row6_other {ds row : List CV} {x j : Nat} (h : x * 6 + 6 ≤ ds.length) (hr : row.length = 6) (hj : j ≠ x) : ((ds.take (x * 6) ++ (row ++ ds.drop (x * 6 + 6))).drop (j * 6)).take 6 = (ds.drop (j * 6)).take 6 := by
  have hl : (ds.take (x * 6)).length = x * 6 := by rw [List.length_take]; omega
  apply List.ext_getElem?
  intro t
  simp only [List.getElem?_take, List.getElem?_drop]
  split
  · rename_i ht
    by_cases hjx : j < x
    · rw [List.getElem?_append_left (by omega), List.getElem?_take, if_pos (by omega)]
    · rw [List.getElem?_append_right (by omega), List.getElem?_append_right (by omega), List.getElem?_drop]
      congr 1
      omega
  · rfl
structure cvS (B : Hp) (xp x q4 fp xq : Nat) (v0 v5 vw vr : CV) (pa cd sp rg : Int) (xs : List (List CV)) (s' : CA) (H' : Hp) : Prop where
  e0 : s'.env 0 = .ptr xp 0
  e1 : s'.env 1 = .int .i64 x
  e4 : s'.env 4 = .ptr q4 0
  e6 : s'.env 6 = .ptr fp 0
  ds : s'.ds = []
  n : fp ≠ xq
  bf : B fp = none
  bx : B xq = none
  fs : FS B fp xq v0 v5 vw vr pa cd sp rg xs H'
theorem convert_c (hX : CxOk (cx W G)) (hG : G 0 = .iptr formsC) (u : UUnit) (hw : wfU u = true) (hs : u.sizes.length ≤ 1000000) (ord : List Nat) (x : Nat) (hx : x < u.blocks.length) (hk : (shapeP u ord x).kind ≠ 0) {B H : Hp} {xp rw rr : Nat} {v0 v5 : CV} (hR : OpR B H u xp rw rr v0 v5 ord) :
    CC Tryz.prog W 43 [.ptr xp 0, .int .i64 x] H fun r H' => Le H H' ∧ ∃ cs, r = .ret (.tuple [.agg cs, .bool (decide (errU (convP u ord x) = 0))]) ∧ UV H' cs (convP u ord x) := by
  have hfz := hR.fz
  have mx := hR.mx
  have huv := uv_of hR.w0 hR.b5 hR.c5
  obtain ⟨f1, f2, f3, f4, f5, f6, f7, f8, f9, f10, f11⟩ := wfU_facts hw
  have hkx : u.blocks[x]? = some (blkAt u x) := by rw [blkAt, List.getD_eq_getElem?_getD, List.getElem?_eq_getElem hx]; rfl
  obtain ⟨g1, g2, g3, g4⟩ := wfB_facts hw hkx
  have hb5 := hR.b5
  obtain ⟨rb, cb, cs5, rfl, hrb, hrows⟩ : ∃ r c cs, v5 = .ref r 0 u.blocks.length c ∧ H r = some (.cells cs) ∧ ∀ (j : Nat) k, u.blocks[j]? = some k → ∃ x0, (cs.drop (j * 6)).take 6 = x0 :: blkT k ∧ Own E0 H x0 7 (k.ops.map opC) := by
    rcases hb5 with ⟨_, h0⟩ | h
    · rw [h0] at f7; simp at f7
    · exact h
  refine CC.of_cw hX Tryz.func43 rfl rfl (Nat.le_of_ble_eq_true rfl) ?_
  refine CW.walk hX mixed d43 rfl ?_
  simp
  intro q4 hq4
  have hle4 : Le H (H.set q4 (.cells [.nilsl, .int .i64 0, .int .i64 0, .int .i64 0, .int .i64 0, .nilsl])) := Le.set_new hq4
  generalize hH1 : H.set q4 _ = H1 at hle4 ⊢
  have m4 : H1 q4 = some (.cells [.nilsl, .int .i64 0, .int .i64 0, .int .i64 0, .int .i64 0, .nilsl]) := by rw [← hH1]; exact set_at
  have mx1 := hle4 _ _ mx
  have hrb1 := hle4 _ _ hrb
  have hbl : ∀ b ∈ u.blocks, b.ops.length ≤ 1000000 := fun b hb => by
    obtain ⟨j, hj⟩ := List.getElem?_of_mem hb
    have := (wfB_facts hw hj).2.1
    omega
  refine CW.cut (fun s' H' => ∃ H2 n0 n5 fp xq, Le H1 H2 ∧ Own E0 H2 n0 1 (ints u.sizes) ∧ BlkN H1 H2 n5 u.blocks ∧ (∀ r o n c, n5 = .ref r o n c → Own H1 (hole H2 r) n0 1 (ints u.sizes)) ∧ cvS H2 xp x q4 fp xq n0 n5 (.ref rw 0 u.blocks.length u.blocks.length) (.ref rr 0 u.blocks.length u.blocks.length) u.params u.code u.spill u.regs ((blkAt u x).ops.map opC) s' H') ?_ ?_
  · refine CW.walk1 hX mixed d43 rfl ?_
    obtain ⟨x0, hrow, how0⟩ := hrows x _ hkx
    have hcell := row_head hrow
    simp [d43, mx1, hrb1, hx, hcell]
    refine (codeCopy_c2 hX u hs (by omega) hbl H1 _ (huv.mono hle4)).k ?_
    rintro y H2 ⟨n0, n5, rfl, hle2, hn0, hn5, hn05⟩
    have mx2 := hle2 _ _ mx1
    have hrb2 := hle2 _ _ hrb1
    simp [d43, mx2]
    refine ⟨⟨stabI_le rfl hle2, stabI_le rfl hle2, stabI_le rfl hle2, stabI_le rfl hle2⟩, ?_⟩
    have how2 := (how0.mono hle4).mono hle2
    simp [cfill]
    refine (cloneO_c hX (by simp; omega) how2).k ?_
    rintro y H3 ⟨ov, rfl, hown⟩
    simp [d43]
    have how4 := hown.le
    refine ⟨⟨stabI_le rfl how4, stabI_le rfl how4⟩, ?_⟩
    obtain ⟨sa, ca⟩ := Own.oneCell hown
    simp only [CV.stor, CV.cells] at sa ca
    simp [cfill, sa, ca]
    intro xq hxq fp n1 n2 hfp
    have h5 := ((hown.grow (o := .cells (xCells n0 n5 (.ref rw 0 u.blocks.length u.blocks.length) (.ref rr 0 u.blocks.length u.blocks.length) u.params u.regs u.code u.spill)) hxq).grow (o := .cells [.ptr xq 0, ov]) (r := fp) (by rw [hset_ne n1]; exact hfp))
    exact ⟨H2, hle2, n0, hn0, n5, hn5, hn05, fp, xq, by simp, by simp, by simp, by simp, rfl, n1, how4.none hfp, how4.none hxq, ov, h5⟩
  clear hrb1 mx1
  rintro ⟨e, ds'⟩ H5 ⟨H2, n0, n5, fp, xq, hle2, hn0, hn5, hn05, e0, e1, e4, e6, hds, hne, hbf, hbx, h⟩
  dsimp only at e0 e1 e4 e6 hds
  subst hds
  obtain ⟨r5, c5, ds5, rfl, hc5, hr50, hr5, hR5⟩ : ∃ r c cs, n5 = .ref r 0 u.blocks.length c ∧ u.blocks.length ≤ c ∧ H1 r = none ∧ H2 r = some (.cells cs) ∧ RowsB H1 (hole H2 r) cs u.blocks u.blocks.length := by
    rcases hn5 with ⟨_, h0⟩ | h
    · rw [h0] at f7; simp at f7
    · exact h
  have hle02 : Le H H2 := hle4.trans hle2
  have hrow5 : ∀ (j : Nat) k, u.blocks[j]? = some k → ∃ x0, (ds5.drop (j * 6)).take 6 = x0 :: blkT k ∧ Own E0 H2 x0 7 (k.ops.map opC) := fun j k hk => by
    obtain ⟨x0, a, b, _⟩ := hR5.row j k hk
    exact ⟨x0, a, ((b (List.getElem?_eq_some_iff.1 hk).1).mono hole_le).bare⟩
  have hle5 : Le H H5 := hle02.trans (h.le hbf hbx)
  have hsf := shape_facts hw (ord := ord) hx
  generalize hS : shapeP u ord x = S at hsf hk
  have hsf' : ((S.to = -1 ∨ (0 ≤ S.to ∧ S.to < u.blocks.length)) ∧ (S.or_ = -1 ∨ (0 ≤ S.or_ ∧ S.or_ < u.blocks.length))) := by
    rcases hsf with ⟨h, _⟩ | ⟨_, h1, h2, _⟩
    · exact absurd h hk
    · exact ⟨h1, h2⟩
  refine CW.walk hX mixed d43 rfl ?_
  simp [e0, e1]
  refine (shape_f hX hw hx (hfz.mono hle5)).k ?_
  rintro r H6 ⟨rfl, rfl⟩
  rw [hS]
  simp [shpV]
  have mx6 := hle5 _ _ mx
  have hrb6 := hle5 _ _ hrb
  obtain ⟨x0, hrow, how0⟩ := hrows x _ hkx
  have ra : cs5[x * 6 + 2]? = some (ci (blkAt u x).en.a) := row_get hrow (by omega) rfl
  have rc : cs5[x * 6 + 5]? = some (ci (blkAt u x).catch_) := row_get hrow (by omega) rfl
  refine CW.walk hX mixed d43 rfl ?_
  simp [e0, e1, mx6, hrb6, hx, ra]
  have hww : 0 ≤ u.regs ∧ u.regs ≤ 1000000000 := by omega
  have hww1 : 0 ≤ u.regs + 1 ∧ u.regs + 1 ≤ 1000000000 := by omega
  have hww2 : 0 ≤ u.regs + 1 + 1 ∧ u.regs + 1 + 1 ≤ 1000000000 := by omega
  refine CW.walk hX mixed d43 rfl ?_
  simp [e6]
  refine (freshF_c hX hww hne h).k ?_
  rintro y H7 ⟨rfl, h⟩
  simp [e6]
  refine (freshF_c hX hww1 hne h).k ?_
  rintro y H8 ⟨rfl, h⟩
  simp [e6]
  refine (freshF_c hX hww2 hne h).k ?_
  rintro y H9 ⟨rfl, h⟩
  simp
  refine CW.walk hX mixed d43 rfl ?_
  simp [e6, cfill]
  intro q hq
  have h10 := h.mono (Le.set_new (o := .cells (([⟨22, 0, (blkAt u x).en.a, 0, 0, 0, -1⟩, ⟨2, u.regs, (blkAt u x).en.a, 0, 0, 0, -1⟩, ⟨1, u.regs + 1, 0, 0, 0, 0, -1⟩, ⟨11, u.regs + 1 + 1, u.regs, u.regs + 1, 0, 0, -1⟩] : List UOp).map opC).flatten) hq)
  refine (putF_c hX (ys := ([⟨22, 0, (blkAt u x).en.a, 0, 0, 0, -1⟩, ⟨2, u.regs, (blkAt u x).en.a, 0, 0, 0, -1⟩, ⟨1, u.regs + 1, 0, 0, 0, 0, -1⟩, ⟨11, u.regs + 1 + 1, u.regs, u.regs + 1, 0, 0, -1⟩] : List UOp).map opC) (by simp [opC]) (by simp; omega) h10 (src_ref set_at (by simp [opC]))).k ?_
  rintro y H10 ⟨rfl, h⟩
  simp
  have e2 : u.regs + 1 + 1 = u.regs + 2 := by omega
  have e3 : u.regs + 2 + 1 = u.regs + 3 := by omega
  rw [e2, e3] at h
  generalize hXs : (blkAt u x).ops.map opC ++ ([⟨22, 0, (blkAt u x).en.a, 0, 0, 0, -1⟩, ⟨2, u.regs, (blkAt u x).en.a, 0, 0, 0, -1⟩, ⟨1, u.regs + 1, 0, 0, 0, 0, -1⟩, ⟨11, u.regs + 2, u.regs, u.regs + 1, 0, 0, -1⟩] : List UOp).map opC = X at h
  have hXl : X.length ≤ 404 := by rw [← hXs]; simp; omega
  have hsl : ∀ t : Int, (sideOps u t).length ≤ 400 := fun t => by
    rw [sideOps]
    split
    · simp
    · by_cases ht : t.toNat < u.blocks.length
      · exact (wfB_facts hw (b := t.toNat) (by rw [blkAt, List.getD_eq_getElem?_getD, List.getElem?_eq_getElem ht]; rfl)).2.1
      · simp [blkAt, List.getD_eq_getElem?_getD, List.getElem?_eq_none (Nat.le_of_not_lt ht)]
  refine CW.walk hX mixed d43 rfl ?_
  simp [e6]
  refine (sideO_c hX hw hne (by omega) (by omega) hsf'.1 hr5 hbf hbx hrow5 h).k ?_
  rintro y H11 ⟨rfl, h⟩
  simp
  have hsr := sideP_regs (g := u.regs) (z := u.regs + 1) (l := sideOps u S.to) (r := u.regs + 3)
  have hst := hsl S.to
  have hso := hsl S.or_
  refine CW.walk hX mixed d43 rfl ?_
  simp [e6]
  rw [e2]
  refine (sideO_c hX hw hne (by omega) (by simp [sdX]; omega) hsf'.2 hr5 hbf hbx hrow5 h).k ?_
  rintro y H12 ⟨rfl, h⟩
  simp
  have hle12 := hle02.trans (h.le hbf hbx)
  have mx12 := hle12 _ _ mx
  have hrb12 := hle12 _ _ hrb
  have hr12 := (h.le hbf hbx) _ _ hr5
  have hd5 : x * 6 + 6 ≤ ds5.length := by
    obtain ⟨x1, a, _⟩ := hrow5 x _ hkx
    have := congrArg List.length a
    simp [blkT] at this
    omega
  obtain ⟨rg', hrg'⟩ : ∃ r, (sideP (u.regs + 2) (u.regs + 1) (sideOps u S.or_) (sideP u.regs (u.regs + 1) (sideOps u S.to) (u.regs + 3)).2).2 = r := ⟨_, rfl⟩
  obtain ⟨Xf, hXf⟩ : ∃ X', sdX (u.regs + 2) (u.regs + 1) (sideP u.regs (u.regs + 1) (sideOps u S.to) (u.regs + 3)).2 (sideOps u S.or_) (sdX u.regs (u.regs + 1) (u.regs + 3) (sideOps u S.to) X) = X' := ⟨_, rfl⟩
  rw [hrg', hXf] at h
  obtain ⟨ov, how⟩ := h
  have hf12 := how.le _ _ set_at
  have hx12 := how.le xq _ (by rw [hset_ne (Ne.symm hne)]; exact set_at)
  simp only [xCells] at hx12
  obtain ⟨sa, ca⟩ := Own.oneCell how
  simp only [CV.stor, CV.cells] at sa ca
  refine CW.walk hX mixed d43 rfl ?_
  simp [d43, e0, e1, e6, hf12, hx12, hr12, mx12, hrb12, hx, rc, cfill, sa, ca]
  refine ⟨hd5, ?_⟩
  have hr5f : r5 ≠ fp := fun e => by rw [e, hbf] at hr5; cases hr5
  have hr5x : r5 ≠ xq := fun e => by rw [e, hbx] at hr5; cases hr5
  have hr54 : r5 ≠ q4 := fun e => by rw [e, m4] at hr50; cases hr50
  have hHr5 := hle4.none hr50
  have m12 := (hle2.trans ((Le.set_new hbx).put hbf |>.trans how.le)) _ _ m4
  have how13 := (how.setBase (r := r5) (o := .cells (ds5.take (x * 6) ++ ([ov, ci 1, ci 0, ci S.meet, ci 0, ci (blkAt u x).catch_] ++ ds5.drop (x * 6 + 6)))) (by rw [hset_ne hr5f, hset_ne hr5x, hr5]; simp))
  have hle13 : Le H (H12.set r5 (.cells (ds5.take (x * 6) ++ ([ov, ci 1, ci 0, ci S.meet, ci 0, ci (blkAt u x).catch_] ++ ds5.drop (x * 6 + 6))))) := hle12.put hHr5
  have hn013 := (hn05 _ _ _ _ rfl).mono ((hole_mono ((Le.set_new hbx).put hbf |>.trans how.le)).trans (hole_le_set (o := .cells (ds5.take (x * 6) ++ ([ov, ci 1, ci 0, ci S.meet, ci 0, ci (blkAt u x).catch_] ++ ds5.drop (x * 6 + 6))))))
  have hrow13 : ∀ (j : Nat) k, j ≠ x → u.blocks[j]? = some k → ∃ x0, (ds5.drop (j * 6)).take 6 = x0 :: blkT k ∧ Own H1 (H12.set r5 (.cells (ds5.take (x * 6) ++ ([ov, ci 1, ci 0, ci S.meet, ci 0, ci (blkAt u x).catch_] ++ ds5.drop (x * 6 + 6))))) x0 7 (k.ops.map opC) := fun j k _ hk => by
    obtain ⟨x0, a, b, _⟩ := hR5.row j k hk
    exact ⟨x0, a, (b (List.getElem?_eq_some_iff.1 hk).1).mono ((hole_mono ((Le.set_new hbx).put hbf |>.trans how.le)).trans hole_le_set)⟩
  have m13 : (H12.set r5 (.cells (ds5.take (x * 6) ++ ([ov, ci 1, ci 0, ci S.meet, ci 0, ci (blkAt u x).catch_] ++ ds5.drop (x * 6 + 6))))) q4 = some (.cells [.nilsl, .int .i64 0, .int .i64 0, .int .i64 0, .int .i64 0, .nilsl]) := by rw [hset_ne (Ne.symm hr54)]; exact m12
  have hx13 : (H12.set r5 (.cells (ds5.take (x * 6) ++ ([ov, ci 1, ci 0, ci S.meet, ci 0, ci (blkAt u x).catch_] ++ ds5.drop (x * 6 + 6))))) xq = _ := (hset_ne (Ne.symm hr5x)).trans hx12
  have hf13 : (H12.set r5 (.cells (ds5.take (x * 6) ++ ([ov, ci 1, ci 0, ci S.meet, ci 0, ci (blkAt u x).catch_] ++ ds5.drop (x * 6 + 6))))) fp = _ := (hset_ne (Ne.symm hr5f)).trans hf12
  have hr13 : (H12.set r5 (.cells (ds5.take (x * 6) ++ ([ov, ci 1, ci 0, ci S.meet, ci 0, ci (blkAt u x).catch_] ++ ds5.drop (x * 6 + 6))))) r5 = _ := set_at
  change CW _ _ _ _ _ _ _ (H12.set r5 (.cells (ds5.take (x * 6) ++ ([ov, ci 1, ci 0, ci S.meet, ci 0, ci (blkAt u x).catch_] ++ ds5.drop (x * 6 + 6)))))
  generalize H12.set r5 _ = H13 at how13 hle13 hn013 hrow13 m13 hx13 hf13 hr13 ⊢
  obtain ⟨N, hN⟩ : ∃ N : UBlk, (⟨(blkAt u x).ops ++ fourOps (blkAt u x).en.a u.regs ++ (sideP u.regs (u.regs + 1) (sideOps u S.to) (u.regs + 3)).1 ++ (sideP (u.regs + 2) (u.regs + 1) (sideOps u S.or_) (sideP u.regs (u.regs + 1) (sideOps u S.to) (u.regs + 3)).2).1, ⟨1, 0, S.meet, 0⟩, (blkAt u x).catch_⟩ : UBlk) = N := ⟨_, rfl⟩
  have hV : convP u ord x = { u with regs := rg', blocks := u.blocks.set x N } := by
    rw [← hrg', ← hN]
    simp only [convP, hS]
  have hNo : Xf = N.ops.map opC := by
    rw [← hXf, ← hXs, ← hN]
    simp only [sdX, fourOps, List.map_append, List.append_assoc]
  have hsr2 := sideP_regs (g := u.regs + 2) (z := u.regs + 1) (l := sideOps u S.or_) (r := (sideP u.regs (u.regs + 1) (sideOps u S.to) (u.regs + 3)).2)
  have hNl : N.ops.length ≤ 100000 := by
    rw [← hN]
    simp only [List.length_append, fourOps, List.length_cons, List.length_nil]
    omega
  rw [hV]
  have hUO : UOk { u with regs := rg', blocks := u.blocks.set x N } := ⟨hs, by simp; omega, fun b hb => by
    simp only at hb
    rcases List.mem_or_eq_of_mem_set hb with h | rfl
    · exact hbl b h
    · omega, fun b _ o _ => by simp only [Kd]; omega⟩
  have huvG : ∀ H' : Hp, Own E0 H' n0 1 (ints u.sizes) → Own E0 H' ov 7 Xf → (∀ (j : Nat) k, j ≠ x → u.blocks[j]? = some k → ∃ x0, (ds5.drop (j * 6)).take 6 = x0 :: blkT k ∧ Own E0 H' x0 7 (k.ops.map opC)) → H' r5 = some (.cells (ds5.take (x * 6) ++ ([ov, ci 1, ci 0, ci S.meet, ci 0, ci (blkAt u x).catch_] ++ ds5.drop (x * 6 + 6)))) → UV H' [n0, ci u.params, ci rg', ci u.code, ci u.spill, .ref r5 0 u.blocks.length c5] { u with regs := rg', blocks := u.blocks.set x N } := fun H' a1 a2 a3 a4 => by
    refine uv_of (u := { u with regs := rg', blocks := u.blocks.set x N }) a1 (.inr ⟨r5, c5, _, by simp, a4, fun j k hk => ?_⟩) (fun r n c e => by injection e with _ _ e1 e2; omega)
    simp only at hk
    by_cases hj : j = x
    · subst hj
      rw [List.getElem?_set, if_pos rfl, if_pos hx] at hk
      injection hk with hk
      subst hk
      refine ⟨ov, ?_, by rw [← hNo]; exact a2⟩
      rw [row6_same hd5 rfl, ← hN]
      rfl
    · rw [List.getElem?_set, if_neg (Ne.symm hj)] at hk
      obtain ⟨x0, a, b⟩ := a3 j k hj hk
      exact ⟨x0, by rw [row6_other hd5 rfl hj]; exact a, b⟩
  have huv13 := huvG H13 hn013.bare how13.bare (fun j k hj hk => by obtain ⟨x0, a, b⟩ := hrow13 j k hj hk; exact ⟨x0, a, b.bare⟩) hr13
  refine CW.walk1 hX mixed d43 rfl ?_
  simp [d43, e6, hf13, hx13]
  refine (check_ef hX hG hUO huv13.f).k ?_
  rintro y H14 ⟨rfl, rfl⟩
  simp [d43, e4, m13]
  refine ⟨by repeat' first | exact stabI_le rfl (Le.refl _) | constructor, ?_⟩
  have hq41 : H1 q4 ≠ none := by rw [m4]; simp
  have hq42 : H2 q4 ≠ none := by rw [hle2 _ _ m4]; simp
  have hq4f : q4 ≠ fp := fun e => hq42 (by rw [e]; exact hbf)
  have hq4x : q4 ≠ xq := fun e => hq42 (by rw [e]; exact hbx)
  refine ⟨hle13.put hq4, _, ⟨rfl, by rw [Bool.eq_iff_iff]; simp⟩, huvG _ (hn013.setBase hq41).bare (how13.setBase (r := q4) (by rw [hset_ne (Ne.symm hr54), hset_ne hq4f, hset_ne hq4x]; exact hq42)).bare (fun j k hj hk => ?_) (by rw [hset_ne hr54]; exact hr13)⟩
  obtain ⟨x0, a, b⟩ := hrow13 j k hj hk
  exact ⟨x0, a, (b.setBase hq41).bare⟩
end Go.Cl.Gu
set_option linter.unusedSimpArgs false
set_option linter.unusedVariables false
namespace Go.Cl.Gu
open Go.Proofs Go.Cl.Gd
variable {W : World} {G : Nat → CV}
set_option maxRecDepth 8000
set_option maxHeartbeats 1000000
def zeroU : UUnit := ⟨[], 0, 0, 0, 0, []⟩
abbrev zeroV : List CV := [.nilsl, ci 0, ci 0, ci 0, ci 0, .nilsl]
theorem uv_zero {H : Hp} : UV H zeroV zeroU :=
  uv_of (u := zeroU) ⟨fun _ _ h => by simp at h, fun _ h => by simp [zeroU, ints] at h, .inl ⟨rfl, rfl⟩⟩ (.inl ⟨rfl, rfl⟩) (fun _ _ _ h => by cases h)
/-- A unit and an error. -/
def RU (H : Hp) (e : Int) (v : UUnit) (x : CE) (H' : Hp) : Prop := ∃ cs, x = .ret (.tuple [.agg cs, ci e]) ∧ Le H H' ∧ UV H' cs v
noncomputable def cvE (u : UUnit) (b : Int) : Int := if thereE u b ≠ 0 then thereE u b else if (shapeP u (ordC u) b.toNat).kind = 0 then 5 else if errU (convP u (ordC u) b.toNat) ≠ 0 then 11 else 0
noncomputable def cvU (u : UUnit) (b : Int) : UUnit := if cvE u b = 0 then convP u (ordC u) b.toNat else zeroU
theorem convertF_c (hX : CxOk (cx W G)) (hG : G 0 = .iptr formsC) (u : UUnit) (hu : UOk u) (hs : u.sizes.length ≤ 1000000) (b : Int) (H : Hp) (cs : List CV) (hv : UV H cs u) :
    CC Tryz.prog W 19 [.agg cs, ci b] H (RU H (cvE u b) (cvU u b)) := by
  obtain ⟨w0, w5, rfl, hbr⟩ := hv.b
  refine CC.of_cw hX Tryz.func19 rfl rfl (Nat.le_of_ble_eq_true rfl) ?_
  refine CW.walk hX mixed d19 rfl ?_
  simp
  intro q1 hq1 q4 h41 h14 hq4
  have hle1 : Le H (H.set q1 (.cells [w0, ci u.params, ci u.regs, ci u.code, ci u.spill, w5])) := Le.set_new hq1
  have m1 : (H.set q1 (.cells [w0, ci u.params, ci u.regs, ci u.code, ci u.spill, w5])) q1 = some (.cells [w0, ci u.params, ci u.regs, ci u.code, ci u.spill, w5]) := set_at
  have hK1 : (H.set q1 (.cells [w0, ci u.params, ci u.regs, ci u.code, ci u.spill, w5])) q4 = none := by rw [hset_none_iff]; exact ⟨h41, hq4⟩
  generalize H.set q1 _ = K1 at hle1 m1 hK1 ⊢
  have hv1 := hv.mono hle1
  have hlk := (look_c hX hG u hu hs b K1 _ hv1).frame (ob := .cells zeroV) hK1
  have m1' : (K1.set q4 (.cells zeroV)) q1 = some (.cells [w0, ci u.params, ci u.regs, ci u.code, ci u.spill, w5]) := Le.set_new hK1 _ _ m1
  refine CW.walk hX mixed d19 rfl ?_
  simp [m1']
  refine hlk.k ?_
  rintro x H2 ⟨K2, hK2, rfl, hle2, her, hok⟩
  have m4 : (K2.set q4 (.cells zeroV)) q4 = some (.cells zeroV) := set_at
  by_cases he : thereE u b = 0
  rotate_left
  · obtain rfl := her he
    simp
    refine CW.walk hX mixed d19 rfl ?_
    simp [he, cfill]
    exact ⟨zeroV, by simp [cvE, he], (hle1.trans hle2).trans (Le.set_new hK2), by rw [cvU, if_neg (by simp [cvE, he])]; exact uv_zero⟩
  obtain ⟨hw, n, rfl, hn⟩ := thereE_ok he
  obtain ⟨xp, rw, rr, v0, v5, p, c, rfl, hp, hR⟩ := hok he
  rw [ordC_eq hp] at hR
  have hfz := hR.fz
  have hle3 : Le K2 (K2.set q4 (.cells zeroV)) := Le.set_new hK2
  simp
  refine CW.walk hX mixed d19 rfl ?_
  simp
  refine CW.walk hX mixed d19 rfl ?_
  simp
  refine (size_f hX hw hn (hfz.mono hle3)).k ?_
  rintro r H3 ⟨rfl, rfl⟩
  simp [cfill]
  refine ⟨fun hk => ?_, fun hk => ?_⟩
  · have e5 : cvE u n = 5 := by simp [cvE, he, hk]
    exact ⟨zeroV, by rw [e5], (hle1.trans hle2).trans hle3, by rw [cvU, if_neg (by rw [e5]; decide)]; exact uv_zero⟩
  have hcv := (convert_c hX hG u hw hs (ordC u) n hn hk hR).frame (ob := .cells zeroV) hK2
  refine CW.walk hX mixed d19 rfl ?_
  simp
  refine hcv.k ?_
  rintro r H4 ⟨K4, hK4, rfl, hle4, cs4, rfl, huv⟩
  have hl6 := huv.l
  simp [hl6]
  intro q10 hq1' hq2' hq
  have hne : q10 ≠ q4 := by first | exact hq1' | exact hq2' | exact Ne.symm hq1' | exact Ne.symm hq2'
  rw [set_comm (Ne.symm hne)]
  have hK5 : (K4.set q10 (.cells cs4)) q4 = none := by rw [hset_ne (Ne.symm hne)]; exact hK4
  have hle5 : Le K4 (K4.set q10 (.cells cs4)) := Le.set_new hq
  have m10 : ∀ o, ((K4.set q10 (.cells cs4)).set q4 o) q10 = some (.cells cs4) := fun o => Le.set_new hK5 _ _ set_at
  generalize K4.set q10 _ = K5 at hK5 hle5 m10 ⊢
  have hle : ∀ o, Le K4 (K5.set q4 o) := fun o => hle5.trans (Le.set_new hK5)
  refine CW.walk hX mixed d19 rfl ?_
  by_cases hc : errU (convP u (ordC u) n) = 0
  rotate_left
  · simp [hc, cfill]
    have e11 : cvE u n = 11 := by simp [cvE, he, hk, hc]
    exact ⟨zeroV, by rw [e11], ((hle1.trans hle2).trans hle4).trans (hle _), by rw [cvU, if_neg (by rw [e11]; decide)]; exact uv_zero⟩
  simp [hc]
  refine CW.walk1 hX mixed d19 rfl ?_
  simp [hl6, m10]
  have e0 : cvE u n = 0 := by simp [cvE, he, hk, hc]
  exact ⟨cs4, by rw [e0]; simp [List.take_of_length_le, hl6], ((hle1.trans hle2).trans hle4).trans (hle _), by rw [cvU, if_pos e0]; exact huv.mono (hle _)⟩
end Go.Cl.Gu
set_option linter.unusedSimpArgs false
set_option linter.unusedVariables false
namespace Go.Cl.Gu
open Go.Proofs Go.Cl.Gd
variable {W : World} {G : Nat → CV}
set_option maxRecDepth 8000
set_option maxHeartbeats 1000000
theorem row_put {ds : List CV} {x : Nat} {x0 a b c d e v : CV} (h : (ds.drop (x * 6)).take 6 = [x0, a, b, c, d, e]) : ds.take (x * 6) ++ v :: ds.drop (x * 6 + 1) = ds.take (x * 6) ++ ([v, a, b, c, d, e] ++ ds.drop (x * 6 + 6)) := by
  have h1 : ds.drop (x * 6) = [x0, a, b, c, d, e] ++ ds.drop (x * 6 + 6) := by
    rw [← h, ← List.drop_drop, List.take_append_drop]
  have h2 : ds.drop (x * 6 + 1) = (ds.drop (x * 6)).drop 1 := by rw [List.drop_drop]
  rw [h2, h1]
  rfl
theorem row_put4 {A C : List CV} {n : Nat} (hA : A.length = n) {v a b c d e p q r s : CV} : (A ++ ([v, a, b, c, d, e] ++ C)).take (n + 1) ++ p :: q :: r :: s :: (A ++ ([v, a, b, c, d, e] ++ C)).drop (n + 1 + 4) = A ++ ([v, p, q, r, s, e] ++ C) := by
  subst hA
  have h1 : (A ++ ([v, a, b, c, d, e] ++ C)).take (A.length + 1) = A ++ [v] := by
    rw [List.take_append, List.take_of_length_le (by omega), show A.length + 1 - A.length = 1 by omega]; rfl
  have h2 : (A ++ ([v, a, b, c, d, e] ++ C)).drop (A.length + 1 + 4) = e :: C := by
    rw [List.drop_append, List.drop_of_length_le (by omega), show A.length + 1 + 4 - A.length = 5 by omega]; rfl
  rw [h1, h2]
  simp
structure gdI (B : Hp) (l : List UOp) (xs : List (List CV)) (g z r : Int) (d m : Nat) (s' : CA) (H' : Hp) : Prop where
  ex : ∃ (i i12 : Nat) (v : CV), m = l.length - i ∧ i ≤ l.length ∧ i12 + d = i ∧ s'.env 0 = v ∧ s'.env 1 = .sl 7 (l.map opC) ∧ s'.env 2 = ci g ∧ s'.env 3 = ci z ∧ s'.env 4 = ci (sideP g z (l.take i) r).2 ∧ s'.env 12 = .int .i64 i12 ∧ s'.ds = [] ∧ Own B H' v 7 (xs ++ (sideP g z (l.take i) r).1.map opC)
structure gdX (B : Hp) (xs : List (List CV)) (g z r : Int) (l : List UOp) (s' : CA) (H' : Hp) : Prop where
  ex : ∃ v', s'.env 0 = v' ∧ s'.env 4 = ci (sideP g z l r).2 ∧ s'.ds = [] ∧ Own B H' v' 7 (xs ++ (sideP g z l r).1.map opC)
theorem guarded_c (hX : CxOk (cx W G)) (l : List UOp) (xs : List (List CV)) (g z r : Int) (hg : ∀ o ∈ l, o.guard = -1 ∨ 0 ≤ o.guard) (hl : l.length ≤ 400) (hxs : xs.length ≤ 100000) (hr : 0 ≤ r ∧ r ≤ 1000000) {B H : Hp} {v : CV} (hv : Own B H v 7 xs) :
    CC Tryz.prog W 71 [v, .sl 7 (l.map opC), ci g, ci z, ci r] H fun x H' => ∃ v', x = .ret (.tuple [v', ci (sideP g z l r).2]) ∧ Own B H' v' 7 (xs ++ (sideP g z l r).1.map opC) := by
  refine CC.of_cw hX Tryz.func71 rfl rfl (Nat.le_of_ble_eq_true rfl) ?_
  refine CW.walk hX mixed d71 rfl ?_
  simp
  refine CW.cut (gdX B xs g z r l) ?_ ?_
  rotate_left
  · rintro ⟨e, ds⟩ H' ⟨v', e0, e4, hds, how⟩
    dsimp only at e0 e4 hds
    subst hds
    refine CW.walk1 hX mixed d71 rfl ?_
    simp [e0, e4]
    exact how
  refine CW.walk hX mixed d71 rfl ?_
  simp
  refine CW.block ?_
  refine CW.loop (gdI B l xs g z r 0) ?_ (m := l.length) ⟨0, 0, v, rfl, by omega, rfl, by simp, by simp, by simp, by simp, by simp [sideP], by simp, rfl, by simpa [sideP] using hv⟩
  clear hv
  rintro m ⟨e, ds⟩ H' ⟨i, i12, v, rfl, hi, hi12, e0, e1, e2, e3, e4, e12, hds, how⟩
  dsimp only at e0 e1 e2 e3 e4 e12 hds
  subst hds
  obtain rfl : i12 = i := by omega
  by_cases hil : i12 < l.length
  rotate_left
  · refine CW.walk hX mixed d71 rfl ?_
    simp [e1, e12, hil]
    obtain rfl : i12 = l.length := by omega
    exact ⟨v, by simp [e0], by simp [e4], rfl, by simpa using how⟩
  obtain ⟨o, ho⟩ : ∃ o, l[i12] = o := ⟨_, rfl⟩
  have hom : o ∈ l := by rw [← ho]; exact List.getElem_mem hil
  have hgo := hg o hom
  have hsr := sideP_regs (g := g) (z := z) (l := l.take i12) (r := r)
  have hlt : (l.take i12).length ≤ 400 := by rw [List.length_take]; omega
  have htk : l.take (i12 + 1) = l.take i12 ++ [o] := by rw [List.take_succ_eq_append_getElem hil, ho]
  have hsn := sideP_snoc (g := g) (z := z) (o := o) (l := l.take i12) (r := r)
  rw [← htk] at hsn
  refine CW.walk hX mixed d71 rfl ?_
  simp [e1, e12, hil]
  refine CW.cut (gdI B l xs g z r 1 (l.length - (i12 + 1))) ?_ ?_
  rotate_left
  · clear e0 e1 e2 e3 e4 e12 how
    rintro ⟨e, ds⟩ H' ⟨i, i12', v, hm, hi, hi12, e0, e1, e2, e3, e4, e12, hds, how⟩
    dsimp only at e0 e1 e2 e3 e4 e12 hds
    subst hds
    obtain rfl : i = i12 + 1 := by omega
    obtain rfl : i12' = i12 := by omega
    refine CW.walk1 hX mixed d71 rfl ?_
    simp [e12]
    exact ⟨l.length - (i12' + 1), by omega, i12' + 1, i12' + 1, v, rfl, by omega, rfl, by simp [e0], by simp [e1], by simp [e2], by simp [e3], by simp [e4], by simp; rw [wrapI (by omega) (by omega)], rfl, how⟩
  refine CW.block ?_
  refine CW.walk hX mixed d71 rfl ?_
  simp [e1, e12, hil, ho, opC]
  intro q hq
  have hBq := how.le.none hq
  have m13 : (H'.set q (.cells (opC o))) q = some (.cells (opC o)) := set_at
  have how1 := how.more (o := .cells (opC o)) hq
  have hvq : ∀ n c, v ≠ .ref q 0 n c := how.ne_fresh hq
  obtain ⟨P1, hP1⟩ : ∃ P1, (sideP g z (l.take i12) r).1 = P1 := ⟨_, rfl⟩
  obtain ⟨P2, hP2⟩ : ∃ P2, (sideP g z (l.take i12) r).2 = P2 := ⟨_, rfl⟩
  rw [hP1, hP2] at hsn hsr
  rw [hP1] at how1
  rw [hP2] at e4
  have hln : (xs ++ P1.map opC).length ≤ 101000 := by simp; omega
  simp only [opC] at m13 how1 ⊢
  generalize H'.set q _ = H1 at m13 how1 ⊢
  clear how hq
  rcases hgo with hneg | hpos
  · refine CW.walk hX mixed d71 rfl ?_
    simp [m13, hneg, e2]
    have how2 := how1.put (o := .cells (opC { o with guard := g })) hBq hvq
    have m2 : (H1.set q (.cells (opC { o with guard := g }))) q = some (.cells (opC { o with guard := g })) := set_at
    simp only [opC] at m2 how2
    generalize H1.set q _ = H2 at m2 how2 ⊢
    refine CW.walk1 hX mixed d71 rfl ?_
    simp [e0, m2, cfill, -vcAppend]
    intro r' hr'
    refine (how2.more hr').append2 (ys := [opC { o with guard := g }]) (by simp [opC]) (by simp at hln ⊢; omega) (src_one set_at rfl) fun v' H5 how5 _ => ?_
    simp
    exact ⟨i12 + 1, i12, v', rfl, by omega, rfl, by simp, by simp [e1], by simp [e2], by simp [e3], by simp [e4, hsn, hneg], by simp [e12], rfl, by rw [hsn]; simpa [hneg, opC] using how5⟩
  · have hneg : ¬ o.guard = -1 := by omega
    have hRb : 0 ≤ P2 ∧ P2 ≤ 2000000 := by omega
    refine CW.walk hX mixed d71 rfl ?_
    simp [m13, hpos, e0, e2, e3, e4, cfill, -vcAppend]
    intro r' hr'
    refine (how1.more hr').append2 (ys := [opC ⟨12, P2, g, o.guard, z, 0, -1⟩]) (by simp [opC]) (by simp at hln ⊢; omega) (src_one set_at rfl) fun v' H5 how5 kp => ?_
    obtain ⟨m5, hv5⟩ := kp q _ (Le.set_new hr' _ _ m13) hvq
    simp [m5, e4]
    have how6 := how5.put (o := .cells (opC { o with guard := P2 })) hBq hv5
    have m6 : (H5.set q (.cells (opC { o with guard := P2 }))) q = some (.cells (opC { o with guard := P2 })) := set_at
    simp only [opC] at m6 how6
    generalize H5.set q _ = H6 at m6 how6 ⊢
    refine CW.walk1 hX mixed d71 rfl ?_
    simp [m6, cfill, -vcAppend]
    intro r2 hr2
    refine (how6.more hr2).append2 (ys := [opC { o with guard := P2 }]) (by simp [opC]) (by simp at hln ⊢; omega) (src_one set_at rfl) fun v2 H7 how7 _ => ?_
    simp
    exact ⟨i12 + 1, i12, v2, rfl, by omega, rfl, by simp, by simp [e1], by simp [e2], by simp [e3], by simp [hsn, hneg]; try (rw [wrapI (by omega) (by omega)]), by simp [e12], rfl, by rw [hsn]; simpa [hneg, opC] using how7⟩
theorem guarded_nil (hX : CxOk (cx W G)) (g z r : Int) (H : Hp) (v : CV) :
    CC Tryz.prog W 71 [v, .nilsl, ci g, ci z, ci r] H fun x H' => x = .ret (.tuple [v, ci r]) ∧ H' = H := by
  refine CC.of_cw hX Tryz.func71 rfl rfl (Nat.le_of_ble_eq_true rfl) ?_
  refine CW.walk hX mixed d71 rfl ?_
  simp
  refine CW.cut (fun s' H' => s'.env 0 = v ∧ s'.env 4 = ci r ∧ s'.ds = [] ∧ H' = H) ?_ ?_
  rotate_left
  · rintro ⟨e, ds⟩ H' ⟨e0, e4, hds, rfl⟩
    dsimp only at e0 e4 hds
    subst hds
    refine CW.walk1 hX mixed d71 rfl ?_
    simp [e0, e4]
  refine CW.walk hX mixed d71 rfl ?_
  simp
  refine CW.block ?_
  refine CW.loop (fun m s' H' => s'.env 0 = v ∧ s'.env 1 = .nilsl ∧ s'.env 4 = ci r ∧ s'.env 12 = .int .i64 0 ∧ s'.ds = [] ∧ H' = H) ?_ (m := 0) ⟨by simp, by simp, by simp, by simp, rfl, rfl⟩
  rintro m ⟨e, ds⟩ H' ⟨e0, e1, e4, e12, hds, rfl⟩
  dsimp only at e0 e1 e4 e12 hds
  subst hds
  refine CW.walk hX mixed d71 rfl ?_
  simp [e1, e12]
  exact ⟨by simp [e0], by simp [e4]⟩
end Go.Cl.Gu
set_option linter.unusedSimpArgs false
set_option linter.unusedVariables false
namespace Go.Cl.Gu
open Go.Proofs Go.Cl.Gd
variable {W : World} {G : Nat → CV}
set_option maxRecDepth 8000
set_option maxHeartbeats 1000000
theorem follower_c (hX : CxOk (cx W G)) (u : UUnit) (hu : wfU u = true) (ord : List Nat) (x : Nat) (hx : x < u.blocks.length) (H : Hp) :
    CC Tryz.prog W 49 [.iptr (openC u ord), .int .i64 x] H fun r H' => r = .ret (.tuple [ci (blkAt u x).en.to, .bool (follB u ord x)]) ∧ H' = H := by
  have hkx := blkAt_get hx
  have e4 : ∀ h, u.blocks[x]'h = blkAt u x := fun h => by
    rw [List.getElem?_eq_getElem h] at hkx; injection hkx
  obtain ⟨g1, g2, g3, g4⟩ := wfB_facts hu hkx
  obtain ⟨w1, w2, w3, w4, w5⟩ := wfE_facts g4
  have hal := fun t x ht hx H => alone_c hX u ord t x ht hx H
  simp only [openC, unitC, List.cons_append, List.nil_append] at hal
  have hF : follB u ord x = (decide ((blkAt u x).en.kind = 1) && aloneB u ord (blkAt u x).en.to.toNat x) := rfl
  refine CC.shrink ?_
  refine CC.of_cw hX Tryz.func49 rfl rfl (Nat.le_of_ble_eq_true rfl) ?_
  refine CW.walk hX mixed d49 rfl ?_
  simp [openC, unitC]
  refine CW.walk hX mixed d49 rfl ?_
  simp [hx, e4, blkC]
  intro q8 hq8
  generalize hk : (blkAt u x).en = en at *
  have m8 : (H.set q8 (.cells [ci en.kind, ci en.a, ci en.to, ci en.els])) q8 = some (.cells [ci en.kind, ci en.a, ci en.to, ci en.els]) := set_at
  have hle8 : Le H (H.set q8 (.cells [ci en.kind, ci en.a, ci en.to, ci en.els])) := Le.set_new hq8
  generalize H.set q8 _ = H1 at m8 hle8 ⊢
  by_cases hk1 : en.kind = 1
  · obtain ⟨h0, hl⟩ := w4 (.inl hk1)
    obtain ⟨t, ht⟩ := Int.eq_ofNat_of_zero_le h0
    refine CW.walk1 hX mixed d49 rfl ?_
    simp [d49, m8, hk1, ht]
    refine (hal t x (by omega) hx H1).k ?_
    rintro r H2 ⟨rfl, rfl⟩
    simp [d49, m8]
    refine ⟨by repeat' first | exact stabI_le rfl (Le.refl _) | constructor, ?_⟩
    exact ⟨hle8, by omega, by simp [hF, hk1, ht]⟩
  · refine CW.walk1 hX mixed d49 rfl ?_
    simp [d49, m8, hk1]
    exact ⟨stabI_le rfl (Le.refl _), hle8, by simp [hF, hk1]⟩
theorem follower_f (hX : CxOk (cx W G)) {u : UUnit} (hu : wfU u = true) {ord : List Nat} {x : Nat} (hx : x < u.blocks.length) {H : Hp} {xv : CV} (hf : Fz H xv (.iptr (openC u ord))) :
    CC Tryz.prog W 49 [xv, .int .i64 x] H fun r H' => r = .ret (.tuple [ci (blkAt u x).en.to, .bool (follB u ord x)]) ∧ H' = H := by
  refine (CC.freeze (args' := [.iptr (openC u ord), .int .i64 x]) (R := fun v => v = .tuple [ci (blkAt u x).en.to, .bool (follB u ord x)]) (by rfl) (fz2' hf _) (by rintro v rfl; simp [plainV]) fun w hw => ?_).mono ?_
  · exact (follower_c (W := w) (CxOk.later hX hw) u hu ord x hx _).mono fun r H' ⟨h1, _⟩ => ⟨_, h1, rfl⟩
  · rintro r H' ⟨v, rfl, rfl, rfl⟩
    exact ⟨rfl, rfl⟩
end Go.Cl.Gu
set_option linter.unusedSimpArgs false
set_option linter.unusedVariables false
namespace Go.Cl.Gu
open Go.Proofs Go.Cl.Gd
variable {W : World} {G : Nat → CV}
set_option maxRecDepth 8000
set_option maxHeartbeats 1000000
theorem keepO {Z A A' : Hp} {v : CV} {sz : Nat} {xs : List (List CV)} (h : Own Z A v sz xs) (hZ : Le Z A') (hk : ∀ r n c ob, v = .ref r 0 n c → A r = some ob → A' r = some ob) : Own Z A' v sz xs := by
  obtain ⟨_, h2, h⟩ := h
  refine ⟨hZ, h2, ?_⟩
  rcases h with h | ⟨r, c, ex, h3, h4, h5, h6⟩
  · exact .inl h
  · exact .inr ⟨r, c, ex, h3, h4, hk _ _ _ _ h3 h5, h6⟩
theorem join_c (hX : CxOk (cx W G)) (hG : G 0 = .iptr formsC) (u : UUnit) (hw : wfU u = true) (hs : u.sizes.length ≤ 1000000) (ord : List Nat) (x : Nat) (hx : x < u.blocks.length) (hf : follB u ord x = true) {B H : Hp} {xp rw rr : Nat} {v0 v5 : CV} (hR : OpR B H u xp rw rr v0 v5 ord) :
    CC Tryz.prog W 50 [.ptr xp 0, .int .i64 x] H fun r H' => Le H H' ∧ ∃ cs, r = .ret (.tuple [.agg cs, .bool (decide (errU (joinP u x) = 0))]) ∧ UV H' cs (joinP u x) := by
  have hfz := hR.fz
  have mx := hR.mx
  have huv := uv_of hR.w0 hR.b5 hR.c5
  obtain ⟨f1, f2, f3, f4, f5, f6, f7, f8, f9, f10, f11⟩ := wfU_facts hw
  have hkx := blkAt_get hx
  obtain ⟨g1, g2, g3, g4⟩ := wfB_facts hw hkx
  have hf' := hf
  simp only [follB, Bool.and_eq_true, decide_eq_true_eq] at hf'
  obtain ⟨hk1, hal⟩ := hf'
  obtain ⟨ht0, htl⟩ := (wfE_facts g4).2.2.2.1 (.inl hk1)
  obtain ⟨t, ht⟩ := Int.eq_ofNat_of_zero_le ht0
  have htn : t < u.blocks.length := by omega
  have htx : t ≠ x := by
    rw [ht] at hal
    simp only [aloneB, Bool.and_eq_true, decide_eq_true_eq] at hal
    exact hal.2.2.1
  have hkt := blkAt_get htn
  obtain ⟨t1, t2, t3, t4⟩ := wfB_facts hw hkt
  have hbl : ∀ b ∈ u.blocks, b.ops.length ≤ 1000000 := fun b hb => by
    obtain ⟨j, hj⟩ := List.getElem?_of_mem hb
    have := (wfB_facts hw hj).2.1
    omega
  refine CC.of_cw hX Tryz.func50 rfl rfl (Nat.le_of_ble_eq_true rfl) ?_
  refine CW.walk hX mixed d50 rfl ?_
  simp
  intro q4 hq4
  have hle1 : Le H (H.set q4 (.cells zeroV)) := Le.set_new hq4
  have m41 : (H.set q4 (.cells zeroV)) q4 = some (.cells zeroV) := set_at
  generalize H.set q4 _ = H1 at hle1 m41 ⊢
  have mx1 := hle1 _ _ mx
  refine CW.walk hX mixed d50 rfl ?_
  simp
  refine (follower_f hX hw hx (hfz.mono hle1)).k ?_
  rintro r H2 ⟨rfl, rfl⟩
  simp [ht]
  refine CW.walk hX mixed d50 rfl ?_
  simp [mx1]
  refine (codeCopy_c3 hX u hs (by omega) hbl H2 _ (huv.mono hle1)).k ?_
  rintro y H3 ⟨n0, n5, Z, rfl, hZ, hn0, hn5⟩
  obtain ⟨r5, c5, ds5, rfl, hc5, hr50, hr5, hR5⟩ : ∃ r c cs, n5 = .ref r 0 u.blocks.length c ∧ u.blocks.length ≤ c ∧ Z r = none ∧ H3 r = some (.cells cs) ∧ RowsB Z (hole H3 r) cs u.blocks u.blocks.length := by
    rcases hn5 with ⟨_, h0⟩ | h
    · rw [h0] at f7; simp at f7
    · exact h
  obtain ⟨sa, ca⟩ := Own.oneCell hn0
  simp only [CV.stor, CV.cells] at sa ca
  simp [sa, ca]
  intro q8 hq8
  have hle4 : Le H3 (H3.set q8 (.cells [n0, ci u.params, ci u.regs, ci u.code, ci u.spill, .ref r5 0 u.blocks.length c5])) := Le.set_new hq8
  have m8 : (H3.set q8 (.cells [n0, ci u.params, ci u.regs, ci u.code, ci u.spill, .ref r5 0 u.blocks.length c5])) q8 = some (.cells [n0, ci u.params, ci u.regs, ci u.code, ci u.spill, .ref r5 0 u.blocks.length c5]) := set_at
  have hr58 : r5 ≠ q8 := fun e => by rw [e, hq8] at hr5; cases hr5
  have hZ8 : Z q8 = none := hZ.none hq8
  generalize H3.set q8 _ = H4 at hle4 m8 ⊢
  obtain ⟨xx, hrx, hox, _⟩ := hR5.row x _ hkx
  obtain ⟨xt, hrt, hot, _⟩ := hR5.row t _ hkt
  have hox := hox hx
  have hot := hot htn
  have hr4 := hle4 _ _ hr5
  have hcx := row_head hrx
  have hct := row_head hrt
  have hdx : x * 6 + 6 ≤ ds5.length := by
    have := congrArg List.length hrx
    simp [blkT] at this
    omega
  have hdt : t * 6 + 6 ≤ ds5.length := by
    have := congrArg List.length hrt
    simp [blkT] at this
    omega
  refine CW.walk hX mixed d50 rfl ?_
  simp [m8, hx]
  refine CW.walk hX mixed d50 rfl ?_
  simp [d50, m8, hr4, hx, htn, hcx, hct, -vcAppend]
  refine ⟨by omega, ?_⟩
  have hoxB : Own Z H4 xx 7 ((blkAt u x).ops.map opC) := (hox.mono hole_le).mono hle4
  have hotB : Own Z H4 xt 7 ((blkAt u t).ops.map opC) := (hot.mono hole_le).mono hle4
  have hxq8 : ∀ n c, xx ≠ .ref q8 0 n c := (hox.mono hole_le).ne_fresh hq8
  have hxr5 : ∀ n c, xx ≠ .ref r5 0 n c := hox.ne_fresh hole_at
  refine hoxB.append2 (ys := (blkAt u t).ops.map opC) hotB.len (by simp; omega) hotB.src fun v' H5 how5 kp => ?_
  obtain ⟨m85, hv8⟩ := kp q8 _ m8 hxq8
  obtain ⟨hr55, hv5⟩ := kp r5 _ hr4 hxr5
  obtain ⟨sa', ca'⟩ := Own.oneCell how5
  simp only [CV.stor, CV.cells] at sa' ca'
  have hE : List.take 4 (List.drop (t * 6 + 1) ds5) = endC (blkAt u t).en := by
    have h1 : ds5.drop (t * 6 + 1) = (ds5.drop (t * 6)).drop 1 := by rw [List.drop_drop]
    have h2 : ds5.drop (t * 6) = (xt :: blkT (blkAt u t)) ++ ds5.drop (t * 6 + 6) := by rw [← hrt, ← List.drop_drop, List.take_append_drop]
    rw [h1, h2]
    rfl
  simp only [endC] at hE
  refine ⟨by simp [stabI, Stab, IsV, m8, hr4, m85, hr55, hx, htn, hcx, hct], ?_⟩
  simp [d50, m85, hr55, hx, htn, sa', ca', cfill]
  refine ⟨by omega, by omega, by omega, ?_⟩
  rw [hE, row_put hrx]
  simp only [List.cons_append, List.nil_append]
  have hA : (ds5.take (x * 6)).length = x * 6 := by rw [List.length_take]; omega
  have hp4 := row_put4 (C := ds5.drop (x * 6 + 6)) hA (v := v') (a := ci (blkAt u x).en.kind) (b := ci (blkAt u x).en.a) (c := ci (blkAt u x).en.to) (d := ci (blkAt u x).en.els) (e := ci (blkAt u x).catch_) (p := ci (blkAt u t).en.kind) (q := ci (blkAt u t).en.a) (r := ci (blkAt u t).en.to) (s := ci (blkAt u t).en.els)
  simp only [List.cons_append, List.nil_append] at hp4
  rw [hp4]
  clear hp4 hE
  obtain ⟨N, hN⟩ : ∃ N : UBlk, (⟨(blkAt u x).ops ++ (blkAt u t).ops, (blkAt u t).en, (blkAt u x).catch_⟩ : UBlk) = N := ⟨_, rfl⟩
  have hV : joinP u x = { u with blocks := u.blocks.set x N } := by
    rw [← hN]
    simp only [joinP, ht]
    rfl
  have hZ5 : Le Z H5 := how5.le
  have hZr : ∀ o, Le Z (H5.set r5 o) := fun o => hZ5.put hr50
  have hrow : ∀ (j : Nat) k o, j ≠ x → u.blocks[j]? = some k → ∃ x0, (ds5.drop (j * 6)).take 6 = x0 :: blkT k ∧ Own Z (H5.set r5 o) x0 7 (k.ops.map opC) := fun j k o hj hk => by
    obtain ⟨x0, a, b, _⟩ := hR5.row j k hk
    have b := b (List.getElem?_eq_some_iff.1 hk).1
    refine ⟨x0, a, keepO b (hZr o) fun r n c ob e hr => ?_⟩
    have hne : r ≠ r5 := fun e => by rw [e, hole_at] at hr; cases hr
    rw [hole_ne hne] at hr
    rw [hset_ne hne]
    refine (kp r ob (hle4 _ _ hr) fun n' c' e' => ?_).1
    have hj1 := row_head a
    rw [e] at hj1
    rw [e'] at hcx
    rcases Nat.lt_or_gt_of_ne hj with h | h
    · exact hR5.ap j x r 0 n c r 0 n' c' h hx hj1 hcx rfl
    · exact hR5.ap x j r 0 n' c' r 0 n c h (List.getElem?_eq_some_iff.1 hk).1 hcx hj1 rfl
  have hown : ∀ o, Own Z (H5.set r5 o) v' 7 (N.ops.map opC) := fun o => by
    rw [← hN]
    simp only [List.map_append]
    refine keepO how5 (hZr o) fun r n c ob e hr => ?_
    have hne : r ≠ r5 := fun e2 => hv5 n c (by rw [e, e2])
    rw [hset_ne hne]
    exact hr
  have m86 : ∀ o, (H5.set r5 o) q8 = some (.cells [n0, ci u.params, ci u.regs, ci u.code, ci u.spill, .ref r5 0 u.blocks.length c5]) := fun o => by rw [hset_ne (Ne.symm hr58)]; exact m85
  have hr56 : (H5.set r5 (.cells (List.take (x * 6) ds5 ++ v' :: ci (blkAt u t).en.kind :: ci (blkAt u t).en.a :: ci (blkAt u t).en.to :: ci (blkAt u t).en.els :: ci (blkAt u x).catch_ :: List.drop (x * 6 + 6) ds5))) r5 = _ := set_at
  have hZ6 := hZr (.cells (List.take (x * 6) ds5 ++ v' :: ci (blkAt u t).en.kind :: ci (blkAt u t).en.a :: ci (blkAt u t).en.to :: ci (blkAt u t).en.els :: ci (blkAt u x).catch_ :: List.drop (x * 6 + 6) ds5))
  have hrow6 := fun j k => hrow j k (.cells (List.take (x * 6) ds5 ++ v' :: ci (blkAt u t).en.kind :: ci (blkAt u t).en.a :: ci (blkAt u t).en.to :: ci (blkAt u t).en.els :: ci (blkAt u x).catch_ :: List.drop (x * 6 + 6) ds5))
  have hown6 := hown (.cells (List.take (x * 6) ds5 ++ v' :: ci (blkAt u t).en.kind :: ci (blkAt u t).en.a :: ci (blkAt u t).en.to :: ci (blkAt u t).en.els :: ci (blkAt u x).catch_ :: List.drop (x * 6 + 6) ds5))
  have m86 := m86 (.cells (List.take (x * 6) ds5 ++ v' :: ci (blkAt u t).en.kind :: ci (blkAt u t).en.a :: ci (blkAt u t).en.to :: ci (blkAt u t).en.els :: ci (blkAt u x).catch_ :: List.drop (x * 6 + 6) ds5))
  generalize H5.set r5 _ = H6 at hr56 hZ6 hrow6 hown6 m86 ⊢
  have hn6 : Own H2 H6 n0 1 (ints u.sizes) := hn0.mono hZ6
  have hNl : N.ops.length ≤ 1000000 := by
    rw [← hN]
    simp only [List.length_append]
    omega
  rw [hV]
  have hUO : UOk { u with blocks := u.blocks.set x N } := ⟨hs, by simp; omega, fun b hb => by
    simp only at hb
    rcases List.mem_or_eq_of_mem_set hb with h | rfl
    · exact hbl b h
    · omega, fun b _ o _ => by simp only [Kd]; omega⟩
  have huvG : ∀ H' : Hp, Own E0 H' n0 1 (ints u.sizes) → Own E0 H' v' 7 (N.ops.map opC) → (∀ (j : Nat) k, j ≠ x → u.blocks[j]? = some k → ∃ x0, (ds5.drop (j * 6)).take 6 = x0 :: blkT k ∧ Own E0 H' x0 7 (k.ops.map opC)) → H' r5 = some (.cells (ds5.take (x * 6) ++ ([v', ci (blkAt u t).en.kind, ci (blkAt u t).en.a, ci (blkAt u t).en.to, ci (blkAt u t).en.els, ci (blkAt u x).catch_] ++ ds5.drop (x * 6 + 6)))) → UV H' [n0, ci u.params, ci u.regs, ci u.code, ci u.spill, .ref r5 0 u.blocks.length c5] { u with blocks := u.blocks.set x N } := fun H' a1 a2 a3 a4 => by
    refine uv_of (u := { u with blocks := u.blocks.set x N }) a1 (.inr ⟨r5, c5, _, by simp, a4, fun j k hk => ?_⟩) (fun r n c e => by injection e with _ _ e1 e2; omega)
    simp only at hk
    by_cases hj : j = x
    · subst hj
      rw [List.getElem?_set, if_pos rfl, if_pos hx] at hk
      injection hk with hk
      subst hk
      refine ⟨v', ?_, a2⟩
      rw [row6_same hdx rfl, ← hN]
      rfl
    · rw [List.getElem?_set, if_neg (Ne.symm hj)] at hk
      obtain ⟨x0, a, b⟩ := a3 j k hj hk
      exact ⟨x0, by rw [row6_other hdx rfl hj]; exact a, b⟩
  have huv6 := huvG H6 hn6.bare hown6.bare (fun j k hj hk => by obtain ⟨x0, a, b⟩ := hrow6 j k hj hk; exact ⟨x0, a, b.bare⟩) hr56
  have m46 : H6 q4 = some (.cells zeroV) := hZ6 _ _ (hn0.le _ _ m41)
  refine CW.walk1 hX mixed d50 rfl ?_
  simp [d50, m86]
  refine (check_ef hX hG hUO huv6.f).k ?_
  rintro y H7 ⟨rfl, rfl⟩
  simp [d50, m86, m46]
  have hq2n : H2 q4 ≠ none := by rw [m41]; simp
  have hqZ : Z q4 ≠ none := by rw [hn0.le _ _ m41]; simp
  have hr54 : r5 ≠ q4 := fun e => by rw [e] at hr50; exact hqZ hr50
  refine ⟨stabI_le rfl (Le.refl _), (hle1.trans hn6.le).put hq4, _, ⟨rfl, by rw [Bool.eq_iff_iff]; simp⟩, huvG _ (hn6.setBase hq2n).bare (hown6.setBase hqZ).bare (fun j k hj hk => ?_) (by rw [hset_ne hr54]; exact hr56)⟩
  obtain ⟨x0, a, b⟩ := hrow6 j k hj hk
  exact ⟨x0, a, (b.setBase hqZ).bare⟩
end Go.Cl.Gu
set_option linter.unusedSimpArgs false
set_option linter.unusedVariables false
namespace Go.Cl.Gu
open Go.Proofs Go.Cl.Gd
variable {W : World} {G : Nat → CV}
set_option maxRecDepth 8000
set_option maxHeartbeats 1000000
theorem OpR.mono {B H H' : Hp} {u : UUnit} {xp rw rr : Nat} {v0 v5 : CV} {ord : List Nat} (h : OpR B H u xp rw rr v0 v5 ord) (hl : Le H H') : OpR B H' u xp rw rr v0 v5 ord :=
  ⟨h.le.trans hl, hl _ _ h.mx, h.w0.mono hl, h.b5.mono hl, h.c5, hl _ _ h.w, hl _ _ h.r⟩
theorem two_new {K : Hp} {q2 q4 q8 : Nat} {a b c : Ob} (h82 : q8 ≠ q2) (h84 : q8 ≠ q4) : ((K.set q2 a).set q4 b).set q8 c = ((K.set q8 c).set q2 a).set q4 b := by
  rw [set_comm (r := q4) (r' := q8) (Ne.symm h84), set_comm (r := q2) (r' := q8) (Ne.symm h82)]
theorem two_put {K : Hp} {q2 q4 : Nat} {a b a' : Ob} (h : q2 ≠ q4) : ((K.set q2 a).set q4 b).set q2 a' = (K.set q2 a').set q4 b := by
  rw [set_comm (r := q4) (r' := q2) (Ne.symm h), set_set]
theorem le_two {K : Hp} {q2 q4 : Nat} {a b : Ob} (h2 : K q2 = none) (h4 : K q4 = none) : Le K ((K.set q2 a).set q4 b) := ((Le.set_new h2)).put h4
structure agI (f : UUnit → Nat → Option UUnit) (μ : UUnit → Nat) (u : UUnit) (H : Hp) (dv : CV) (q2 q4 : Nat) (m : Nat) (s' : CA) (H' : Hp) : Prop where
  ex : ∃ K csu v, ∃ fd : Bool, s'.env 1 = dv ∧ s'.env 2 = .ptr q2 0 ∧ s'.env 4 = .ptr q4 0 ∧ s'.env 5 = .bool fd ∧ s'.ds = [] ∧ K q2 = none ∧ K q4 = none ∧ Le H K ∧ H' = (K.set q2 (.cells csu)).set q4 (.cells zeroV) ∧ UV K csu v ∧ wfU v = true ∧ v.sizes = u.sizes ∧ (∀ w, AgR f v w → AgR f u w) ∧ (fd = true → m = μ v + 1) ∧ (fd = false → m = 0 ∧ firstS f v = none)
structure agX (f : UUnit → Nat → Option UUnit) (u : UUnit) (H : Hp) (q2 q4 : Nat) (s' : CA) (H' : Hp) : Prop where
  ex : ∃ K csu v, s'.env 2 = .ptr q2 0 ∧ s'.env 4 = .ptr q4 0 ∧ s'.ds = [] ∧ K q2 = none ∧ K q4 = none ∧ Le H K ∧ H' = (K.set q2 (.cells csu)).set q4 (.cells zeroV) ∧ UV K csu v ∧ wfU v = true ∧ v.sizes = u.sizes ∧ AgR f u v
structure agJ (f : UUnit → Nat → Option UUnit) (v : UUnit) (K : Hp) (csu : List CV) (dv : CV) (q2 q4 xp : Nat) (d m : Nat) (s' : CA) (H' : Hp) : Prop where
  ex : ∃ (i i18 : Nat) (K3 : Hp), m = v.blocks.length - i ∧ i ≤ v.blocks.length ∧ i18 + d = i ∧ s'.env 1 = dv ∧ s'.env 2 = .ptr q2 0 ∧ s'.env 4 = .ptr q4 0 ∧ s'.env 5 = .bool false ∧ s'.env 6 = .ptr xp 0 ∧ s'.env 17 = .int .i64 v.blocks.length ∧ s'.env 18 = .int .i64 i18 ∧ s'.ds = [] ∧ K3 q2 = none ∧ K3 q4 = none ∧ Le K K3 ∧ H' = (K3.set q2 (.cells csu)).set q4 (.cells zeroV) ∧ ∀ x, x < i → f v x = none
/-- What again answers. -/
def AgO (f : UUnit → Nat → Option UUnit) (u : UUnit) (H : Hp) (r : CE) (H' : Hp) : Prop := ∃ cs' v, r = .ret (.agg cs') ∧ Le H H' ∧ UV H' cs' v ∧ wfU v = true ∧ v.sizes = u.sizes ∧ AgR f u v
theorem again_c (hX : CxOk (cx W G)) (hG : G 0 = .iptr formsC) {g : FuncId} {cap : List CV} {f : UUnit → Nat → Option UUnit} {μ : UUnit → Nat} {H0 : Hp}
    (hdo : ∀ (u : UUnit) (B H : Hp) (xp rw rr : Nat) (v0 v5 : CV) (x : Nat), Le H0 H → wfU u = true → u.sizes.length ≤ 1000000 → x < u.blocks.length → OpR B H u xp rw rr v0 v5 (ordC u) → CC Tryz.prog W g (.ptr xp 0 :: .int .i64 x :: cap) H fun r H' => Le H H' ∧ ∃ cs v, r = .ret (.tuple [.agg cs, .bool (f u x).isSome]) ∧ UV H' cs v ∧ ∀ w, f u x = some w → w = v)
    (hμ : ∀ u v, wfU u = true → firstS f u = some v → μ v < μ u ∧ wfU v = true ∧ v.sizes = u.sizes)
    (u : UUnit) (hw : wfU u = true) (hs : u.sizes.length ≤ 1000000) (H : Hp) (hH0 : Le H0 H) (cs : List CV) (hv : UV H cs u) :
    CC Tryz.prog W 47 [.agg cs, .func (.func g) [] cap] H (AgO f u H) := by
  obtain ⟨f1, f2, f3, f4, f5, f6, f7, f8, f9, f10, f11⟩ := wfU_facts hw
  obtain ⟨w0, w5, rfl, hbr⟩ := hv.b
  refine CC.of_cw hX Tryz.func47 rfl rfl (Nat.le_of_ble_eq_true rfl) ?_
  refine CW.walk hX mixed d47 rfl ?_
  simp
  intro q2 hq2 q4 h42 h24 hq4
  have m2 : ((H.set q2 (.cells [w0, ci u.params, ci u.regs, ci u.code, ci u.spill, w5])).set q4 (.cells zeroV)) q2 = some (.cells [w0, ci u.params, ci u.regs, ci u.code, ci u.spill, w5]) := by rw [hset_ne h24]; exact set_at
  have hbl : ∀ b ∈ u.blocks, b.ops.length ≤ 1000000 := fun b hb => by
    obtain ⟨j, hj⟩ := List.getElem?_of_mem hb
    have := (wfB_facts hw hj).2.1
    omega
  have hcp := ((codeCopy_c hX u hs (by omega) hbl H _ hv).frame (ob := .cells [w0, ci u.params, ci u.regs, ci u.code, ci u.spill, w5]) hq2).frame (r := q4) (ob := .cells zeroV) (by rw [hset_none_iff]; exact ⟨h42, hq4⟩)
  refine CW.walk hX mixed d47 rfl ?_
  simp [m2]
  refine hcp.k ?_
  rintro x _ ⟨_, k4, rfl, K1, k2, rfl, v0, v5, rfl, hle1, hn0, hn5⟩
  rw [hset_none_iff] at k4
  have hc5 : ∀ r n c, v5 = .ref r 0 n c → n ≤ c := fun r n c e => by
    rcases hn5 with ⟨h, _⟩ | ⟨r', c', cs', h, hl, _⟩
    · rw [h] at e; cases e
    · rw [h] at e; injection e with _ _ e1 e2; omega
  have huv1 := uv_of hn0 hn5.r hc5
  have m2' : ((K1.set q2 (.cells [w0, ci u.params, ci u.regs, ci u.code, ci u.spill, w5])).set q4 (.cells zeroV)) q2 = some (.cells [w0, ci u.params, ci u.regs, ci u.code, ci u.spill, w5]) := by rw [hset_ne h24]; exact set_at
  simp [m2']
  rw [two_put h24]
  refine CW.cut (agX f u H q2 q4) ?_ ?_
  rotate_left
  · clear huv1 hc5 hn0 hn5 hle1 m2 m2' hcp k2 k4
    rintro ⟨e, ds⟩ _ ⟨K, csu, v, e2, e4, hds, k2, k4, hK, rfl, huv, hwv, hsv, hag⟩
    dsimp only at e2 e4 hds
    subst hds
    have hl6 := huv.l
    have m2 : ((K.set q2 (.cells csu)).set q4 (.cells zeroV)) q2 = some (.cells csu) := by rw [hset_ne h24]; exact set_at
    refine CW.walk1 hX mixed d47 rfl ?_
    simp [e2, e4, m2, hl6]
    have hle : Le K ((K.set q2 (.cells csu)).set q4 (.cells (List.take 6 csu))) := le_two k2 k4
    exact ⟨csu, v, by simp [List.take_of_length_le, hl6], hK.trans hle, huv.mono hle, hwv, hsv, hag⟩
  refine CW.walk hX mixed d47 rfl ?_
  simp
  refine CW.block ?_
  refine CW.loop (agI f μ u H (.func (.func g) [] cap) q2 q4) ?_ (m := μ u + 1) ⟨K1, _, u, true, by simp, by simp, by simp, by simp, rfl, k2, k4.2, hle1, rfl, huv1, hw, rfl, fun w h => h, fun _ => rfl, fun h => by cases h⟩
  clear huv1 hc5 hn0 hn5 hle1 m2 m2' hcp k2 k4
  rintro m ⟨e, ds⟩ _ ⟨K, csu, v, fd, e1, e2, e4, e5, hds, k2, k4, hK, rfl, huv, hwv, hsv, hag, hft, hff⟩
  dsimp only at e1 e2 e4 e5 hds
  subst hds
  cases fd with
  | false =>
    refine CW.walk hX mixed d47 rfl ?_
    simp [e5]
    exact ⟨K, csu, v, by simp [e2], by simp [e4], rfl, k2, k4, hK, rfl, huv, hwv, hsv, hag _ (.stop (hff rfl).2)⟩
  | true =>
  obtain rfl := hft rfl
  obtain ⟨x0, x5, rfl, hxb⟩ := huv.b
  obtain ⟨g1, g2, g3, g4, g5, g6, g7, g8, g9, g10, g11⟩ := wfU_facts hwv
  obtain ⟨rb, cb, rfl⟩ : ∃ r c, x5 = .ref r 0 v.blocks.length c := by
    rcases hxb with ⟨_, h0⟩ | ⟨r, c, cs, h, _⟩
    · rw [h0] at g7; simp at g7
    · exact ⟨r, c, h⟩
  have m2 : ((K.set q2 (.cells [x0, ci v.params, ci v.regs, ci v.code, ci v.spill, .ref rb 0 v.blocks.length cb])).set q4 (.cells zeroV)) q2 = some (.cells [x0, ci v.params, ci v.regs, ci v.code, ci v.spill, .ref rb 0 v.blocks.length cb]) := by rw [hset_ne h24]; exact set_at
  have hsv' : v.sizes.length ≤ 1000000 := by rw [hsv]; exact hs
  have hop := ((open_c hX hG v hwv hsv' K _ huv).frame (ob := .cells [x0, ci v.params, ci v.regs, ci v.code, ci v.spill, .ref rb 0 v.blocks.length cb]) k2).frame (r := q4) (ob := .cells zeroV) (by rw [hset_none_iff]; exact ⟨h42, k4⟩)
  refine CW.walk hX mixed d47 rfl ?_
  simp [e5]
  refine CW.block ?_
  refine CW.walk hX mixed d47 rfl ?_
  simp
  refine CW.walk hX mixed d47 rfl ?_
  simp [e2, m2]
  refine hop.k ?_
  rintro x _ ⟨_, k4', rfl, K2, k2', rfl, xp, rw, rr, v0, v5, p, c, rfl, hp, hR⟩
  rw [ordC_eq hp] at hR
  rw [hset_none_iff] at k4'
  have hle2 := hR.le
  have m2' : ((K2.set q2 (.cells [x0, ci v.params, ci v.regs, ci v.code, ci v.spill, .ref rb 0 v.blocks.length cb])).set q4 (.cells zeroV)) q2 = some (.cells [x0, ci v.params, ci v.regs, ci v.code, ci v.spill, .ref rb 0 v.blocks.length cb]) := by rw [hset_ne h24]; exact set_at
  simp
  refine CW.walk hX mixed d47 rfl ?_
  simp [e2, m2']
  refine CW.block ?_
  refine CW.loop (agJ f v K2 [x0, ci v.params, ci v.regs, ci v.code, ci v.spill, .ref rb 0 v.blocks.length cb] (.func (.func g) [] cap) q2 q4 xp 0) ?_ (m := v.blocks.length) ⟨0, 0, K2, rfl, by omega, rfl, by simp [e1], by simp [e2], by simp [e4], by simp, by simp, by simp, by simp, rfl, k2', k4'.2, Le.refl _, rfl, fun x h => by omega⟩
  clear m2 m2' hop e1 e2 e4 e5
  rintro m ⟨e', ds⟩ _ ⟨i, i18, K3, rfl, hi, hi18, e1, e2, e4, e5, e6, e17, e18, hds, j2, j4, hK3, rfl, hnone⟩
  dsimp only at e1 e2 e4 e5 e6 e17 e18 hds
  subst hds
  obtain rfl : i18 = i := by omega
  by_cases hil : i18 < v.blocks.length
  rotate_left
  · refine CW.walk hX mixed d47 rfl ?_
    simp [e17, e18, hil]
    obtain rfl : i18 = v.blocks.length := by omega
    refine CW.walk1 hX mixed d47 rfl ?_
    simp
    exact ⟨0, by omega, K3, _, v, false, by simp [e1], by simp [e2], by simp [e4], by simp [e5], rfl, j2, j4, (hK.trans hle2).trans hK3, rfl, huv.mono (hle2.trans hK3), hwv, hsv, hag, (fun h => by cases h), fun _ => ⟨rfl, first_none hnone⟩⟩
  refine CW.walk hX mixed d47 rfl ?_
  simp [e17, e18, hil]
  refine CW.walk hX mixed d47 rfl ?_
  simp
  refine CW.cut (agJ f v K2 [x0, ci v.params, ci v.regs, ci v.code, ci v.spill, .ref rb 0 v.blocks.length cb] (.func (.func g) [] cap) q2 q4 xp 1 (v.blocks.length - (i18 + 1))) ?_ ?_
  rotate_left
  · clear e1 e2 e4 e5 e6 e17 e18 hnone j2 j4 hK3
    rintro ⟨e', ds⟩ _ ⟨i, i18', K3, hm, hi, hi18, e1, e2, e4, e5, e6, e17, e18, hds, j2, j4, hK3, rfl, hnone⟩
    dsimp only at e1 e2 e4 e5 e6 e17 e18 hds
    subst hds
    obtain rfl : i = i18 + 1 := by omega
    obtain rfl : i18' = i18 := by omega
    refine CW.walk1 hX mixed d47 rfl ?_
    simp [e18]
    exact ⟨v.blocks.length - (i18' + 1), by omega, i18' + 1, i18' + 1, K3, rfl, by omega, rfl, by simp [e1], by simp [e2], by simp [e4], by simp [e5], by simp [e6], by simp [e17], by simp; rw [wrapI (by omega) (by omega)], rfl, j2, j4, hK3, rfl, hnone⟩
  refine CW.block ?_
  refine CW.walk hX mixed d47 rfl ?_
  simp [e18]
  have hd := ((hdo v K K3 xp rw rr v0 v5 i18 (((hH0.trans hK).trans hle2).trans hK3) hwv hsv' hil (hR.mono hK3)).frame (ob := .cells [x0, ci v.params, ci v.regs, ci v.code, ci v.spill, .ref rb 0 v.blocks.length cb]) j2).frame (r := q4) (ob := .cells zeroV) (by rw [hset_none_iff]; exact ⟨h42, j4⟩)
  refine CW.walk hX mixed d47 rfl ?_
  simp [e1, e6]
  refine hd.k ?_
  rintro x _ ⟨_, l4, rfl, K4, l2, rfl, hle4, cs4, v4, rfl, huv4, heq⟩
  rw [hset_none_iff] at l4
  have hl6 := huv4.l
  simp [hl6]
  intro q8 b1 b2 b3 b4 hq8
  have h82 : q8 ≠ q2 := by first | exact b1 | exact b2 | exact b3 | exact b4
  have h84 : q8 ≠ q4 := by first | exact b1 | exact b2 | exact b3 | exact b4
  have hle5 : Le K4 (K4.set q8 (.cells cs4)) := Le.set_new hq8
  have n2 : (K4.set q8 (.cells cs4)) q2 = none := by rw [hset_ne (Ne.symm h82)]; exact l2
  have n4 : (K4.set q8 (.cells cs4)) q4 = none := by rw [hset_ne (Ne.symm h84)]; exact l4.2
  cases hf : f v i18 with
  | none =>
    refine CW.walk1 hX mixed d47 rfl ?_
    simp [hf]
    exact ⟨i18 + 1, i18, K4.set q8 (.cells cs4), rfl, by omega, rfl, by simp [e1], by simp [e2], by simp [e4], by simp [e5], by simp [e6], by simp [e17], by simp [e18], rfl, n2, n4, (hK3.trans hle4).trans hle5, two_new h82 h84, fun x hx => by
      by_cases e : x = i18
      · rw [e]; exact hf
      · exact hnone x (by omega)⟩
  | some w =>
    obtain rfl := heq w hf
    have hfs := first_at hil hnone hf
    obtain ⟨hμ1, hμ2, hμ3⟩ := hμ v _ hwv hfs
    rw [two_new h82 h84]
    have m8 : ∀ a b : Ob, (((K4.set q8 (.cells cs4)).set q2 a).set q4 b) q8 = some (.cells cs4) := fun a b => (le_two n2 n4) _ _ set_at
    have huv5 := huv4.mono hle5
    have hle45 := hle4.trans hle5
    clear hle4 hle5 huv4
    generalize K4.set q8 _ = K5 at hle45 huv5 n2 n4 m8 ⊢
    refine CW.walk hX mixed d47 rfl ?_
    simp [hf]
    refine CW.walk1 hX mixed d47 rfl ?_
    have m2 : ∀ a b : Ob, ((K5.set q2 a).set q4 b) q2 = some a := fun a b => by rw [hset_ne h24]; exact set_at
    simp [m8, m2, hl6, e2]
    exact ⟨μ w + 1, by omega, K5, cs4, w, true, by simp [e1], by simp [e2], by simp [e4], by simp, rfl, n2, n4, ((hK.trans hle2).trans hK3).trans hle45, by rw [two_put h24, List.take_of_length_le (by omega)], huv5, hμ2, hμ3.trans hsv, fun w' h' => hag _ (.go hfs h'), fun _ => rfl, fun h => by cases h⟩
end Go.Cl.Gu
set_option linter.unusedSimpArgs false
set_option linter.unusedVariables false
namespace Go.Cl.Gu
open Go.Proofs Go.Cl.Gd
variable {W : World} {G : Nat → CV}
set_option maxRecDepth 8000
set_option maxHeartbeats 1000000
/-- What a step answers. -/
def DoO (o : Option UUnit) (H : Hp) (r : CE) (H' : Hp) : Prop := Le H H' ∧ ∃ cs v, r = .ret (.tuple [.agg cs, .bool o.isSome]) ∧ UV H' cs v ∧ ∀ w, o = some w → w = v
theorem joinsDo_c (hX : CxOk (cx W G)) (hG : G 0 = .iptr formsC) (u : UUnit) (hw : wfU u = true) (hs : u.sizes.length ≤ 1000000) (x : Nat) (hx : x < u.blocks.length) {B H : Hp} {xp rw rr : Nat} {v0 v5 : CV} (hR : OpR B H u xp rw rr v0 v5 (ordC u)) :
    CC Tryz.prog W 51 [.ptr xp 0, .int .i64 x] H (DoO (stepJoin u x) H) := by
  have hfz := hR.fz
  refine CC.of_cw hX Tryz.func51 rfl rfl (Nat.le_of_ble_eq_true rfl) ?_
  refine CW.walk hX mixed d51 rfl ?_
  simp
  intro q4 hq4
  have hle1 : Le H (H.set q4 (.cells zeroV)) := Le.set_new hq4
  refine CW.walk hX mixed d51 rfl ?_
  simp
  refine (follower_f hX hw hx (hfz.mono hle1)).k ?_
  rintro r H2 ⟨rfl, rfl⟩
  simp [cfill]
  refine ⟨fun hf => ?_, fun hf => ?_⟩
  · have e : stepJoin u x = none := by simp [stepJoin, hf]
    rw [e]
    exact ⟨hle1, zeroV, zeroU, by simp, uv_zero, fun w h => by cases h⟩
  have hj := (join_c hX hG u hw hs (ordC u) x hx hf hR).frame (ob := .cells zeroV) hq4
  refine CW.walk1 hX mixed d51 rfl ?_
  simp
  refine hj.k ?_
  rintro r _ ⟨K4, hK4, rfl, hle4, cs4, rfl, huv⟩
  have hl6 := huv.l
  simp [hl6]
  refine ⟨hle4.trans (Le.set_new hK4), cs4, joinP u x, ?_, huv.mono (Le.set_new hK4), fun w h => ?_⟩
  · by_cases hc : errU (joinP u x) = 0 <;> simp [stepJoin, hf, hc, List.take_of_length_le, hl6]
  · simp only [stepJoin] at h
    split at h
    · injection h with h; exact h.symm
    · cases h
theorem allDo_c (hX : CxOk (cx W G)) (hG : G 0 = .iptr formsC) (size : Int) {qs : Nat} (u : UUnit) (hw : wfU u = true) (hs : u.sizes.length ≤ 1000000) (x : Nat) (hx : x < u.blocks.length) {B H : Hp} {xp rw rr : Nat} {v0 v5 : CV} (hqs : H qs = some (.cells [ci size])) (hR : OpR B H u xp rw rr v0 v5 (ordC u)) :
    CC Tryz.prog W 48 [.ptr xp 0, .int .i64 x, .ptr qs 0] H (DoO (stepAll size u x) H) := by
  have hfz := hR.fz
  refine CC.of_cw hX Tryz.func48 rfl rfl (Nat.le_of_ble_eq_true rfl) ?_
  refine CW.walk hX mixed d48 rfl ?_
  simp
  intro q4 hq4
  have hle1 : Le H (H.set q4 (.cells zeroV)) := Le.set_new hq4
  have mq := hle1 _ _ hqs
  refine CW.walk hX mixed d48 rfl ?_
  simp
  refine (size_f hX hw hx (hfz.mono hle1)).k ?_
  rintro r H2 ⟨rfl, rfl⟩
  by_cases hk : (shapeP u (ordC u) x).kind = 0
  · simp [cfill, hk]
    have e : stepAll size u x = none := by simp [stepAll, hk]
    rw [e]
    exact ⟨hle1, zeroV, zeroU, by simp, uv_zero, fun w h => by cases h⟩
  by_cases hz : size < (sizeP u (ordC u) x : Int)
  · simp [cfill, hk, mq, hz]
    have e : stepAll size u x = none := by
      rw [stepAll, if_neg]
      rintro ⟨_, h, _⟩
      omega
    rw [e]
    exact ⟨hle1, zeroV, zeroU, by simp, uv_zero, fun w h => by cases h⟩
  simp [cfill, hk, mq, hz]
  have hj := (convert_c hX hG u hw hs (ordC u) x hx hk hR).frame (ob := .cells zeroV) hq4
  refine CW.walk1 hX mixed d48 rfl ?_
  simp
  refine hj.k ?_
  rintro r _ ⟨K4, hK4, rfl, hle4, cs4, rfl, huv⟩
  have hl6 := huv.l
  have hz' : (sizeP u (ordC u) x : Int) ≤ size := by omega
  simp [hl6]
  refine ⟨hle4.trans (Le.set_new hK4), cs4, convP u (ordC u) x, ?_, huv.mono (Le.set_new hK4), fun w h => ?_⟩
  · by_cases hc : errU (convP u (ordC u) x) = 0 <;> simp [stepAll, hk, hz', hc, List.take_of_length_le, hl6]
  · simp only [stepAll] at h
    split at h
    · injection h with h; exact h.symm
    · cases h
noncomputable def jnE (u : UUnit) (b : Int) : Int := if thereE u b ≠ 0 then thereE u b else if follB u (ordC u) b.toNat = false then 5 else if errU (joinP u b.toNat) ≠ 0 then 11 else 0
noncomputable def jnU (u : UUnit) (b : Int) : UUnit := if jnE u b = 0 then joinP u b.toNat else zeroU
theorem joinF_c (hX : CxOk (cx W G)) (hG : G 0 = .iptr formsC) (u : UUnit) (hu : UOk u) (hs : u.sizes.length ≤ 1000000) (b : Int) (H : Hp) (cs : List CV) (hv : UV H cs u) :
    CC Tryz.prog W 26 [.agg cs, ci b] H (RU H (jnE u b) (jnU u b)) := by
  obtain ⟨w0, w5, rfl, hbr⟩ := hv.b
  refine CC.of_cw hX Tryz.func26 rfl rfl (Nat.le_of_ble_eq_true rfl) ?_
  refine CW.walk hX mixed d26 rfl ?_
  simp
  intro q1 hq1 q4 h41 h14 hq4
  have hle1 : Le H (H.set q1 (.cells [w0, ci u.params, ci u.regs, ci u.code, ci u.spill, w5])) := Le.set_new hq1
  have m1 : (H.set q1 (.cells [w0, ci u.params, ci u.regs, ci u.code, ci u.spill, w5])) q1 = some (.cells [w0, ci u.params, ci u.regs, ci u.code, ci u.spill, w5]) := set_at
  have hK1 : (H.set q1 (.cells [w0, ci u.params, ci u.regs, ci u.code, ci u.spill, w5])) q4 = none := by rw [hset_none_iff]; exact ⟨h41, hq4⟩
  generalize H.set q1 _ = K1 at hle1 m1 hK1 ⊢
  have hv1 := hv.mono hle1
  have hlk := (look_c hX hG u hu hs b K1 _ hv1).frame (ob := .cells zeroV) hK1
  have m1' : (K1.set q4 (.cells zeroV)) q1 = some (.cells [w0, ci u.params, ci u.regs, ci u.code, ci u.spill, w5]) := Le.set_new hK1 _ _ m1
  refine CW.walk hX mixed d26 rfl ?_
  simp [m1']
  refine hlk.k ?_
  rintro x H2 ⟨K2, hK2, rfl, hle2, her, hok⟩
  have m4 : (K2.set q4 (.cells zeroV)) q4 = some (.cells zeroV) := set_at
  by_cases he : thereE u b = 0
  rotate_left
  · obtain rfl := her he
    simp
    refine CW.walk hX mixed d26 rfl ?_
    simp [he, cfill]
    exact ⟨zeroV, by simp [jnE, he], (hle1.trans hle2).trans (Le.set_new hK2), by rw [jnU, if_neg (by simp [jnE, he])]; exact uv_zero⟩
  obtain ⟨hw, n, rfl, hn⟩ := thereE_ok he
  obtain ⟨xp, rw, rr, v0, v5, p, c, rfl, hp, hR⟩ := hok he
  rw [ordC_eq hp] at hR
  have hfz := hR.fz
  have hle3 : Le K2 (K2.set q4 (.cells zeroV)) := Le.set_new hK2
  simp
  refine CW.walk hX mixed d26 rfl ?_
  simp
  refine CW.walk hX mixed d26 rfl ?_
  simp
  refine (follower_f hX hw hn (hfz.mono hle3)).k ?_
  rintro r H3 ⟨rfl, rfl⟩
  simp [cfill]
  refine ⟨fun hf => ?_, fun hf => ?_⟩
  · have e5 : jnE u n = 5 := by simp [jnE, he, hf]
    exact ⟨zeroV, by rw [e5], (hle1.trans hle2).trans hle3, by rw [jnU, if_neg (by rw [e5]; decide)]; exact uv_zero⟩
  have hcv := (join_c hX hG u hw hs (ordC u) n hn hf hR).frame (ob := .cells zeroV) hK2
  refine CW.walk hX mixed d26 rfl ?_
  simp
  refine hcv.k ?_
  rintro r H4 ⟨K4, hK4, rfl, hle4, cs4, rfl, huv⟩
  have hl6 := huv.l
  simp [hl6]
  intro q10 hq1' hq2' hq
  have hne : q10 ≠ q4 := by first | exact hq1' | exact hq2' | exact Ne.symm hq1' | exact Ne.symm hq2'
  rw [set_comm (Ne.symm hne)]
  have hK5 : (K4.set q10 (.cells cs4)) q4 = none := by rw [hset_ne (Ne.symm hne)]; exact hK4
  have hle5 : Le K4 (K4.set q10 (.cells cs4)) := Le.set_new hq
  have m10 : ∀ o, ((K4.set q10 (.cells cs4)).set q4 o) q10 = some (.cells cs4) := fun o => Le.set_new hK5 _ _ set_at
  generalize K4.set q10 _ = K5 at hK5 hle5 m10 ⊢
  have hle : ∀ o, Le K4 (K5.set q4 o) := fun o => hle5.trans (Le.set_new hK5)
  refine CW.walk hX mixed d26 rfl ?_
  by_cases hc : errU (joinP u n) = 0
  rotate_left
  · simp [hc, cfill]
    have e11 : jnE u n = 11 := by simp [jnE, he, hf, hc]
    exact ⟨zeroV, by rw [e11], ((hle1.trans hle2).trans hle4).trans (hle _), by rw [jnU, if_neg (by rw [e11]; decide)]; exact uv_zero⟩
  simp [hc]
  refine CW.walk1 hX mixed d26 rfl ?_
  simp [hl6, m10]
  have e0 : jnE u n = 0 := by simp [jnE, he, hf, hc]
  exact ⟨cs4, by rw [e0]; simp [List.take_of_length_le, hl6], ((hle1.trans hle2).trans hle4).trans (hle _), by rw [jnU, if_pos e0]; exact huv.mono (hle _)⟩
/-- A unit that is the last of steps, or an error. -/
def AU (f : UUnit → Nat → Option UUnit) (u : UUnit) (e : Int) (H : Hp) (x : CE) (H' : Hp) : Prop := ∃ v, RU H e v x H' ∧ (e ≠ 0 → v = zeroU) ∧ (e = 0 → AgR f u v ∧ wfU v = true ∧ v.sizes = u.sizes)
theorem joinMu (u v : UUnit) (hw : wfU u = true) (h : firstS stepJoin u = some v) : (ordC v).length < (ordC u).length ∧ wfU v = true ∧ v.sizes = u.sizes := by
  obtain ⟨p, c, hp⟩ := pleast_ex (opsOf u)
  obtain ⟨h1, h2, h3, _⟩ := join_falls hw hp h
  exact ⟨h1, errU_wf.1 h2, h3⟩
theorem allMu (size : Int) (u v : UUnit) (hw : wfU u = true) (h : firstS (stepAll size) u = some v) : brN v < brN u ∧ wfU v = true ∧ v.sizes = u.sizes := by
  obtain ⟨h1, h2, h3, _⟩ := all_falls h
  exact ⟨by omega, errU_wf.1 h2, h3⟩
theorem joinsF_c (hX : CxOk (cx W G)) (hG : G 0 = .iptr formsC) (u : UUnit) (hu : UOk u) (hs : u.sizes.length ≤ 1000000) (H : Hp) (cs : List CV) (hv : UV H cs u) :
    CC Tryz.prog W 27 [.agg cs] H (AU stepJoin u (errU u) H) := by
  obtain ⟨w0, w5, rfl, hbr⟩ := hv.b
  refine CC.of_cw hX Tryz.func27 rfl rfl (Nat.le_of_ble_eq_true rfl) ?_
  refine CW.walk hX mixed d27 rfl ?_
  simp
  intro q1 hq1 q2 h21 h12 hq2
  have hle1 : Le H (H.set q1 (.cells [w0, ci u.params, ci u.regs, ci u.code, ci u.spill, w5])) := Le.set_new hq1
  have m1 : (H.set q1 (.cells [w0, ci u.params, ci u.regs, ci u.code, ci u.spill, w5])) q1 = some (.cells [w0, ci u.params, ci u.regs, ci u.code, ci u.spill, w5]) := set_at
  have hK1 : (H.set q1 (.cells [w0, ci u.params, ci u.regs, ci u.code, ci u.spill, w5])) q2 = none := by rw [hset_none_iff]; exact ⟨h21, hq2⟩
  generalize H.set q1 _ = K1 at hle1 m1 hK1 ⊢
  have hv1 := hv.mono hle1
  have hle2 : ∀ o, Le K1 (K1.set q2 o) := fun o => Le.set_new hK1
  have m1' : (K1.set q2 (.cells zeroV)) q1 = some (.cells [w0, ci u.params, ci u.regs, ci u.code, ci u.spill, w5]) := hle2 _ _ _ m1
  refine CW.walk hX mixed d27 rfl ?_
  simp [m1']
  refine (check_ef hX hG hu (hv1.mono (hle2 _)).f).k ?_
  rintro x H2 ⟨rfl, rfl⟩
  by_cases he : errU u = 0
  rotate_left
  · simp [he, cfill]
    exact ⟨zeroU, ⟨zeroV, rfl, hle1.trans (hle2 _), uv_zero⟩, fun _ => rfl, fun h => absurd h he⟩
  simp [he]
  have hw : wfU u = true := errU_wf.1 he
  have hag := (again_c hX hG (g := 51) (cap := []) (f := stepJoin) (μ := fun v => (ordC v).length) (H0 := fun _ => none) (fun u' B H xp rw rr v0 v5 x _ hw' hs' hx' hR => joinsDo_c hX hG u' hw' hs' x hx' hR) joinMu u hw hs K1 (fun _ _ h => by cases h) _ hv1).frame (ob := .cells zeroV) hK1
  refine CW.walk1 hX mixed d27 rfl ?_
  simp [m1']
  refine hag.k ?_
  rintro x _ ⟨K4, hK4, rfl, cs4, v, rfl, hle4, huv, hwv, hsv, hA⟩
  have hl6 := huv.l
  simp [hl6, he]
  exact ⟨v, ⟨cs4, by simp [List.take_of_length_le, hl6], (hle1.trans hle4).trans (Le.set_new hK4), huv.mono (Le.set_new hK4)⟩, fun h => absurd rfl h, fun _ => ⟨hA, hwv, hsv⟩⟩
def alE (u : UUnit) (size : Int) : Int := if errU u ≠ 0 then errU u else if size < 0 then 2 else 0
theorem allF_c (hX : CxOk (cx W G)) (hG : G 0 = .iptr formsC) (u : UUnit) (hu : UOk u) (hs : u.sizes.length ≤ 1000000) (size : Int) (H : Hp) (cs : List CV) (hv : UV H cs u) :
    CC Tryz.prog W 24 [.agg cs, ci size] H (AU (stepAll size) u (alE u size) H) := by
  obtain ⟨w0, w5, rfl, hbr⟩ := hv.b
  refine CC.of_cw hX Tryz.func24 rfl rfl (Nat.le_of_ble_eq_true rfl) ?_
  refine CW.walk hX mixed d24 rfl ?_
  simp
  intro q1 hq1 q3 h31 h13 hq3 q4 h43 h34 h41 h14 hq4
  have hq3' : (H.set q1 (.cells [w0, ci u.params, ci u.regs, ci u.code, ci u.spill, w5])) q3 = none := by rw [hset_none_iff]; exact ⟨h31, hq3⟩
  have hle1 : Le H ((H.set q1 (.cells [w0, ci u.params, ci u.regs, ci u.code, ci u.spill, w5])).set q3 (.cells [ci size])) := (Le.set_new hq1).trans (Le.set_new hq3')
  have m1 : ((H.set q1 (.cells [w0, ci u.params, ci u.regs, ci u.code, ci u.spill, w5])).set q3 (.cells [ci size])) q1 = some (.cells [w0, ci u.params, ci u.regs, ci u.code, ci u.spill, w5]) := Le.set_new hq3' _ _ set_at
  have m3 : ((H.set q1 (.cells [w0, ci u.params, ci u.regs, ci u.code, ci u.spill, w5])).set q3 (.cells [ci size])) q3 = some (.cells [ci size]) := set_at
  have hK1 : ((H.set q1 (.cells [w0, ci u.params, ci u.regs, ci u.code, ci u.spill, w5])).set q3 (.cells [ci size])) q4 = none := by rw [hset_none_iff, hset_none_iff]; exact ⟨h43, h41, hq4⟩
  generalize (H.set q1 _).set q3 _ = K1 at hle1 m1 m3 hK1 ⊢
  have hv1 := hv.mono hle1
  have hle2 : ∀ o, Le K1 (K1.set q4 o) := fun o => Le.set_new hK1
  have m1' : (K1.set q4 (.cells zeroV)) q1 = some (.cells [w0, ci u.params, ci u.regs, ci u.code, ci u.spill, w5]) := hle2 _ _ _ m1
  have m3' : (K1.set q4 (.cells zeroV)) q3 = some (.cells [ci size]) := hle2 _ _ _ m3
  refine CW.walk hX mixed d24 rfl ?_
  simp [m1']
  refine (check_ef hX hG hu (hv1.mono (hle2 _)).f).k ?_
  rintro x H2 ⟨rfl, rfl⟩
  by_cases he : errU u = 0
  rotate_left
  · have ea : alE u size = errU u := by simp [alE, he]
    simp [he, cfill]
    rw [ea]
    exact ⟨zeroU, ⟨zeroV, rfl, hle1.trans (hle2 _), uv_zero⟩, fun _ => rfl, fun h => absurd h he⟩
  simp [he]
  have hw : wfU u = true := errU_wf.1 he
  refine CW.walk hX mixed d24 rfl ?_
  by_cases hz : size < 0
  · have ea : alE u size = 2 := by simp [alE, he, hz]
    simp [m3', hz, cfill]
    rw [ea]
    exact ⟨zeroU, ⟨zeroV, rfl, hle1.trans (hle2 _), uv_zero⟩, fun _ => rfl, fun h => by cases h⟩
  have ea : alE u size = 0 := by simp [alE, he, hz]
  simp [m3', hz]
  have hag := (again_c hX hG (g := 48) (cap := [.ptr q3 0]) (f := stepAll size) (μ := brN) (H0 := K1) (fun u' B H xp rw rr v0 v5 x hle hw' hs' hx' hR => allDo_c hX hG size u' hw' hs' x hx' (hle _ _ m3) hR) (allMu size) u hw hs K1 (Le.refl _) _ hv1).frame (ob := .cells zeroV) hK1
  refine CW.walk1 hX mixed d24 rfl ?_
  simp [m1']
  refine hag.k ?_
  rintro x _ ⟨K4, hK4, rfl, cs4, v, rfl, hle4, huv, hwv, hsv, hA⟩
  have hl6 := huv.l
  simp [hl6, he]
  rw [ea]
  exact ⟨v, ⟨cs4, by simp [List.take_of_length_le, hl6], (hle1.trans hle4).trans (Le.set_new hK4), huv.mono (Le.set_new hK4)⟩, fun h => absurd rfl h, fun _ => ⟨hA, hwv, hsv⟩⟩
end Go.Cl.Gu
set_option linter.unusedSimpArgs false
set_option linter.unusedVariables false
namespace Go.Cl.Gu
open Go.Proofs Go.Cl.Gd
variable {W : World} {G : Nat → CV}
set_option maxRecDepth 8000
set_option maxHeartbeats 1000000
theorem exU_shapes : shapesP exU (ordC exU) 4 = [(0, 1)] := by rw [exU_ord]; decide
theorem exU_size : sizeP exU (ordC exU) 0 = 1 := by rw [exU_ord]; decide
theorem exU_kind : (shapeP exU (ordC exU) 0).kind = 1 := by rw [exU_ord]; decide
theorem exU_kind3 : (shapeP exU (ordC exU) 3).kind = 0 := by rw [exU_ord]; decide
theorem exU_conv : convP exU (ordC exU) 0 = exV := by rw [exU_ord]; decide
theorem exU_there (n : Nat) (h : n < 4) : thereE exU n = 0 := by
  rw [thereE, if_neg (fun h => h exU_err), if_neg]
  simp [exU]
  omega
theorem exU_cv : cvE exU 0 = 0 ∧ cvU exU 0 = exV := by
  have h1 := exU_there 0 (by omega)
  have h2 := exU_kind
  have h3 := exU_conv
  have h4 := exV_err
  simp only [Int.ofNat_zero] at h1
  have e : cvE exU 0 = 0 := by
    rw [cvE, if_neg (fun h => h h1), if_neg, if_neg]
    · show ¬ errU (convP exU (ordC exU) 0) ≠ 0
      rw [h3, h4]; simp
    · show ¬ (shapeP exU (ordC exU) 0).kind = 0
      rw [h2]; decide
  exact ⟨e, by rw [cvU, if_pos e]; exact h3⟩
theorem exU_cv3 : cvE exU 3 = 5 := by
  have h1 := exU_there 3 (by omega)
  rw [cvE, if_neg (fun h => h h1), if_pos]
  exact exU_kind3
theorem exV_join : firstS stepJoin exV = some exW := by
  refine first_at (n := 0) (by decide) (fun x h => by omega) ?_
  simp only [stepJoin, exV_ord]
  rw [if_pos (by decide)]
  rfl
theorem exW_join : firstS stepJoin exW = none := by
  refine first_none fun x hx => ?_
  have h : ∀ x : Nat, x < 4 → follB exW [0] x = false := by decide
  simp only [stepJoin, exW_ord]
  rw [if_neg]
  rintro ⟨h1, _⟩
  rw [h x hx] at h1
  cases h1
theorem exV_ag {v : UUnit} (h : AgR stepJoin exV v) : v = exW := h.det (.go exV_join (.stop exW_join))
theorem eq_end {x y : UEnd} {K : CV → Prop} (h : K (.bool (decide (x = y)))) : vcBin tab .eql 69 (.agg (endC x)) (.agg (endC y)) K :=
  ⟨⟨_, _, tab_69, rfl, rfl, rfl, rfl⟩, by rw [eqAll_end]; exact h⟩
theorem alive_c (hX : CxOk (cx W G)) (hG : G 0 = .iptr formsC) (H : Hp) : CC Tryz.prog W 15 [] H fun r H' => r = .ret (.bool true) ∧ H' = H := by
  refine CC.shrink ?_
  refine CC.of_cw hX Tryz.func15 rfl rfl (Nat.le_of_ble_eq_true rfl) ?_
  refine CW.walk hX mixed d15 rfl ?_
  simp
  refine CW.walk hX mixed d15 rfl ?_
  simp [cfill]
  intro q1 hq1
  have hle1 : Le H (H.set q1 (.cells [ci 1, ci 0, ci 3, ci 0])) := Le.set_new hq1
  have m1 : (H.set q1 (.cells [ci 1, ci 0, ci 3, ci 0])) q1 = some (.cells [ci 1, ci 0, ci 3, ci 0]) := set_at
  generalize H.set q1 _ = H1 at hle1 m1 ⊢
  refine CW.walk hX mixed d15 rfl ?_
  simp [m1, cfill]
  intro ra hra
  have k1 : q1 ≠ ra := fun e => by rw [← e, m1] at hra; cases hra
  simp [k1, m1, List.range_succ]
  intro rb a1 a2 hrb q2 b1 b2 b3 b4 hq2
  have hb1 : rb ≠ ra := by first | exact a1 | exact a2
  have h2b : q2 ≠ rb := by first | exact b1 | exact b2 | exact b3 | exact b4
  have h2a : q2 ≠ ra := by first | exact b1 | exact b2 | exact b3 | exact b4
  generalize hH2 : (((H1.set ra _).set rb _).set q2 _) = H2
  have mra : H2 ra = some (.cells [ci 3, ci 1, ci 1, ci 0, ci 0, ci 0, ci (-1)]) := by rw [← hH2, hset_ne (Ne.symm h2a), hset_ne (Ne.symm hb1)]; exact set_at
  have mrb : H2 rb = some (.cells [.nilsl, ci 2, ci 0, ci 1, ci 2, ci (-1), .ref ra 0 1 1, ci 1, ci 0, ci 3, ci 0, ci (-1), .nilsl, ci 1, ci 0, ci 3, ci 0, ci (-1), .nilsl, ci 3, ci 1, ci 0, ci 0, ci (-1)]) := by rw [← hH2, hset_ne (Ne.symm h2b)]; exact set_at
  have m2 : H2 q2 = some (.cells [.nilsl, ci 2, ci 2, ci 0, ci 0, .ref rb 0 4 4]) := by rw [← hH2]; exact set_at
  have hle2 : Le H1 H2 := by
    rw [← hH2]
    exact ((Le.set_new hra).trans (Le.set_new (by rw [hset_none_iff]; exact ⟨hb1, hrb⟩))).trans (Le.set_new (by rw [hset_none_iff, hset_none_iff]; exact ⟨h2b, h2a, hq2⟩))
  clear hH2
  have m12 := hle2 _ _ m1
  have hnil : ∀ H : Hp, Own E0 H .nilsl 7 [] := fun H => ⟨fun _ _ h => by simp at h, fun _ h => by simp at h, .inl ⟨rfl, rfl⟩⟩
  have huU : UV H2 [.nilsl, ci 2, ci 2, ci 0, ci 0, .ref rb 0 4 4] exU := by
    refine uv_of (u := exU) ⟨fun _ _ h => by simp at h, fun _ h => by simp [exU, ints] at h, .inl ⟨rfl, rfl⟩⟩ (.inr ⟨rb, 4, _, rfl, mrb, fun j k hk => ?_⟩) (fun r n c e => by injection e with _ _ e1 e2; omega)
    rcases j with _ | _ | _ | _ | j
    · simp [exU] at hk; subst hk; exact ⟨.nilsl, rfl, hnil _⟩
    · simp [exU] at hk; subst hk
      exact ⟨.ref ra 0 1 1, rfl, fun _ _ h => by simp at h, by simp [opC], .inr ⟨ra, 1, [], rfl, rfl, by simpa [opC] using mra, by simp, by simp⟩⟩
    · simp [exU] at hk; subst hk; exact ⟨.nilsl, rfl, hnil _⟩
    · simp [exU] at hk; subst hk; exact ⟨.nilsl, rfl, hnil _⟩
    · simp [exU] at hk
  have hUO : UOk exU := ⟨by simp [exU], by simp [exU], fun b hb => by simp [exU] at hb; rcases hb with rfl | rfl | rfl | rfl <;> simp, fun b _ o _ => by simp only [Kd]; omega⟩
  have hVO : UOk exV := ⟨by simp [exV], by simp [exV], fun b hb => by simp [exV] at hb; rcases hb with rfl | rfl | rfl | rfl <;> simp, fun b _ o _ => by simp only [Kd]; omega⟩
  have hUs : exU.sizes.length ≤ 1000000 := by simp [exU]
  have hVs : exV.sizes.length ≤ 1000000 := by simp [exV]
  refine CW.walk hX mixed d15 rfl ?_
  simp [m2]
  refine (shapes_c hX hG exU hUO hUs H2 _ huU).k ?_
  rintro x H3 ⟨hle3, _, hok⟩
  obtain ⟨vl, p, c, rfl, hp, hvl⟩ := hok exU_err
  have hsl := exU_shapes
  rw [ordC_eq hp] at hvl
  have e4 : exU.blocks.length = 4 := rfl
  rw [e4, exU_shapes] at hvl
  clear hsl hp hok p c
  obtain ⟨rl, cl, exl, rfl, mrl⟩ : ∃ r c ex, vl = .ref r 0 1 c ∧ H3 r = some (.cells (ci 0 :: ci 1 :: ex)) := by
    obtain ⟨_, _, ⟨_, h⟩ | ⟨r, c, ex, h1, _, h2, _⟩⟩ := hvl
    · simp [pairs] at h
    · exact ⟨r, c, ex, by simpa [pairs] using h1, by simpa [pairs] using h2⟩
  clear hvl
  have m23 := hle3 _ _ m2
  simp
  refine CW.walk hX mixed d15 rfl ?_
  simp [m23]
  refine (sizeF_c hX hG exU hUO hUs 0 H3 _ (huU.mono hle3)).k ?_
  rintro x H4 ⟨hle4, _, hok⟩
  obtain ⟨p, c, hp, _, hk⟩ := hok (exU_there 0 (by omega))
  rw [ordC_eq hp] at hk
  obtain rfl := hk (by rw [show (0 : Int).toNat = 0 from rfl, exU_kind]; decide)
  rw [show (0 : Int).toNat = 0 from rfl, exU_size]
  clear hok hk
  have m24 := hle4 _ _ m23
  simp
  refine CW.walk hX mixed d15 rfl ?_
  simp [m24]
  refine (convertF_c hX hG exU hUO hUs 0 H4 _ (huU.mono (hle3.trans hle4))).k ?_
  rw [exU_cv.1, exU_cv.2]
  rintro x H5 ⟨cs5, rfl, hle5, huV⟩
  obtain ⟨v0, v5, rfl, hbV⟩ := huV.b
  obtain ⟨rv, cv, dsv, rfl, mrv, hrv⟩ : ∃ r c cs, v5 = .ref r 0 4 c ∧ H5 r = some (.cells cs) ∧ ∀ (j : Nat) k, exV.blocks[j]? = some k → ∃ x0, (cs.drop (j * 6)).take 6 = x0 :: blkT k ∧ Own E0 H5 x0 7 (k.ops.map opC) := by
    rcases hbV with ⟨_, h0⟩ | h
    · cases h0
    · exact h
  have hlv : exV.blocks.length = 4 := rfl
  have m25 := hle5 _ _ m24
  simp
  intro q7 hq7
  have hle6 : Le H5 (H5.set q7 (.cells [v0, ci exV.params, ci exV.regs, ci exV.code, ci exV.spill, .ref rv 0 4 cv])) := Le.set_new hq7
  have m7 : (H5.set q7 (.cells [v0, ci exV.params, ci exV.regs, ci exV.code, ci exV.spill, .ref rv 0 4 cv])) q7 = _ := set_at
  generalize H5.set q7 _ = H6 at hle6 m7 ⊢
  refine CW.walk hX mixed d15 rfl ?_
  simp [hle6 _ _ m25]
  refine (convertF_c hX hG exU hUO hUs 3 H6 _ (huU.mono (((hle3.trans hle4).trans hle5).trans hle6))).k ?_
  rw [exU_cv3]
  rintro x H7 ⟨cs7, rfl, hle7, hu7⟩
  have hl7 := hu7.l
  simp [hl7]
  intro q9 hq9
  have hle8 : Le H7 (H7.set q9 (.cells cs7)) := Le.set_new hq9
  generalize H7.set q9 _ = H8 at hle8 ⊢
  have hle58 : Le H5 H8 := (hle6.trans hle7).trans hle8
  have m78 := (hle7.trans hle8) _ _ m7
  refine CW.walk hX mixed d15 rfl ?_
  simp [m78]
  refine (joinsF_c hX hG exV hVO hVs H8 _ (huV.mono hle58)).k ?_
  rintro x H9 ⟨w, ⟨cs9, rfl, hle9, hu9⟩, _, hA⟩
  obtain ⟨hA, _⟩ := hA exV_err
  obtain rfl := exV_ag hA
  obtain ⟨w0, w5, rfl, hbW⟩ := hu9.b
  obtain ⟨rw, cw, dsw, rfl, mrw, hrw⟩ : ∃ r c cs, w5 = .ref r 0 4 c ∧ H9 r = some (.cells cs) ∧ ∀ (j : Nat) k, exW.blocks[j]? = some k → ∃ x0, (cs.drop (j * 6)).take 6 = x0 :: blkT k ∧ Own E0 H9 x0 7 (k.ops.map opC) := by
    rcases hbW with ⟨_, h0⟩ | h
    · cases h0
    · exact h
  simp
  intro q11 hq11
  have hle10 : Le H9 (H9.set q11 (.cells [w0, ci exW.params, ci exW.regs, ci exW.code, ci exW.spill, .ref rw 0 4 cw])) := Le.set_new hq11
  have m11 : (H9.set q11 (.cells [w0, ci exW.params, ci exW.regs, ci exW.code, ci exW.spill, .ref rw 0 4 cw])) q11 = _ := set_at
  generalize H9.set q11 _ = H10 at hle10 m11 ⊢
  have m710 := (hle9.trans hle10) _ _ m78
  refine CW.walk hX mixed d15 rfl ?_
  simp [m710, m11, exV_err]
  have hle510 : Le H5 H10 := (hle58.trans hle9).trans hle10
  have mrv10 := hle510 _ _ mrv
  have mrw10 := hle10 _ _ mrw
  obtain ⟨x0, hx0, hox⟩ := hrv 0 _ rfl
  obtain ⟨y0, hy0, _⟩ := hrw 0 _ rfl
  obtain ⟨rx, cx', exx, rfl, mrx⟩ : ∃ r c ex, x0 = .ref r 0 5 c ∧ H5 r = some (.cells ((exV.blocks[0].ops.map opC).flatten ++ ex)) := by
    obtain ⟨_, _, ⟨_, h⟩ | ⟨r, c, ex, h1, _, h2, _⟩⟩ := hox
    · cases h
    · exact ⟨r, c, ex, h1, h2⟩
  have mrx10 := hle510 _ _ mrx
  refine CW.walk hX mixed d15 rfl ?_
  simp [m710, mrv10]
  have hx1 : List.take 6 dsv = .ref rx 0 5 cx' :: blkT exV.blocks[0] := by have h := hx0; rw [Nat.zero_mul, List.drop_zero] at h; exact h
  have hy1 : List.take 6 dsw = y0 :: blkT exW.blocks[0] := by have h := hy0; rw [Nat.zero_mul, List.drop_zero] at h; exact h
  have hld : 6 ≤ dsv.length := by
    have := congrArg List.length hx1
    simp [blkT] at this
    omega
  have hdw1 : dsw[1]? = some (ci 3) := by
    have : (List.take 6 dsw)[1]? = some (ci 3) := by rw [hy1]; rfl
    simpa [List.getElem?_take] using this
  refine ⟨hld, fun q13 hq13 => ⟨by omega, ?_⟩⟩
  rw [hx1]
  have hle11 : Le H10 (H10.set q13 (.cells (.ref rx 0 5 cx' :: blkT exV.blocks[0]))) := Le.set_new hq13
  have m13 : (H10.set q13 (.cells (.ref rx 0 5 cx' :: blkT exV.blocks[0]))) q13 = _ := set_at
  generalize H10.set q13 _ = H11 at hle11 m13 ⊢
  simp only [blkT, exV, List.getElem_cons_zero] at m13
  have m711 := hle11 _ _ m710
  have m1111 := hle11 _ _ m11
  have hle411 : Le H4 H11 := (hle5.trans hle510).trans hle11
  have m111 := hle411 _ _ (hle4 _ _ (hle3 _ _ m12))
  have mrl11 := hle411 _ _ (hle4 _ _ mrl)
  have mrx11 := hle11 _ _ mrx10
  have mrw11 := hle11 _ _ mrw10
  simp [exV, opC] at mrx11
  have hleF : Le H H11 := ((hle1.trans hle2).trans (hle3.trans hle4)).trans hle411
  have eW : exW.regs = 5 := rfl
  refine CW.walk1 hX mixed d15 rfl ?_
  simp [m13, m711, m1111, m111, mrl11, mrx11, mrw11, hdw1, eqAll]
  refine eq_end (x := ⟨1, 0, 3, 0⟩) (y := ⟨1, 0, 3, 0⟩) ?_
  simp [m13, m711, m1111, m111, mrl11, mrx11, mrw11, hdw1, exV]
  exact hleF
end Go.Cl.Gu
