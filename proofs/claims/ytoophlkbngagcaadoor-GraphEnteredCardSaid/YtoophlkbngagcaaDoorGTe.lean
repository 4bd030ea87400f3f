/- DERIVED HERE. GraphEntered: the law. -/
import Derived.Test.YtoophlkbngagcaaDoorHNq
import Derived.Test.YtoophlkbngagcaaDoorHRd
import Derived.Test.YtoophlkbngagcaaDoorHW
import Derived.Test.YtoophlkbngagcaaDoorCP
set_option linter.unusedSimpArgs false
set_option linter.unusedVariables false
namespace Go.Cl.Gd
open Go.Proofs
variable {W : World} {G : Nat → CV}
set_option maxRecDepth 8000
set_option maxHeartbeats 1000000
/-- From a head to what it dominates there is a way that doesn't come back to it. -/
theorem head_way {N : Nat → List Nat} {h : Nat} : ∀ {y : Nat}, Rch N 0 y → ((0 : Int) ≠ (h : Int) ∧ RchW N h 0 y) ∨ RchW N h h y := by
  intro y hy
  induction hy with
  | refl =>
    by_cases e : h = 0
    · subst e; exact .inr .refl
    · exact .inl ⟨by omega, .refl⟩
  | step hy e ih =>
    rename_i y z
    by_cases hz : z = h
    · subst hz; exact .inr .refl
    · rcases ih with ⟨h1, h2⟩ | h2
      · exact .inl ⟨h1, h2.step' e (by omega)⟩
      · exact .inr (h2.step' e (by omega))
/-- Every block of a loop has a way to the head, within the loop. -/
theorem within_ok {N : Nat → List Nat} {n h x : Nat} {T : List Nat} {s : Nat → Bool} (hN : ∀ b, b < n → ∀ k ∈ N b, k < n) (h0 : 0 < n) (hT : TailOk N h T) (hne : T ≠ []) (hx : x ∈ loopB N n h T) : ¬ WI N (loopB N n h T) x h n s [] := by
  intro hW
  obtain ⟨hxn, hxL⟩ := loopB_mem.1 hx
  have hlt : ∀ y, Rch N 0 y → y < n := fun y hy => by
    induction hy with
    | refl => exact h0
    | step _ e ih => exact hN _ ih _ e
  obtain ⟨t0, ht0⟩ := List.exists_mem_of_ne_nil _ hne
  obtain ⟨t, ht, hw, hr⟩ : ∃ t ∈ T, RchW N h x t ∧ Rch N 0 x := by
    rcases hxL with rfl | ⟨_, hr, t, ht, hw⟩
    · obtain ⟨_, hd1, hd2, hd3⟩ := hT t0 ht0
      rcases head_way (h := x) hd2 with k | k
      · exact absurd k hd3
      · exact ⟨t0, ht0, k, hd1⟩
    · exact ⟨t, ht, hw, hr⟩
  have key : ∀ y, RchW N h y t → (y = x ∨ s y = true) → Rch N 0 y → (t = x ∨ s t = true) := fun y hy => by
    refine Rch.head_ind (P := fun y => (y = x ∨ s y = true) → Rch N 0 y → (t = x ∨ s t = true)) (fun h1 _ => h1) ?_ hy
    intro a b hb hbt ih hs hra
    obtain ⟨e1, e2⟩ := List.mem_filter.1 hb
    have hbh : b ≠ h := by simp at e2; omega
    have hrb : Rch N 0 b := hra.step e1
    have hbB : b ∈ loopB N n h T := loopB_mem.2 ⟨hlt b hrb, .inr ⟨hbh, hrb, t, ht, hbt⟩⟩
    have := ((hW.cl a hs).resolve_left (by simp)) b e1
    exact ih (.inr (this.2 hbB)) hrb
  have hst := key x hw (.inl rfl) hr
  exact (((hW.cl t hst).resolve_left (by simp)) h (hT t ht).1).1 rfl
theorem tail_in {N : Nat → List Nat} {n h t : Nat} {T : List Nat} (hT : TailOk N h T) (ht : t ∈ T) (htn : t < n) : t ∈ loopB N n h T := by
  refine loopB_mem.2 ⟨htn, ?_⟩
  by_cases e : t = h
  · exact .inl e
  · exact .inr ⟨e, (hT t ht).2.2.1, t, ht, .refl⟩
/-- The next lists, in a block that isn't in K. -/
structure NxB (K : Hp) (rn n i : Nat) (N : Nat → List Nat) (vs : List CV) : Prop where
  kn : K rn = none
  l : vs.length = n
  nx : ∀ j, j < i → ∃ w, vs[j]? = some w ∧ SlF K w (natL (N j))
structure geI (B : Hp) (u : UUnit) (vL vO : CV) (q3 rn : Nat) (N : Nat → List Nat) (d m : Nat) (s' : CA) (H' : Hp) : Prop where
  ex : ∃ (i i9 : Nat) (K : Hp) (vs : List CV), m = u.blocks.length - i ∧ i ≤ u.blocks.length ∧ i9 + d = i ∧ s'.env 3 = .ptr q3 0 ∧ s'.env 4 = vL ∧ s'.env 6 = vO ∧ s'.env 8 = .ref rn 0 u.blocks.length u.blocks.length ∧ s'.env 9 = .int .i64 i9 ∧ s'.ds = [] ∧ Le B K ∧ NxB K rn u.blocks.length i N vs ∧ H' = K.set rn (.cells vs)
structure geX (B : Hp) (u : UUnit) (vL vO : CV) (rn : Nat) (N : Nat → List Nat) (s' : CA) (H' : Hp) : Prop where
  ex : ∃ (K : Hp) (vs : List CV), s'.env 4 = vL ∧ s'.env 6 = vO ∧ s'.env 8 = .ref rn 0 u.blocks.length u.blocks.length ∧ s'.ds = [] ∧ Le B K ∧ NxB K rn u.blocks.length u.blocks.length N vs ∧ H' = K.set rn (.cells vs)
structure geL (H9 : Hp) (vL vO : CV) (rn n len : Nat) (d m : Nat) (s' : CA) (H' : Hp) : Prop where
  ex : ∃ i i12 : Nat, m = len - i ∧ i ≤ len ∧ i12 + d = i ∧ s'.env 4 = vL ∧ s'.env 6 = vO ∧ s'.env 8 = .ref rn 0 n n ∧ s'.env 12 = .int .i64 i12 ∧ s'.ds = [] ∧ H' = H9
structure geB (H9 : Hp) (vL vO : CV) (rn n i : Nat) (vb : CV) (s' : CA) (H' : Hp) : Prop where
  e4 : s'.env 4 = vL
  e6 : s'.env 6 = vO
  e8 : s'.env 8 = .ref rn 0 n n
  e12 : s'.env 12 = .int .i64 i
  e13 : s'.env 13 = vb
  ds : s'.ds = []
  h : H' = H9
/-- A loop over places, counted in the tmp t. -/
structure geK (t : Nat) (P : CA → Hp → Prop) (len d m : Nat) (s' : CA) (H' : Hp) : Prop where
  ex : ∃ k k' : Nat, m = len - k ∧ k ≤ len ∧ k' + d = k ∧ s'.env t = .int .i64 k' ∧ P s' H'
structure geJ (H9 : Hp) (vL vO : CV) (rn n i : Nat) (vb : CV) (k b : Nat) (s' : CA) (H' : Hp) : Prop where
  e14 : s'.env 14 = .int .i64 k
  e15 : s'.env 15 = .int .i64 b
  g : geB H9 vL vO rn n i vb s' H'
structure geR (H9 : Hp) (vL vO : CV) (rn n i : Nat) (vb : CV) (k b j len : Nat) (s' : CA) (H' : Hp) : Prop where
  e16 : s'.env 16 = .int .i64 j
  lt : j < len
  g : geJ H9 vL vO rn n i vb k b s' H'
theorem uv_six'' {H : Hp} {cs : List CV} {u : UUnit} (h : UV H cs u) (h0 : 0 < u.blocks.length) : ∃ o0 r c, cs = [o0, ci u.params, ci u.regs, ci u.code, ci u.spill, .ref r 0 u.blocks.length c] := by
  obtain ⟨v0, v5, h1, h2⟩ := h.b
  rcases h2 with ⟨_, h2⟩ | ⟨r, c, ds, h2, _⟩
  · rw [h2] at h0; simp at h0
  · exact ⟨v0, r, c, by rw [h1, h2]⟩
theorem uv_six2 {H : Hp} {cs : List CV} {u : UUnit} (h : UV H cs u) : ∃ o0 o5, cs = [o0, ci u.params, ci u.regs, ci u.code, ci u.spill, o5] := by
  obtain ⟨v0, v5, h1, _⟩ := h.b
  exact ⟨v0, v5, h1⟩
theorem graphEntered_c (hX : CxOk (cx W G)) (hG : G 0 = .iptr formsC) (u0 : UUnit) (H : Hp) : CC Tryd.prog W 4 [.agg (unitC u0)] H fun x H' => x = .ret (.bool true) ∧ H' = H := by
  refine CC.shrink ?_
  refine CC.of_cw hX Tryd.func4 rfl rfl (Nat.le_of_ble_eq_true rfl) ?_
  refine CW.walk hX mixed d4 rfl ?_
  simp
  intro q1 hq1
  have hle1 : Le H (H.set q1 (.cells (unitC u0))) := Le.set_new hq1
  have m1 : (H.set q1 (.cells (unitC u0))) q1 = some (.cells (unitC u0)) := set_at
  generalize H.set q1 _ = H1 at hle1 m1 ⊢
  have hc := cut80_c hX u0 H1
  have hok := cut80_ok u0
  simp only [unitC] at m1 hc
  refine CW.walk hX mixed d4 rfl ?_
  simp [d4, m1]
  refine hc.k ?_
  rintro x H2 ⟨csO, rfl, hle2, hvO⟩
  clear hc m1
  generalize hcu : cutU u0 80 2000 = u at hvO hok
  have hUO := cutOk_uok hok
  have hnl : u.blocks.length ≤ 80 := by rw [← hcu]; simp [cutU]; omega
  obtain ⟨o0, o5, rfl⟩ := uv_six2 hvO
  simp [d4]
  intro q3 hq3
  have hle3 : Le H2 (H2.set q3 (.cells [o0, ci u.params, ci u.regs, ci u.code, ci u.spill, o5])) := Le.set_new hq3
  have m3 : (H2.set q3 (.cells [o0, ci u.params, ci u.regs, ci u.code, ci u.spill, o5])) q3 = some (.cells [o0, ci u.params, ci u.regs, ci u.code, ci u.spill, o5]) := set_at
  generalize H2.set q3 _ = H3 at hle3 m3 ⊢
  have hv := hvO.mono hle3
  have hle := (hle1.trans hle2).trans hle3
  clear hvO hle1 hle2 hle3
  refine CW.walk hX mixed d4 rfl ?_
  simp [m3]
  refine (copy_f hX hok hv.f).k ?_
  rintro x H5 ⟨cs4, rfl, hle4, hv4⟩
  simp
  refine (loops_f hX hG hUO hnl hv4.f).k ?_
  rintro x H6 ⟨hA, hle6⟩
  have hle46 := hle4.trans hle6
  have m5 := hle46 _ _ m3
  have hv5 := hv.mono hle46
  have hle := hle.trans hle46
  clear hle4 hv4 m3 hv
  obtain ⟨vL, rfl, hLo⟩ : ∃ vL, x = .ret (.tuple [vL, ci (errU u)]) ∧ (errU u ≠ 0 → vL = .nilsl) := by
    by_cases he : errU u = 0
    · obtain ⟨p, c, v, _, h, _⟩ := hA.ok he; exact ⟨v, by rw [he]; exact h, fun q => absurd he q⟩
    · exact ⟨_, hA.er he, fun _ => rfl⟩
  simp
  refine CW.walk hX mixed d4 rfl ?_
  simp [m5]
  refine (copy_f hX hok hv5.f).k ?_
  rintro x H7 ⟨cs7, rfl, hle7, hv7⟩
  simp
  refine (order_f hX hG hUO hv7.f).k ?_
  rintro x H8 ⟨hC, hle8⟩
  have hle78 := hle7.trans hle8
  have m8 := hle78 _ _ m5
  have hv8 := hv5.mono hle78
  have hle := hle.trans hle78
  clear hv7 m5 hv5 hle7 hle8
  by_cases he : errU u = 0
  rotate_left
  · obtain rfl := hC.er he
    obtain rfl := hLo he
    simp
    refine CW.walk hX mixed d4 rfl ?_
    simp [he]
    refine (alive_c hX hG _).k ?_
    rintro x H9 ⟨rfl, rfl⟩
    simp
    exact hle
  have hw : wfU u = true := errU_wf.1 he
  have h0 : 0 < u.blocks.length := by obtain ⟨f1, f2, f3, f4, f5, f6, f7, f8, f9, f10, f11⟩ := wfU_facts hw; omega
  obtain ⟨p, c, vL', hp, h1, hL⟩ := hA.ok he
  obtain ⟨p2, c2, vO, hp2, rfl, hso⟩ := hC.ok he
  obtain ⟨rfl, rfl⟩ := hp.unique hp2
  rw [he] at h1
  obtain rfl : vL = vL' := by simpa using h1
  have hL := hL.mono hle78
  obtain ⟨o0', r5, c5, h5⟩ := uv_six'' hv8 h0
  obtain ⟨rfl, rfl⟩ : o0 = o0' ∧ o5 = .ref r5 0 u.blocks.length c5 := by
    injection h5 with e1 h5; injection h5 with _ h5; injection h5 with _ h5; injection h5 with _ h5; injection h5 with _ h5; injection h5 with h5
    exact ⟨e1, h5⟩
  clear h5 h1 hA hC hLo
  simp [he]
  refine CW.walk hX mixed d4 rfl ?_
  simp [he]
  refine CW.walk hX mixed d4 rfl ?_
  simp [m8]
  refine ⟨by omega, by omega, fun rn hrn => ?_⟩
  have hz : ∀ cs : List CV, cs = List.map (fun i => [CV.nilsl][i % 1]?.getD CV.any) (List.range u.blocks.length) → cs.length = u.blocks.length := fun cs e => by rw [e]; simp
  generalize hcs0 : List.map (fun i => [CV.nilsl][i % 1]?.getD CV.any) (List.range u.blocks.length) = cs0
  have hl0 := hz cs0 hcs0.symm
  clear hz hcs0
  refine CW.cut (geX H8 u vL vO rn (nextN u p)) ?_ ?_
  · refine CW.walk hX mixed d4 rfl ?_
    simp
    refine CW.block ?_
    refine CW.loop (geI H8 u vL vO q3 rn (nextN u p) 0) ?_ (m := u.blocks.length) ⟨0, 0, H8, cs0, rfl, by omega, rfl, by simp, by simp, by simp, by simp, by simp, rfl, Le.refl _, ⟨hrn, hl0, fun j hj => by omega⟩, rfl⟩
    rintro m ⟨e, ds⟩ H9 ⟨i, i9, K, vs, rfl, hi, hi9, e3, e4, e6, e8, e9, rfl, hBK, hNx, rfl⟩
    obtain rfl : i9 = i := by omega
    dsimp only at e3 e4 e6 e8 e9
    have mK := hBK _ _ m8
    have n3 : q3 ≠ rn := fun e => by subst e; rw [hNx.kn] at mK; cases mK
    have mS : (K.set rn (.cells vs)) q3 = some (.cells [o0, ci u.params, ci u.regs, ci u.code, ci u.spill, .ref r5 0 u.blocks.length c5]) := by rw [hset_ne n3]; exact mK
    by_cases hin : i9 < u.blocks.length
    rotate_left
    · obtain rfl : i9 = u.blocks.length := by omega
      refine CW.walk hX mixed d4 rfl ?_
      simp [e3, e9, mS]
      exact ⟨K, vs, by simp [e4], by simp [e6], by simp [e8], rfl, hBK, hNx, rfl⟩
    refine CW.walk hX mixed d4 rfl ?_
    simp [e3, e9, mS, hin]
    refine CW.cut (geI H8 u vL vO q3 rn (nextN u p) 1 (u.blocks.length - (i9 + 1))) ?_ ?_
    · refine CW.block ?_
      have hfr := (next_f hX hG hUO (i9 : Int) (hv8.mono hBK).f).frame (r := rn) (ob := .cells vs) hNx.kn
      refine CW.walk hX mixed d4 rfl ?_
      simp [e3, e9, mS]
      refine hfr.k ?_
      rintro x G ⟨K2, hK2, rfl, hA, hle2⟩
      have ho : outB u.blocks.length (i9 : Int) = false := outB_no.2 ⟨i9, rfl, hin⟩
      obtain ⟨p2, c2, w, hp2, rfl, hsw⟩ := hA.ok he ho
      obtain ⟨rfl, rfl⟩ := hp.unique hp2
      simp only [Int.toNat_natCast] at hsw
      obtain ⟨ws1, ws2⟩ := SlF.oc hsw
      simp
      refine CW.walk hX mixed d4 rfl ?_
      simp
      refine CW.walk1 hX mixed d4 rfl ?_
      simp only [CV.stor, CV.cells] at ws1 ws2
      simp [e8, e9, hin, hNx.l, ws1, ws2]
      refine ⟨by omega, i9 + 1, i9, K2, vs.set i9 w, rfl, by omega, rfl, by simp [e3], by simp [e4], by simp [e6], by simp [e8], by simp [e9], rfl, hBK.trans hle2, ⟨hK2, by simp [hNx.l], fun j hj => ?_⟩, ?_⟩
      · by_cases hji : j = i9
        · subst hji
          exact ⟨w, by rw [List.getElem?_set_self (by rw [hNx.l]; exact hin)], hsw⟩
        · obtain ⟨w', k1, k2⟩ := hNx.nx j (by omega)
          exact ⟨w', by rw [List.getElem?_set_ne (by omega)]; exact k1, k2.mono hle2⟩
      · rw [take_drop_set (by rw [hNx.l]; exact hin)]
    clear e3 e4 e6 e8 e9
    rintro ⟨e, ds⟩ H9 ⟨i, i9', K2, vs2, hii, hi, hi9, e3, e4, e6, e8, e9, rfl, hBK2, hNx2, rfl⟩
    dsimp only at e3 e4 e6 e8 e9
    obtain rfl : i = i9 + 1 := by omega
    obtain rfl : i9' = i9 := by omega
    refine CW.walk1 hX mixed d4 rfl ?_
    simp [e9]
    exact ⟨u.blocks.length - (i9' + 1), by omega, i9' + 1, i9' + 1, K2, vs2, rfl, hi, rfl, by simp [e3], by simp [e4], by simp [e6], by simp [e8], by simp; exact wrapI (by omega) (by omega), rfl, hBK2, hNx2, rfl⟩
  rintro ⟨e, ds⟩ H9 ⟨K, vs, e4, e6, e8, rfl, hBK, hNx, rfl⟩
  dsimp only at e4 e6 e8
  have hleK : Le K (K.set rn (.cells vs)) := Le.set_new hNx.kn
  have hL9 := (hL.mono hBK).mono hleK
  have hO9 := (hso.mono hBK).mono hleK
  have hrn9 : (K.set rn (.cells vs)) rn = some (.cells vs) := set_at
  have hnx9 : ∀ j, j < u.blocks.length → ∃ w, vs[j]? = some w ∧ SlF (K.set rn (.cells vs)) w (natL (nextN u p j)) := fun j hj => by
    obtain ⟨w, k1, k2⟩ := hNx.nx j hj
    exact ⟨w, k1, k2.mono hleK⟩
  have hvl := hNx.l
  have hle := hle.trans (hBK.trans hleK)
  generalize K.set rn _ = H9 at hL9 hO9 hrn9 hnx9 hle ⊢
  clear hNx hBK hleK hL hso
  clear K hrn m8 hv8
  have hO := ord_of (N := nextN u p) h0 nextN_lt (f := u.blocks.length) (Nat.le_refl _)
  have hmem := fun l (h : l ∈ loopsP (nextN u p) u.blocks.length u.blocks.length) => loopsP_mem h
  have hlen := loopsP_len (N := nextN u p) (n := u.blocks.length) (m := u.blocks.length)
  have hhd := fun l (h : l ∈ loopsP (nextN u p) u.blocks.length u.blocks.length) => loopsP_lt l h
  generalize loopsP (nextN u p) u.blocks.length u.blocks.length = ls at hL9 hmem hlen hhd
  have horder : ∀ b, b ∈ ordL (nextN u p) u.blocks.length → Rch (nextN u p) 0 b ∧ b < u.blocks.length := fun b hb => ⟨(hO.mem b).1 hb, hO.lt b hb⟩
  have hol : (ordL (nextN u p) u.blocks.length).length ≤ u.blocks.length := nodup_le u.blocks.length _ hO.nd hO.lt
  have h0o : 0 ∈ ordL (nextN u p) u.blocks.length := (hO.mem 0).2 .refl
  generalize ordL (nextN u p) u.blocks.length = order at hO9 horder hol h0o
  clear hO
  obtain ⟨ro, co, cso, rfl, hro, hco⟩ : ∃ r c cs, vO = .ref r 0 order.length c ∧ H9 r = some (.cells cs) ∧ ∀ (k b : Nat), order[k]? = some b → cs[k]? = some (ci (b : Int)) := by
    rcases hO9 with ⟨_, h1⟩ | ⟨r, c, cs, h1, h2, h3⟩
    · have h2 : order = [] := by simpa [natL] using h1
      rw [h2] at h0o; simp at h0o
    · rw [natL_len] at h1
      exact ⟨r, _, cs, h1, h2, fun (k b : Nat) hk => h3 k (b : Int) (by simp [natL, hk])⟩
  have hnlen : ∀ b, b < u.blocks.length → (nextN u p b).length ≤ u.blocks.length := fun b hb => by
    simp only [nextN]
    split
    · have := List.length_filter_le (wayTo u p (by assumption)) (List.range u.blocks.length)
      rw [List.length_range] at this
      exact this
    · simp
  refine CW.cut (fun s' H' => s'.ds = [] ∧ H' = H9) ?_ ?_
  · refine CW.walk hX mixed d4 rfl ?_
    simp
    refine CW.block ?_
    refine CW.loop (geL H9 vL (.ref ro 0 order.length co) rn u.blocks.length ls.length 0) ?_ (m := ls.length) ⟨0, 0, rfl, by omega, rfl, by simp [e4], by simp [e6], by simp [e8], by simp, rfl, rfl⟩
    clear e4 e6 e8
    rintro m ⟨e, ds⟩ HA ⟨i, i12, rfl, hi, hi12, e4, e6, e8, e12, rfl, rfl⟩
    obtain rfl : i12 = i := by omega
    dsimp only at e4 e6 e8 e12
    by_cases hil : i12 < ls.length
    rotate_left
    · rcases hL9 with ⟨rfl, rfl⟩ | ⟨r, c2, cs2, rfl, _⟩
      · refine CW.walk hX mixed d4 rfl ?_
        simp [e4, e12]
        simp at hi
        simp [hi]
      · refine CW.walk hX mixed d4 rfl ?_
        simp [e4, e12, hil]
    obtain ⟨l, hl⟩ : ∃ l, ls[i12]? = some l := ⟨_, List.getElem?_eq_getElem hil⟩
    have hlm := List.mem_of_getElem? hl
    obtain ⟨r, c2, cs2, vt, vb, rfl, hr, g0, g1, g2, st, sb⟩ := LpsR.get hL9 hl
    obtain ⟨q1', q2', q3'⟩ := hmem l hlm
    have hhn := hhd l hlm
    obtain ⟨hd, T, Bl⟩ := l
    dsimp only at g0 st sb q1' q2' q3' hhn
    have hTok : TailOk (nextN u p) hd T := by rw [q1']; exact tailsP_ok
    have hTl : T.length ≤ u.blocks.length := by rw [q1']; exact tailsP_len
    have hTlt : ∀ t ∈ T, t < u.blocks.length := by rw [q1']; exact tailsP_lt
    have hBl : Bl.length ≤ u.blocks.length := by rw [q2']; exact loopB_len
    have hhB : hd ∈ Bl := by rw [q2']; exact loopB_mem.2 ⟨hhn, .inl rfl⟩
    have hBm : ∀ x, x ∈ Bl ↔ x < u.blocks.length ∧ InL (nextN u p) hd T x := fun x => by rw [q2']; exact loopB_mem
    have hwin : ∀ x ∈ Bl, ∀ s, ¬ WI (nextN u p) Bl x hd u.blocks.length s [] := fun x hx s => by
      rw [q2'] at hx ⊢
      exact within_ok nextN_lt h0 hTok q3' hx
    have htin : ∀ t ∈ T, t ∈ Bl := fun t ht => by rw [q2']; exact tail_in hTok ht (hTlt t ht)
    obtain ⟨rt, ct, cst, rfl, hrt, hct⟩ : ∃ r c cs, vt = .ref r 0 T.length c ∧ HA r = some (.cells cs) ∧ ∀ (k b : Nat), T[k]? = some b → cs[k]? = some (ci (b : Int)) := by
      rcases st with ⟨_, h1⟩ | ⟨r, c, cs, h1, h2, h3⟩
      · exact absurd (by simpa [natL] using h1) q3'
      · rw [natL_len] at h1
        exact ⟨r, _, cs, h1, h2, fun (k b : Nat) hk => h3 k (b : Int) (by simp [natL, hk])⟩
    have sb' := sb
    obtain ⟨rb, cb, csb, rfl, hrb, hcb⟩ : ∃ r c cs, vb = .ref r 0 Bl.length c ∧ HA r = some (.cells cs) ∧ ∀ (k b : Nat), Bl[k]? = some b → cs[k]? = some (ci (b : Int)) := by
      rcases sb with ⟨_, h1⟩ | ⟨r, c, cs, h1, h2, h3⟩
      · have h2 : Bl = [] := by simpa [natL] using h1
        rw [h2] at hhB; simp at hhB
      · rw [natL_len] at h1
        exact ⟨r, _, cs, h1, h2, fun (k b : Nat) hk => h3 k (b : Int) (by simp [natL, hk])⟩
    have hbl : (natL Bl).length ≤ 1000000 := by rw [natL_len]; omega
    have hhas : ∀ x : Nat, CC Tryd.prog W 11 [.ref rb 0 Bl.length cb, ci x] HA fun y H' => y = .ret (.bool (decide (x ∈ Bl))) ∧ H' = HA := fun x => (hasQ_f hX (x : Int) sb' hbl).mono fun y H' ⟨h1, h2⟩ => ⟨by rw [h1]; congr 2; rw [decide_eq_decide]; exact natL_mem, h2⟩
    refine CW.walk hX mixed d4 rfl ?_
    simp [e4, e12, hil]
    refine CW.cut (geL HA (.ref r 0 ls.length c2) (.ref ro 0 order.length co) rn u.blocks.length ls.length 1 (ls.length - (i12 + 1))) ?_ ?_
    · refine CW.block ?_
      refine CW.walk hX mixed d4 rfl ?_
      simp [e4, e12, hr, hil, g2]
      refine CW.cut (geB HA (.ref r 0 ls.length c2) (.ref ro 0 order.length co) rn u.blocks.length i12 (.ref rb 0 Bl.length cb)) ?_ ?_
      · refine CW.walk hX mixed d4 rfl ?_
        simp [d4, e4, e12, hr, hil, g0, g1]
        refine (hhas hd).k ?_
        rintro x HB ⟨rfl, rfl⟩
        simp [d4, hhB, e4, e12, hr, hil, g1, q3']
        refine CW.condE hX (b := false) (by simp [q3']) (fun h => by cases h) (fun _ => ?_)
        refine CW.walk1 hX mixed d4 rfl ?_
        simp
        exact ⟨by simp [e4], by simp [e6], by simp [e8], by simp [e12], by simp, rfl, rfl⟩
      clear e4 e6 e8 e12
      rintro ⟨e, ds⟩ HB ⟨e4, e6, e8, e12, e13, hds, rfl⟩
      dsimp only at e4 e6 e8 e12 e13 hds
      subst hds
      refine CW.cut (geB HB (.ref r 0 ls.length c2) (.ref ro 0 order.length co) rn u.blocks.length i12 (.ref rb 0 Bl.length cb)) ?_ ?_
      · refine CW.walk hX mixed d4 rfl ?_
        simp
        refine CW.block ?_
        refine CW.loop (geK 14 (geB HB (.ref r 0 ls.length c2) (.ref ro 0 order.length co) rn u.blocks.length i12 (.ref rb 0 Bl.length cb)) order.length 0) ?_ (m := order.length) ⟨0, 0, rfl, by omega, rfl, by simp, ⟨by simp [e4], by simp [e6], by simp [e8], by simp [e12], by simp [e13], rfl, rfl⟩⟩
        clear e4 e6 e8 e12 e13
        rintro m ⟨e, ds⟩ HK ⟨k, k14, rfl, hk, hk', e14, ⟨e4, e6, e8, e12, e13, hds, rfl⟩⟩
        obtain rfl : k14 = k := by omega
        dsimp only at e4 e6 e8 e12 e13 e14 hds
        subst hds
        by_cases hko : k14 < order.length
        rotate_left
        · refine CW.walk hX mixed d4 rfl ?_
          simp [e6, e14, hko]
          exact ⟨by simp [e4], by simp [e6], by simp [e8], by simp [e12], by simp [e13], rfl, rfl⟩
        obtain ⟨b, hb⟩ : ∃ b, order[k14]? = some b := ⟨_, List.getElem?_eq_getElem hko⟩
        obtain ⟨hbr, hbn⟩ := horder b (List.mem_of_getElem? hb)
        have hcb' := hco k14 b hb
        refine CW.walk hX mixed d4 rfl ?_
        simp [e6, e14, hko]
        refine CW.cut (geK 14 (geB HK (.ref r 0 ls.length c2) (.ref ro 0 order.length co) rn u.blocks.length i12 (.ref rb 0 Bl.length cb)) order.length 1 (order.length - (k14 + 1))) ?_ ?_
        · refine CW.block ?_
          refine CW.walk hX mixed d4 rfl ?_
          simp [e6, e14, hro, hko, hcb']
          refine CW.walk hX mixed d4 rfl ?_
          simp
          refine CW.block ?_
          refine CW.loop (geK 16 (geJ HK (.ref r 0 ls.length c2) (.ref ro 0 order.length co) rn u.blocks.length i12 (.ref rb 0 Bl.length cb) k14 b) (nextN u p b).length 0) ?_ (m := (nextN u p b).length) ⟨0, 0, rfl, by omega, rfl, by simp, ⟨by simp [e14], by simp, ⟨by simp [e4], by simp [e6], by simp [e8], by simp [e12], by simp [e13], rfl, rfl⟩⟩⟩
          clear e4 e6 e8 e12 e13 e14
          rintro m ⟨e, ds⟩ HJ ⟨j, j16, rfl, hj, hj', e16, ⟨e14, e15, ⟨e4, e6, e8, e12, e13, hds, rfl⟩⟩⟩
          obtain rfl : j16 = j := by omega
          dsimp only at e4 e6 e8 e12 e13 e14 e15 e16 hds
          subst hds
          obtain ⟨w, hw2, hsl⟩ := hnx9 b hbn
          have hlenw : (w = .nilsl ∧ (nextN u p b).length = 0) ∨ ∃ r c, w = .ref r 0 (nextN u p b).length c := by
            rcases hsl with ⟨h1, h2⟩ | ⟨r, c, cs, h1, _⟩
            · exact .inl ⟨h1, by simpa [natL] using congrArg List.length h2⟩
            · exact .inr ⟨r, _, by simpa [natL] using h1⟩
          refine CW.cut (geR HJ (.ref r 0 ls.length c2) (.ref ro 0 order.length co) rn u.blocks.length i12 (.ref rb 0 Bl.length cb) k14 b j16 (nextN u p b).length) ?_ ?_
          · refine CW.walk hX mixed d4 rfl ?_
            simp [e8, e15, e16, hrn9, hbn, hw2]
            refine lenK_of hlenw ?_
            simp
            refine CW.walk1 hX mixed d4 rfl ?_
            by_cases hjl : j16 < (nextN u p b).length
            · simp [hjl]
              exact ⟨by simp [e16], hjl, ⟨by simp [e14], by simp [e15], ⟨by simp [e4], by simp [e6], by simp [e8], by simp [e12], by simp [e13], rfl, rfl⟩⟩⟩
            · simp [hjl]
              exact ⟨k14 + 1, k14, rfl, by omega, rfl, by simp [e14], ⟨by simp [e4], by simp [e6], by simp [e8], by simp [e12], by simp [e13], rfl, rfl⟩⟩
          clear e4 e6 e8 e12 e13 e14 e15 e16
          rintro ⟨e, ds⟩ HM ⟨e16, hjl, ⟨e14, e15, ⟨e4, e6, e8, e12, e13, hds, rfl⟩⟩⟩
          dsimp only at e4 e6 e8 e12 e13 e14 e15 e16 hds
          subst hds
          obtain ⟨y, hy⟩ : ∃ y, (nextN u p b)[j16]? = some y := ⟨_, List.getElem?_eq_getElem hjl⟩
          have hym := List.mem_of_getElem? hy
          have hyn := nextN_lt b hbn y hym
          obtain ⟨rv, cv, csv, rfl, hrv, hcv⟩ : ∃ r c cs, w = .ref r 0 (nextN u p b).length c ∧ HM r = some (.cells cs) ∧ cs[j16]? = some (ci (y : Int)) := by
            rcases hsl with ⟨_, h2⟩ | ⟨r, c, cs, h1, h2, h3⟩
            · have := congrArg List.length h2
              simp [natL] at this
              rw [this] at hjl
              simp at hjl
            · exact ⟨r, _, cs, by rw [h1, natL_len], h2, h3 j16 (y : Int) (by simp [natL, hy])⟩
          have hfin : ∀ en : Env, en 4 = .ref r 0 ls.length c2 → en 6 = .ref ro 0 order.length co → en 8 = .ref rn 0 u.blocks.length u.blocks.length → en 12 = .int .i64 i12 → en 13 = .ref rb 0 Bl.length cb → en 14 = .int .i64 k14 → en 15 = .int .i64 b → en 16 = .int .i64 j16 → geK 16 (geJ HM (.ref r 0 ls.length c2) (.ref ro 0 order.length co) rn u.blocks.length i12 (.ref rb 0 Bl.length cb) k14 b) (nextN u p b).length 1 ((nextN u p b).length - (j16 + 1)) ⟨en, []⟩ HM := fun en g4 g6 g8 g12 g13 g14 g15 g16 => ⟨j16 + 1, j16, rfl, by omega, rfl, g16, ⟨g14, g15, ⟨g4, g6, g8, g12, g13, rfl, rfl⟩⟩⟩
          refine CW.cut (geK 16 (geJ HM (.ref r 0 ls.length c2) (.ref ro 0 order.length co) rn u.blocks.length i12 (.ref rb 0 Bl.length cb) k14 b) (nextN u p b).length 1 ((nextN u p b).length - (j16 + 1))) ?_ ?_
          · refine CW.block ?_
            refine CW.walk hX mixed d4 rfl ?_
            simp [e8, e15, e16, hrn9, hbn, hw2, hjl, hrv, hcv]
            refine CW.walk hX mixed d4 rfl ?_
            simp [e13, e15]
            refine (hhas b).k ?_
            rintro x HN ⟨rfl, rfl⟩
            by_cases hbB : b ∈ Bl
            · simp [hbB]
              refine CW.condE hX (b := false) (by simp) (fun h => by cases h) (fun _ => ?_)
              refine CW.walk1 hX mixed d4 rfl ?_
              simp
              exact hfin _ (by simp [e4]) (by simp [e6]) (by simp [e8]) (by simp [e12]) (by simp [e13]) (by simp [e14]) (by simp [e15]) (by simp [e16])
            by_cases hyB : y ∈ Bl
            rotate_left
            · simp [hbB, e13]
              refine (hhas y).k ?_
              rintro x HO ⟨rfl, rfl⟩
              simp [hyB]
              refine CW.condE hX (b := false) (by simp) (fun h => by cases h) (fun _ => ?_)
              refine CW.walk1 hX mixed d4 rfl ?_
              simp
              exact hfin _ (by simp [e4]) (by simp [e6]) (by simp [e8]) (by simp [e12]) (by simp [e13]) (by simp [e14]) (by simp [e15]) (by simp [e16])
            have hyd : y = hd := InL.enter hbr (fun h => hbB ((hBm b).2 ⟨hbn, h⟩)) hym ((hBm y).1 hyB).2
            simp [hbB, e13]
            refine (hhas y).k ?_
            rintro x HO ⟨rfl, rfl⟩
            subst hyd
            simp [hyB, e4, e12, hr, hil, g0]
            refine CW.condE hX (b := false) (by simp) (fun h => by cases h) (fun _ => ?_)
            refine CW.walk1 hX mixed d4 rfl ?_
            simp
            exact hfin _ (by simp [e4]) (by simp [e6]) (by simp [e8]) (by simp [e12]) (by simp [e13]) (by simp [e14]) (by simp [e15]) (by simp [e16])
          clear e4 e6 e8 e12 e13 e14 e15 e16
          rintro ⟨e, ds⟩ HN ⟨j, j16', hjj, hj, hj', e16, ⟨e14, e15, ⟨e4, e6, e8, e12, e13, hds, rfl⟩⟩⟩
          dsimp only at e4 e6 e8 e12 e13 e14 e15 e16 hds
          subst hds
          obtain rfl : j = j16 + 1 := by omega
          obtain rfl : j16' = j16 := by omega
          have hnl2 := hnlen b hbn
          refine CW.walk1 hX mixed d4 rfl ?_
          simp [e16]
          exact ⟨(nextN u p b).length - (j16' + 1), by omega, j16' + 1, j16' + 1, rfl, hj, rfl, by simp; exact wrapI (by omega) (by omega), ⟨by simp [e14], by simp [e15], ⟨by simp [e4], by simp [e6], by simp [e8], by simp [e12], by simp [e13], rfl, rfl⟩⟩⟩
        clear e4 e6 e8 e12 e13 e14
        rintro ⟨e, ds⟩ HN ⟨k, k14', hkk, hk, hk', e14, ⟨e4, e6, e8, e12, e13, hds, rfl⟩⟩
        dsimp only at e4 e6 e8 e12 e13 e14 hds
        subst hds
        obtain rfl : k = k14 + 1 := by omega
        obtain rfl : k14' = k14 := by omega
        refine CW.walk1 hX mixed d4 rfl ?_
        simp [e14]
        exact ⟨order.length - (k14' + 1), by omega, k14' + 1, k14' + 1, rfl, hk, rfl, by simp; exact wrapI (by omega) (by omega), ⟨by simp [e4], by simp [e6], by simp [e8], by simp [e12], by simp [e13], rfl, rfl⟩⟩
      clear e4 e6 e8 e12 e13
      rintro ⟨e, ds⟩ HC ⟨e4, e6, e8, e12, e13, hds, rfl⟩
      dsimp only at e4 e6 e8 e12 e13 hds
      subst hds
      refine CW.cut (geB HC (.ref r 0 ls.length c2) (.ref ro 0 order.length co) rn u.blocks.length i12 (.ref rb 0 Bl.length cb)) ?_ ?_
      · refine CW.walk hX mixed d4 rfl ?_
        simp
        refine CW.block ?_
        refine CW.loop (geK 18 (geB HC (.ref r 0 ls.length c2) (.ref ro 0 order.length co) rn u.blocks.length i12 (.ref rb 0 Bl.length cb)) T.length 0) ?_ (m := T.length) ⟨0, 0, rfl, by omega, rfl, by simp, ⟨by simp [e4], by simp [e6], by simp [e8], by simp [e12], by simp [e13], rfl, rfl⟩⟩
        clear e4 e6 e8 e12 e13
        rintro m ⟨e, ds⟩ HK ⟨k, k18, rfl, hk, hk', e18, ⟨e4, e6, e8, e12, e13, hds, rfl⟩⟩
        obtain rfl : k18 = k := by omega
        dsimp only at e4 e6 e8 e12 e13 e18 hds
        subst hds
        by_cases hko : k18 < T.length
        rotate_left
        · refine CW.walk hX mixed d4 rfl ?_
          simp [e4, e12, e18, hr, hil, g1, hko]
          exact ⟨by simp [e4], by simp [e6], by simp [e8], by simp [e12], by simp [e13], rfl, rfl⟩
        obtain ⟨t, ht⟩ : ∃ b, T[k18]? = some b := ⟨_, List.getElem?_eq_getElem hko⟩
        have htm := List.mem_of_getElem? ht
        have htn := hTlt t htm
        have hct' := hct k18 t ht
        obtain ⟨w, hw2, hsl⟩ := hnx9 t htn
        have hnt := hnlen t htn
        refine CW.walk hX mixed d4 rfl ?_
        simp [e4, e12, e18, hr, hil, g1, hko]
        refine CW.cut (geK 18 (geB HK (.ref r 0 ls.length c2) (.ref ro 0 order.length co) rn u.blocks.length i12 (.ref rb 0 Bl.length cb)) T.length 1 (T.length - (k18 + 1))) ?_ ?_
        · refine CW.block ?_
          refine CW.walk hX mixed d4 rfl ?_
          simp [e4, e12, e18, hr, hil, g1, hrt, hko, hct']
          refine CW.walk hX mixed d4 rfl ?_
          simp [d4, e13]
          refine (hhas t).k ?_
          rintro x HN ⟨rfl, rfl⟩
          simp [d4, htin t htm, e4, e8, e12, hr, hil, g0, hrn9, htn, hw2]
          refine (hasQ_f hX (hd : Int) hsl (by rw [natL_len]; omega)).k ?_
          rintro x HO ⟨rfl, rfl⟩
          have hdec : decide ((hd : Int) ∈ natL (nextN u p t)) = true := by rw [decide_eq_true_eq]; exact natL_mem.2 (hTok t htm).1
          rw [hdec]
          simp
          refine CW.condE hX (b := false) (by simp) (fun h => by cases h) (fun _ => ?_)
          refine CW.walk1 hX mixed d4 rfl ?_
          simp
          exact ⟨k18 + 1, k18, rfl, by omega, rfl, by simp [e18], ⟨by simp [e4], by simp [e6], by simp [e8], by simp [e12], by simp [e13], rfl, rfl⟩⟩
        clear e4 e6 e8 e12 e13 e18
        rintro ⟨e, ds⟩ HN ⟨k, k18', hkk, hk, hk', e18, ⟨e4, e6, e8, e12, e13, hds, rfl⟩⟩
        dsimp only at e4 e6 e8 e12 e13 e18 hds
        subst hds
        obtain rfl : k = k18 + 1 := by omega
        obtain rfl : k18' = k18 := by omega
        refine CW.walk1 hX mixed d4 rfl ?_
        simp [e18]
        exact ⟨T.length - (k18' + 1), by omega, k18' + 1, k18' + 1, rfl, hk, rfl, by simp; exact wrapI (by omega) (by omega), ⟨by simp [e4], by simp [e6], by simp [e8], by simp [e12], by simp [e13], rfl, rfl⟩⟩
      clear e4 e6 e8 e12 e13
      rintro ⟨e, ds⟩ HD ⟨e4, e6, e8, e12, e13, hds, rfl⟩
      dsimp only at e4 e6 e8 e12 e13 hds
      subst hds
      refine CW.walk hX mixed d4 rfl ?_
      simp
      refine CW.block ?_
      refine CW.loop (geK 20 (geB HD (.ref r 0 ls.length c2) (.ref ro 0 order.length co) rn u.blocks.length i12 (.ref rb 0 Bl.length cb)) Bl.length 0) ?_ (m := Bl.length) ⟨0, 0, rfl, by omega, rfl, by simp, ⟨by simp [e4], by simp [e6], by simp [e8], by simp [e12], by simp [e13], rfl, rfl⟩⟩
      clear e4 e6 e8 e12 e13
      rintro m ⟨e, ds⟩ HK ⟨k, k20, rfl, hk, hk', e20, ⟨e4, e6, e8, e12, e13, hds, rfl⟩⟩
      obtain rfl : k20 = k := by omega
      dsimp only at e4 e6 e8 e12 e13 e20 hds
      subst hds
      by_cases hko : k20 < Bl.length
      rotate_left
      · refine CW.walk hX mixed d4 rfl ?_
        simp [e13, e20, hko]
        exact ⟨i12 + 1, i12, rfl, by omega, rfl, by simp [e4], by simp [e6], by simp [e8], by simp [e12], rfl, rfl⟩
      obtain ⟨y, hy⟩ : ∃ b, Bl[k20]? = some b := ⟨_, List.getElem?_eq_getElem hko⟩
      have hym := List.mem_of_getElem? hy
      have hyn := ((hBm y).1 hym).1
      have hcy := hcb k20 y hy
      refine CW.walk hX mixed d4 rfl ?_
      simp [e13, e20, hko]
      refine CW.cut (geK 20 (geB HK (.ref r 0 ls.length c2) (.ref ro 0 order.length co) rn u.blocks.length i12 (.ref rb 0 Bl.length cb)) Bl.length 1 (Bl.length - (k20 + 1))) ?_ ?_
      · refine CW.block ?_
        refine CW.walk hX mixed d4 rfl ?_
        simp [d4, e4, e8, e12, e13, e20, hr, hil, g0, hrb, hko, hcy]
        refine (within_c hX hyn (by omega) nextN_lt (fun b hb => by have := hnlen b hb; omega) (Nat.le_refl _) hrn9 hnx9 sb' (by omega)).k ?_
        rintro x HN ⟨⟨q, rfl, hq⟩, rfl⟩
        obtain rfl : q = true := by
          cases q with
          | true => rfl
          | false => obtain ⟨s, hs⟩ := hq rfl; exact absurd hs (hwin y hym s)
        simp
        refine CW.condE hX (b := false) (by simp) (fun h => by cases h) (fun _ => ?_)
        refine CW.walk1 hX mixed d4 rfl ?_
        simp
        exact ⟨k20 + 1, k20, rfl, by omega, rfl, by simp [e20], ⟨by simp [e4], by simp [e6], by simp [e8], by simp [e12], by simp [e13], rfl, rfl⟩⟩
      clear e4 e6 e8 e12 e13 e20
      rintro ⟨e, ds⟩ HN ⟨k, k20', hkk, hk, hk', e20, ⟨e4, e6, e8, e12, e13, hds, rfl⟩⟩
      dsimp only at e4 e6 e8 e12 e13 e20 hds
      subst hds
      obtain rfl : k = k20 + 1 := by omega
      obtain rfl : k20' = k20 := by omega
      refine CW.walk1 hX mixed d4 rfl ?_
      simp [e20]
      exact ⟨Bl.length - (k20' + 1), by omega, k20' + 1, k20' + 1, rfl, hk, rfl, by simp; exact wrapI (by omega) (by omega), ⟨by simp [e4], by simp [e6], by simp [e8], by simp [e12], by simp [e13], rfl, rfl⟩⟩
    clear e4 e6 e8 e12
    rintro ⟨e, ds⟩ HB ⟨i, i12', hii, hi, hi12, e4, e6, e8, e12, rfl, rfl⟩
    dsimp only at e4 e6 e8 e12
    obtain rfl : i = i12 + 1 := by omega
    obtain rfl : i12' = i12 := by omega
    refine CW.walk1 hX mixed d4 rfl ?_
    simp [e12]
    exact ⟨ls.length - (i12' + 1), by omega, i12' + 1, i12' + 1, rfl, hi, rfl, by simp [e4], by simp [e6], by simp [e8], by simp; exact wrapI (by omega) (by omega), rfl, rfl⟩
  rintro ⟨e', ds⟩ HA ⟨rfl, rfl⟩
  refine CW.walk hX mixed d4 rfl ?_
  simp
  refine (alive_c hX hG _).k ?_
  rintro x HB ⟨rfl, rfl⟩
  simp
  refine CW.walk1 hX mixed d4 rfl ?_
  simp
  exact hle
end Go.Cl.Gd
