/- DERIVED HERE. The clean layer's operations, the rest of them; all together: 'op_sound'. -/
import Derived.Test.YtfkdjajpopocpaaDoorCl4
set_option linter.unusedSimpArgs false
set_option linter.unusedVariables false
namespace Go.Cl
open Go.RowKit
section
variable {P : Program} {T : Tab} {W : World} {H F : Hp} {w : World} {K : CV → Hp → Prop} {ρ : Operand → Value} {ev : Operand → CV}

theorem ev_int {o : Operand} {k : IntKind} {n : Int} (hev : ∀ x, Rep W (ev x) (ρ x)) (h : ev o = .int k n) : ρ o = .int k n := rep_int (by rw [← h]; exact hev o)
theorem ev_bool {o : Operand} {b : Bool} (hev : ∀ x, Rep W (ev x) (ρ x)) (h : ev o = .bool b) : ρ o = .bool b := rep_bool (by rw [← h]; exact hev o)
theorem op_indexAddr (hT : TabOk P T) (hd : Disj H F) (hh : Held W (hun H F) w) (hev : ∀ x, Rep W (ev x) (ρ x)) {t : TypeId} {x i : Operand} (h : vcOp T (.indexAddr t x i) ev H K) : GoodV W F K ((Instr.indexAt t (ρ x) (ρ i)).run P w) := by
  simp only [vcOp] at h
  split at h
  · rename_i ti ht
    obtain ⟨f⟩ := tfact hT ht
    split at h
    · rename_i e hk
      split at h
      · rename_i te k n hte hi
        obtain ⟨fe⟩ := tfact hT hte
        rw [ev_int hev hi]
        have hx := hev x
        have hrun : ∀ (a : Addr) (len c : Nat), 0 ≤ n → n < len → (Instr.indexAt t (.slice (some a) len c) (.int k n)).run P w = .ok (.pointer (some (a.add (n.toNat * te.size)))) w := by
          intro a len c h0 h1
          simp only [Instr.indexAt, asIntOf, Sem.run_bind, Sem.run_pure, Result.andThen_ok, f.und, kind_slice f hk]
          simp [h0, h1, fe.size]
        split at h
        · rename_i r o len c hxe
          obtain ⟨h0, h1, hK⟩ := h
          rw [hxe] at hx
          rw [rep_ref hx, hrun _ _ _ h0 h1, add_plain]
          exact GoodV.mk hd hh (.ptr r _) hK
        · rename_i sz xs hxe
          obtain ⟨hsz, h0, el, hel, hK⟩ := h
          rw [hxe] at hx
          generalize ρ x = v at hx ⊢
          cases hx with
          | sl _ _ A c vs hn hz hc hA hr =>
            have hlt : n.toNat < xs.length := (List.getElem?_eq_some_iff.1 hel).1
            obtain ⟨ad, rfl⟩ := hA (by omega)
            rw [hrun ad xs.length c h0 (by omega)]
            have hll := hz _ _ hel
            refine GoodV.mk hd hh (.iptr el _ (fun j => vs n.toNat j) (fun j hj => ?_) (fun j y hy => hr _ j el y hel hy)) hK
            obtain ⟨ad', he, h2, h3⟩ := hc n.toNat j hlt (by omega)
            injection he with he
            subst he
            rw [add_add, ← hsz]
            exact ⟨h2, h3⟩
        · exact h.elim
      · exact h.elim
    · rename_i len e hk
      split at h
      · rename_i te k n hte hi
        obtain ⟨fe⟩ := tfact hT hte
        rw [ev_int hev hi]
        have hx := hev x
        have hrun : ∀ (a : Addr), 0 ≤ n → n < len → (Instr.indexAt t (.pointer (some a)) (.int k n)).run P w = .ok (.pointer (some (a.add (n.toNat * te.size)))) w := by
          intro a h0 h1
          simp only [Instr.indexAt, asIntOf, Sem.run_bind, Sem.run_pure, Result.andThen_ok, f.und, kind_arr f hk, Instr.sureAddr]
          simp [h0, h1, fe.size]
        split at h
        · rename_i r o hxe
          obtain ⟨h0, h1, hK⟩ := h
          rw [hxe] at hx
          rw [rep_ptr hx, hrun _ h0 h1, add_plain]
          exact GoodV.mk hd hh (.ptr r _) hK
        · rename_i cs hxe
          obtain ⟨h0, h1, hK⟩ := h
          rw [hxe] at hx
          generalize ρ x = v at hx ⊢
          cases hx with
          | iptr _ ad vs hc hr =>
            rw [hrun ad h0 h1]
            refine GoodV.mk hd hh (.iptr (cs.drop (n.toNat * te.size)) _ (fun j => vs (n.toNat * te.size + j)) (fun j hj => ?_) (fun j y hy => ?_)) hK
            · rw [add_add]; exact hc _ (by simp at hj; omega)
            · rw [List.getElem?_drop] at hy; exact hr _ y hy
        · exact h.elim
      · exact h.elim
    · exact h.elim
  · exact h.elim
theorem op_index (hT : TabOk P T) (hd : Disj H F) (hh : Held W (hun H F) w) (hev : ∀ x, Rep W (ev x) (ρ x)) {t : TypeId} {x i : Operand} (h : vcOp T (.index t x i) ev H K) : GoodV W F K ((Instr.index t (ρ x) (ρ i)).run P w) := by
  simp only [vcOp] at h
  split at h
  · rename_i ti ht
    obtain ⟨f⟩ := tfact hT ht
    split at h
    · rename_i s k n hk hx hi
      obtain ⟨h0, hs, hK⟩ := h
      have hxs : ρ x = .string s := rep_str (by rw [← hx]; exact hev x)
      rw [ev_int hev hi, hxs]
      have e : s[n.toNat]? = some s[n.toNat] := by
        exact getElem?_pos s n.toNat hs
      simp only [Instr.index, asIntOf, Sem.run_bind, Sem.run_pure, Result.andThen_ok, f.und, kind_str f hk, if_pos h0, e]
      exact GoodV.mk hd hh (.int .u8 _) hK
    · rename_i len e cs k n hk hx hi
      split at h
      · rename_i te hte
        obtain ⟨fe⟩ := tfact hT hte
        obtain ⟨ha, h0, h1, c, hcs, hK⟩ := h
        rw [ev_int hev hi]
        have hxr := hev x
        rw [hx] at hxr
        generalize ρ x = v at hxr ⊢
        cases hxr with
        | agg _ vs hvl hvo hvr =>
          have hlt : n.toNat * te.size < vs.size := by rw [← hvl]; exact (List.getElem?_eq_some_iff.1 hcs).1
          simp only [Instr.index, asIntOf, Sem.run_bind, Sem.run_pure, Result.andThen_ok, f.und, kind_arr f hk]
          simp only [h0, h1, and_self, if_true, Sem.run_bind, fe.size, Result.andThen_ok, part, fe.isAgg, ha]
          simp only [Array.getElem?_eq_getElem hlt]
          exact GoodV.mk hd hh (hvr _ c _ hcs (Array.getElem?_eq_getElem hlt)) hK
      · exact h.elim
    · exact h.elim
  · exact h.elim
theorem run_sliceBound {k : IntKind} {n : Int} {y : Nat} {code : BoundsCode} (h0 : 0 ≤ n) (h1 : n.toNat ≤ y) (w : World) : (Instr.sliceBound (.int k n) y code).run P w = .ok n.toNat w := by
  have h2 : n ≤ (y : Int) := by omega
  simp only [Instr.sliceBound, asIntOf, Sem.run_bind, Sem.run_pure, Result.andThen_ok, Sem.run_ite, if_pos (And.intro h0 h2)]
theorem bnd_some {o : Operand} {d : Nat} {K : Nat → Prop} (hev : ∀ x, Rep W (ev x) (ρ x)) (h : bnd (some (ev o)) d K) : ∃ k n, ρ o = .int k n ∧ 0 ≤ n ∧ K n.toNat := by
  unfold bnd at h
  split at h
  · rename_i e; cases e
  · rename_i k n e
    injection e with e
    exact ⟨k, n, ev_int hev e, h.1, h.2⟩
  · exact h.elim
theorem bounds_run {isS : Bool} {len cap : Nat} {lo hi : Option Operand} {K : Nat → Nat → Prop} (hev : ∀ x, Rep W (ev x) (ρ x)) (hb : bnd (hi.map ev) len fun h => h ≤ cap ∧ bnd (lo.map ev) 0 fun l => l ≤ h ∧ K h l) :
    ∃ h l, h ≤ cap ∧ l ≤ h ∧ K h l ∧ ∀ w : World, (Instr.sliceBounds isS len cap (lo.map ρ) (hi.map ρ) none).run P w = .ok (l, h, cap) w := by
  cases hi with
  | none =>
    have hb : len ≤ cap ∧ bnd (lo.map ev) 0 fun l => l ≤ len ∧ K len l := hb
    obtain ⟨h1, hb⟩ := hb
    cases lo with
    | none =>
      have hb : 0 ≤ len ∧ K len 0 := hb
      exact ⟨len, 0, h1, hb.1, hb.2, fun w => rfl⟩
    | some ol =>
      obtain ⟨k, n, e, h0, hl, hK⟩ := bnd_some hev hb
      refine ⟨len, n.toNat, h1, hl, hK, fun w => ?_⟩
      simp only [Instr.sliceBounds, Option.map_none, Option.map_some, e, Sem.run_bind, Sem.run_pure, Result.andThen_ok, run_sliceBound h0 hl]
  | some oh =>
    obtain ⟨k, m, eh, hm0, hm, hb⟩ := bnd_some hev hb
    cases lo with
    | none =>
      have hb : 0 ≤ m.toNat ∧ K m.toNat 0 := hb
      refine ⟨m.toNat, 0, hm, hb.1, hb.2, fun w => ?_⟩
      simp only [Instr.sliceBounds, Option.map_none, Option.map_some, eh, Sem.run_bind, Sem.run_pure, Result.andThen_ok, run_sliceBound hm0 hm]
    | some ol =>
      obtain ⟨k', n, e, h0, hl, hK⟩ := bnd_some hev hb
      refine ⟨m.toNat, n.toNat, hm, hl, hK, fun w => ?_⟩
      simp only [Instr.sliceBounds, Option.map_some, e, eh, Sem.run_bind, Sem.run_pure, Result.andThen_ok, run_sliceBound h0 hl, run_sliceBound hm0 hm]
theorem bnd_mono {o : Option CV} {d : Nat} {K K' : Nat → Prop} (h : bnd o d K) (hk : ∀ l, K l → K' l) : bnd o d K' := by
  unfold bnd at h ⊢
  split at h
  · exact hk _ h
  · exact ⟨h.1, hk _ h.2⟩
  · exact h.elim
theorem addr_zero (a : Addr) : a.add 0 = a := by cases a; simp [Addr.add]
theorem op_slice3 (hT : TabOk P T) (hd : Disj H F) (hh : Held W (hun H F) w) (hev : ∀ x, Rep W (ev x) (ρ x)) {t : TypeId} {x hi mx : Operand} (h : vcOp T (.slice t x none (some hi) (some mx)) ev H K) :
    GoodV W F K ((Instr.sliceAt t (ρ x) none (some (ρ hi)) (some (ρ mx))).run P w) := by
  simp only [vcOp, vcSl3] at h
  have hx := hev x
  have hhi := hev hi
  have hmx := hev mx
  split at h
  · rename_i ti ht
    obtain ⟨f⟩ := tfact hT ht
    split at h
    · rename_i e r o n c k1 h0 k2 m0 hk ex eh em
      obtain ⟨g1, g2, g3, g4, hK⟩ := h
      obtain ⟨te, hte⟩ := Option.isSome_iff_exists.1 g4
      obtain ⟨fe⟩ := tfact hT hte
      rw [ex] at hx; rw [eh] at hhi; rw [em] at hmx
      rw [rep_ref hx, rep_int hhi, rep_int hmx]
      have e1 : (Instr.sliceAt t (.slice (some ⟨r, o, none⟩) n c) none (some (.int k1 h0)) (some (.int k2 m0))).run P w = .ok (.slice (some ⟨r, o, none⟩) h0.toNat m0.toNat) w := by
        simp only [Instr.sliceAt, Sem.run_bind, f.und, kind_slice f hk, Result.andThen_ok, Instr.slice, Instr.sliceBounds, run_sliceBound (show 0 ≤ m0 by omega) (show m0.toNat ≤ c by omega), run_sliceBound g1 (show h0.toNat ≤ m0.toNat by omega), fe.size, Sem.run_pure, Nat.zero_mul, Option.map_some, addr_zero, ite_self, Nat.sub_zero]
      rw [e1]
      exact GoodV.mk hd hh (.ref _ _ _ _) hK
    · rename_i e k1 h0 k2 m0 hk ex eh em
      obtain ⟨g1, g2, g4, hK⟩ := h
      subst g1; subst g2
      obtain ⟨te, hte⟩ := Option.isSome_iff_exists.1 g4
      obtain ⟨fe⟩ := tfact hT hte
      rw [ex] at hx; rw [eh] at hhi; rw [em] at hmx
      rw [rep_nilsl hx, rep_int hhi, rep_int hmx]
      have e1 : (Instr.sliceAt t (.slice none 0 0) none (some (.int k1 0)) (some (.int k2 0))).run P w = .ok (.slice none 0 0) w := by
        simp only [Instr.sliceAt, Sem.run_bind, f.und, kind_slice f hk, Result.andThen_ok, Instr.slice, Instr.sliceBounds, run_sliceBound (show (0 : Int) ≤ 0 by omega) (show (0 : Int).toNat ≤ 0 by simp), fe.size, Sem.run_pure, Option.map_none, ite_self, Nat.sub_zero]
        simp [run_sliceBound (show (0 : Int) ≤ 0 by omega) (show (0 : Int).toNat ≤ 0 by simp)]
      rw [e1]
      exact GoodV.mk hd hh .nilsl hK
    · exact h.elim
  · exact h.elim
theorem op_slice (hT : TabOk P T) (hd : Disj H F) (hh : Held W (hun H F) w) (hev : ∀ x, Rep W (ev x) (ρ x)) {t : TypeId} {x : Operand} {lo hi : Option Operand} (h : vcOp T (.slice t x lo hi none) ev H K) :
    GoodV W F K ((Instr.sliceAt t (ρ x) (lo.map ρ) (hi.map ρ) none).run P w) := by
  simp only [vcOp] at h
  split at h
  · rename_i ti ht
    obtain ⟨f⟩ := tfact hT ht
    have hx := hev x
    split at h
    · rename_i e hk
      split at h
      · rename_i te hte
        obtain ⟨fe⟩ := tfact hT hte
        have key : ∀ (A : Option Addr) (n c : Nat) (K' : Nat → Nat → Prop), (bnd (hi.map ev) n fun h => h ≤ c ∧ bnd (lo.map ev) 0 fun l => l ≤ h ∧ K' h l) →
            ∃ h l, h ≤ c ∧ l ≤ h ∧ K' h l ∧ (Instr.sliceAt t (.slice A n c) (lo.map ρ) (hi.map ρ) none).run P w = .ok (.slice (if c = l then A else A.map (·.add (l * te.size))) (h - l) (c - l)) w := by
          intro A n c K' hb
          obtain ⟨h, l, h1, h2, h3, hr⟩ := bounds_run (P := P) (isS := true) (len := n) (cap := c) hev hb
          refine ⟨h, l, h1, h2, h3, ?_⟩
          simp only [Instr.sliceAt, Sem.run_bind, f.und, kind_slice f hk, Result.andThen_ok, Instr.slice, hr, fe.size, Sem.run_pure]
        split at h
        · rename_i sz xs hxe
          obtain ⟨hsz, hb⟩ := h
          rw [hxe] at hx
          generalize ρ x = v at hx ⊢
          cases hx with
          | sl _ _ A c vs hn hz hc hA hr =>
            have hb2 : bnd (hi.map ev) xs.length fun h => h ≤ c ∧ bnd (lo.map ev) 0 fun l => l ≤ h ∧ (h ≤ xs.length ∧ K (.sl sz ((xs.take h).drop l)) H) :=
              bnd_mono hb fun h ⟨h1, h2⟩ => ⟨by omega, bnd_mono h2 fun l ⟨h3, h4⟩ => ⟨h3, h1, h4⟩⟩
            obtain ⟨h, l, h1, h2, ⟨h3, hK⟩, hrun⟩ := key A xs.length c _ hb2
            rw [hrun]
            have hlen : ((xs.take h).drop l).length = h - l := by simp; omega
            rw [← hlen]
            have hget : ∀ i, ((xs.take h).drop l)[i]? = if l + i < h then xs[l + i]? else none := by
              intro i
              rw [List.getElem?_drop, List.getElem?_take]
            refine GoodV.mk hd hh (.sl sz _ _ (c - l) (fun i j => vs (l + i) j) (by omega) (fun i e he => ?_) (fun i j hi hj => ?_) (fun hp => ?_) (fun i j e y he hy => ?_)) hK
            · rw [hget] at he
              split at he
              · exact hz _ e he
              · cases he
            · obtain ⟨ad, rfl, hc1, hc2⟩ := hc (l + i) j (by omega) hj
              by_cases hcl : c = l
              · omega
              · refine ⟨ad.add (l * te.size), by rw [if_neg hcl]; rfl, ?_, hc2⟩
                rw [add_add, ← hsz, ← Nat.add_assoc, ← Nat.add_mul]
                exact hc1
            · obtain ⟨ad, rfl⟩ := hA (by omega)
              by_cases hcl : c = l
              · exact ⟨ad, by rw [if_pos hcl]⟩
              · exact ⟨ad.add (l * te.size), by rw [if_neg hcl]; rfl⟩
            · rw [hget] at he
              split at he
              · exact hr _ j e y he hy
              · cases he
        · rename_i r o n c hxe
          rw [hxe] at hx
          rw [rep_ref hx]
          obtain ⟨h, l, h1, h2, hK, hrun⟩ := key (some ⟨r, o, none⟩) n c _ h
          rw [hrun]
          have e : (if c = l then (some ⟨r, o, none⟩ : Option Addr) else (some ⟨r, o, none⟩ : Option Addr).map (·.add (l * te.size))) = some ⟨r, if c = l then o else o + l * te.size, none⟩ := by
            split
            · rfl
            · simp [add_plain]
          rw [e]
          exact GoodV.mk hd hh (.ref r _ _ _) hK
        · rename_i hxe
          rw [hxe] at hx
          rw [rep_nilsl hx]
          obtain ⟨h, l, h1, h2, hK, hrun⟩ := key none 0 0 _ h
          obtain rfl : h = 0 := by omega
          obtain rfl : l = 0 := by omega
          rw [hrun]
          exact GoodV.mk hd hh .nilsl hK
        · exact h.elim
      · exact h.elim
    · rename_i hk
      split at h
      · rename_i s hxe
        rw [hxe] at hx
        rw [rep_str hx]
        obtain ⟨h', l, h1, h2, hK', hr⟩ := bounds_run (P := P) (isS := false) (len := s.size) (cap := s.size) hev h
        have e1 : (Instr.sliceAt t (.string s) (lo.map ρ) (hi.map ρ) none).run P w = .ok (.string (s.extract l h')) w := by
          have : (Option.isSome (none : Option Value) = true) = False := by simp
          simp only [Instr.sliceAt, Sem.run_bind, f.und, kind_str f hk, Result.andThen_ok, Instr.slice, this, if_false, hr, Sem.run_pure]
        rw [e1]
        exact GoodV.mk hd hh (.str _) hK'
      · exact h.elim
    · exact h.elim
  · exact h.elim
theorem op_extract (hd : Disj H F) (hh : Held W (hun H F) w) (hev : ∀ x, Rep W (ev x) (ρ x)) {x : Operand} {i : Nat} (h : vcOp T (.extract x i) ev H K) : GoodV W F K ((Instr.extract (ρ x) i).run P w) := by
  simp only [vcOp] at h
  have hx := hev x
  split at h
  · rename_i cs hxe
    rw [hxe] at hx
    generalize ρ x = v at hx ⊢
    cases hx with
    | tuple _ vs hl hr =>
      obtain ⟨c, hc, hK⟩ := h
      have hi : i < vs.size := by rw [← hl]; exact (List.getElem?_eq_some_iff.1 hc).1
      simp only [Instr.extract, Array.getElem?_eq_getElem hi, Sem.run_pure]
      exact GoodV.mk hd hh (hr i c _ hc (Array.getElem?_eq_getElem hi)) hK
  · exact h.elim
theorem op_nilCheck (hd : Disj H F) (hh : Held W (hun H F) w) (hev : ∀ x, Rep W (ev x) (ρ x)) {x : Operand} (h : vcOp T (.nilCheck x) ev H K) {o : Oper} (ho : o.op = .nilCheck x) : GoodN W F K ((execOp ρ o).run P w) := by
  simp only [vcOp] at h
  have hx := hev x
  split at h
  · rename_i r q e
    rw [e] at hx
    have := rep_ptr hx
    simp only [execOp, ho, this]
    exact good_value hd hh (.ptr r q) h
  · rename_i cs e
    rw [e] at hx
    simp only [execOp, ho]
    generalize ρ x = v at hx ⊢
    have hx' := hx
    cases hx with
    | iptr _ ad vs hc hr => exact good_value hd hh hx' h
  · rename_i g a b e
    rw [e] at hx
    simp only [execOp, ho]
    generalize ρ x = v at hx ⊢
    have hx' := hx
    cases hx with
    | func fn f c fv cv hf hc hfr hcr => exact good_value hd hh hx' h
  · exact h.elim
theorem op_unOp (hd : Disj H F) (hh : Held W (hun H F) w) (hev : ∀ x, Rep W (ev x) (ρ x)) {op : UnOp} {t : TypeId} {x : Operand} (h : vcOp T (.unOp op t x) ev H K) : GoodV W F K ((Op.unary op (ρ x)).run P w) := by
  simp only [vcOp] at h
  split at h
  · rename_i b e
    rw [ev_bool hev e]
    exact GoodV.mk hd hh (.bool _) h
  · rename_i k n e
    rw [ev_int hev e]
    obtain ⟨z, hz, hK⟩ := h
    simp only [Op.unary, Op.intArith, Sem.run_pure, hz]
    exact GoodV.mk hd hh (.int k z) hK
  · exact h.elim
theorem op_convert (hT : TabOk P T) (hd : Disj H F) (hh : Held W (hun H F) w) (hev : ∀ x, Rep W (ev x) (ρ x)) {s d : TypeId} {x : Operand} (h : vcOp T (.convert s d x) ev H K) : GoodV W F K ((convert s d (ρ x)).run P w) := by
  simp only [vcOp] at h
  split at h
  · rename_i ts td k0 n hs hdd e
    obtain ⟨fs⟩ := tfact hT hs
    obtain ⟨fd⟩ := tfact hT hdd
    rw [ev_int hev e]
    split at h
    · rename_i k hk
      obtain ⟨z, hz, hK⟩ := h
      simp only [convert, Sem.run_bind, fs.und, fd.und, Result.andThen_ok, kind_int fd hk, Conv.intToInt, Sem.run_pure, hz]
      exact GoodV.mk hd hh (.int k z) hK
    · exact h.elim
  · exact h.elim
theorem op_makeInterface (hT : TabOk P T) (hd : Disj H F) (hh : Held W (hun H F) w) (hev : ∀ x, Rep W (ev x) (ρ x)) {t : TypeId} {x : Operand} (h : vcOp T (.makeInterface t x) ev H K) : GoodV W F K ((Instr.makeInterface t (ρ x)).run P w) := by
  simp only [vcOp] at h
  split at h
  · rename_i ti ht
    obtain ⟨f⟩ := tfact hT ht
    obtain ⟨hk, hK⟩ := h
    have hn := kind_not_ifc f hk
    have : (Instr.makeInterface t (ρ x)).run P w = .ok (.iface t (ρ x)) w := by
      simp only [Instr.makeInterface, Sem.run_bind, f.und, Result.andThen_ok]
      cases hq : f.d <;> first | rfl | exact absurd hq (hn _)
    rw [this]
    exact GoodV.mk hd hh (.iface t _ _ (hev x)) hK
  · exact h.elim
theorem op_makeFunc (hd : Disj H F) (hh : Held W (hun H F) w) (hev : ∀ x, Rep W (ev x) (ρ x)) {fn : Fn} {a b : Array Operand} (h : vcOp T (.makeFunc fn a b) ev H K) : GoodV W F K ((Instr.makeFunc fn (a.map ρ) (b.map ρ)).run P w) := by
  have key : ∀ (q : Array Operand) (i : Nat) x v, (q.toList.map ev)[i]? = some x → (q.map ρ)[i]? = some v → Rep W x v := by
    intro q i x v hx hv
    simp only [List.getElem?_map, Array.getElem?_map, Array.getElem?_toList] at hx hv
    cases hq : q[i]? with
    | none => simp [hq] at hx
    | some o => simp only [hq, Option.map_some, Option.some.injEq] at hx hv; subst hx; subst hv; exact hev o
  exact GoodV.mk hd hh (.func fn _ _ _ _ (by simp) (by simp) (key a) (key b)) h
theorem run_eqGuard {op : BinOp} {t : TypeId} {x y : Operand} {a b : Value} (ha : a ≠ .nilIface ∨ b ≠ .nilIface) (hb : (∀ cs, a ≠ .agg cs) ∨ (∀ cs, b ≠ .agg cs)) (w : World) : (eqGuard op t x y a b).run P w = .ok () w := by
  unfold eqGuard
  rw [Sem.run_ite]
  split
  all_goals first
    | rfl
    | (simp only [Bool.not_true, Bool.false_eq_true, if_false]
       split
       · rcases ha with ha | ha <;> exact absurd rfl ha
       · rcases hb with hb | hb
         · exact absurd rfl (hb _)
         · exact absurd rfl (hb _)
       · rfl)
theorem good_int {op : BinOp} {k k' : IntKind} {a b : Int} {t : TypeId} (hd : Disj H F) (hh : Held W (hun H F) w) (h1 : isShift op = true ∨ k = k') (h : vcInt op k a b fun c => K c H) :
    GoodV W F K ((binOp op t (.int k a) (.int k' b)).run P w) := by
  cases op <;> simp only [isShift, Bool.false_eq_true, false_or, true_or] at h1 <;> first
    | (subst h1; obtain ⟨z, hz, hK⟩ := h; simp only [binOp, ne_eq, not_true_eq_false, if_false, Op.intArith, Op.intBits, Sem.run_pure, hz]; exact GoodV.mk hd hh (.int _ _) hK)
    | (subst h1; obtain ⟨hb, z, hz, hK⟩ := h; simp only [binOp, ne_eq, not_true_eq_false, if_false, Op.intDiv, hb, Sem.run_pure, hz]; exact GoodV.mk hd hh (.int _ _) hK)
    | (obtain ⟨hb, hK⟩ := h; simp only [binOp, Op.shift, if_neg (show ¬ b < 0 by omega), Sem.run_pure]; exact GoodV.mk hd hh (.int _ _) hK)
    | (subst h1; simp only [binOp, ne_eq, not_true_eq_false, if_false, Op.intArith, Op.intBits, Sem.run_pure]; exact GoodV.mk hd hh (.int _ _) h)
    | (subst h1; simp only [binOp, ne_eq, not_true_eq_false, if_false, Op.intCmp, Sem.run_pure]; exact GoodV.mk hd hh (.bool _) h)
    | exact h.elim
theorem max_depth : Op.maxDepth = 9999 + 1 := rfl
theorem run_equalIn_bool (hT : TabOk P T) {t : TypeId} {ti : TI} (ht : T t = some ti) (hk : ti.kind = .bool) (d : Nat) (a b : Bool) (w : World) : (Op.equalIn (d + 1) t (.bool a) (.bool b)).run P w = .ok (a == b) w := by
  obtain ⟨f⟩ := tfact hT ht
  simp only [Op.equalIn, Sem.run_bind, f.und, kind_bool f hk, Result.andThen_ok, Sem.run_pure]
theorem run_equal_bool (hT : TabOk P T) {t : TypeId} {ti : TI} (ht : T t = some ti) (hk : ti.kind = .bool) (a b : Bool) (w : World) : (Op.equal t (.bool a) (.bool b)).run P w = .ok (a == b) w := by
  unfold Op.equal
  rw [max_depth]
  exact run_equalIn_bool hT ht hk 9999 a b w
theorem run_equalIn_slice (hT : TabOk P T) {t : TypeId} {ti : TI} (ht : T t = some ti) {e : TypeId} (hk : ti.kind = .slice e) (d : Nat) (A : Option Addr) (n c m q : Nat) (w : World) : (Op.equalIn (d + 1) t (.slice A n c) (.slice none m q)).run P w = .ok A.isNone w := by
  obtain ⟨f⟩ := tfact hT ht
  cases A <;> simp [Op.equalIn, f.und, kind_slice f hk]
theorem run_equal_slice (hT : TabOk P T) {t : TypeId} {ti : TI} (ht : T t = some ti) {e : TypeId} (hk : ti.kind = .slice e) (A : Option Addr) (n c m q : Nat) (w : World) : (Op.equal t (.slice A n c) (.slice none m q)).run P w = .ok A.isNone w := by
  unfold Op.equal
  rw [max_depth]
  exact run_equalIn_slice hT ht hk 9999 A n c m q w
theorem op_binOp (hT : TabOk P T) (hd : Disj H F) (hh : Held W (hun H F) w) (hev : ∀ x, Rep W (ev x) (ρ x)) {op : BinOp} {t t' : TypeId} {x y : Operand} (h : vcOp T (.binOp op t x y t') ev H K) :
    GoodV W F K ((do eqGuard op t x y (ρ x) (ρ y); binOp op t (ρ x) (ρ y) : Sem Value).run P w) := by
  simp only [vcOp, vcBin] at h
  have hx := hev x
  have hy := hev y
  split at h
  · rename_i k a k' b e1 e2
    rw [ev_int hev e1, ev_int hev e2, Sem.run_bind, run_eqGuard (.inl (by simp)) (.inl (by simp))]
    exact good_int hd hh h.1 h.2
  · rename_i a b e1 e2
    obtain ⟨⟨ti, ht, hk⟩, h⟩ := h
    rw [ev_bool hev e1, ev_bool hev e2, Sem.run_bind, run_eqGuard (.inl (by simp)) (.inl (by simp))]
    simp only [Result.andThen_ok]
    split at h
    · simp only [binOp, Sem.run_bind, run_equal_bool hT ht hk, Result.andThen_ok, Sem.run_pure]
      exact GoodV.mk hd hh (.bool _) h
    · simp only [binOp, Sem.run_bind, run_equal_bool hT ht hk, Result.andThen_ok, Sem.run_pure]
      exact GoodV.mk hd hh (.bool _) h
    · exact h.elim
  · rename_i a b e1 e2
    rw [e1] at hx
    rw [e2] at hy
    rw [rep_str hx, rep_str hy, Sem.run_bind, run_eqGuard (.inl (by simp)) (.inl (by simp))]
    simp only [Result.andThen_ok]
    split at h
    · exact GoodV.mk hd hh (.bool _) h
    · exact GoodV.mk hd hh (.bool _) h
    · exact h.elim
  · rename_i r o n c e1 e2
    obtain ⟨⟨ti, e, ht, hk⟩, h⟩ := h
    rw [e1] at hx
    rw [e2] at hy
    rw [rep_ref hx, rep_nilsl hy, Sem.run_bind, run_eqGuard (.inl (by simp)) (.inl (by simp))]
    simp only [Result.andThen_ok]
    split at h
    · simp only [binOp, Sem.run_bind, run_equal_slice hT ht hk, Result.andThen_ok, Sem.run_pure]
      exact GoodV.mk hd hh (.bool _) h
    · simp only [binOp, Sem.run_bind, run_equal_slice hT ht hk, Result.andThen_ok, Sem.run_pure]
      exact GoodV.mk hd hh (.bool _) h
    · exact h.elim
  · rename_i e1 e2
    obtain ⟨⟨ti, e, ht, hk⟩, h⟩ := h
    rw [e1] at hx
    rw [e2] at hy
    rw [rep_nilsl hx, rep_nilsl hy, Sem.run_bind, run_eqGuard (.inl (by simp)) (.inl (by simp))]
    simp only [Result.andThen_ok]
    split at h
    · simp only [binOp, Sem.run_bind, run_equal_slice hT ht hk, Result.andThen_ok, Sem.run_pure]
      exact GoodV.mk hd hh (.bool _) h
    · simp only [binOp, Sem.run_bind, run_equal_slice hT ht hk, Result.andThen_ok, Sem.run_pure]
      exact GoodV.mk hd hh (.bool _) h
    · exact h.elim
  · rename_i sz xs e1 e2
    obtain ⟨hlen, ⟨ti, e, ht, hk⟩, h⟩ := h
    rw [e1] at hx
    rw [e2] at hy
    rw [rep_nilsl hy]
    generalize ρ x = v at hx ⊢
    cases hx with
    | sl _ _ A c vs hn hz hc hA hr =>
      obtain ⟨ad, rfl⟩ := hA hlen
      rw [Sem.run_bind, run_eqGuard (.inl (by simp)) (.inl (by simp))]
      simp only [Result.andThen_ok]
      split at h
      · simp only [binOp, Sem.run_bind, run_equal_slice hT ht hk, Result.andThen_ok, Sem.run_pure]
        exact GoodV.mk hd hh (.bool _) h
      · simp only [binOp, Sem.run_bind, run_equal_slice hT ht hk, Result.andThen_ok, Sem.run_pure]
        exact GoodV.mk hd hh (.bool _) h
      · exact h.elim
  · exact h.elim
/-- **An operation, clean, is the machine's.** -/
theorem op_sound (hT : TabOk P T) (hd : Disj H F) (hh : Held W (hun H F) w) (hev : ∀ x, Rep W (ev x) (ρ x)) (o : Oper) (h : vcOp T o.op ev H K) : GoodN W F K ((execOp ρ o).run P w) := by
  cases ho : o.op with
  | move x => rw [ho] at h; simp only [execOp, ho]; exact good_value hd hh (hev x) h
  | assign x => rw [ho] at h; simp only [execOp, ho]; exact good_value hd hh (hev x) h
  | pick c a b =>
    rw [ho] at h
    simp only [vcOp] at h
    split at h
    · rename_i t e
      simp only [execOp, ho, ev_bool hev e, asBool]
      have h := splitB_elim h
      cases t
      · exact good_value hd hh (hev b) h
      · exact good_value hd hh (hev a) h
    · exact h.elim
  | alloc e => rw [ho] at h; simp only [execOp, ho]; exact (op_alloc hT hd hh h).next
  | box e x => rw [ho] at h; simp only [execOp, ho]; exact (op_box hd hh hev h).next
  | build t ps => rw [ho] at h; simp only [execOp, ho]; exact (op_build hT hd hh hev h).next
  | buildSlice t n ps => rw [ho] at h; simp only [execOp, ho]; exact (op_buildSlice hT hd hh hev h).next
  | load t a => rw [ho] at h; simp only [execOp, ho]; exact (op_load hT hd hh hev h).next
  | store t a v => rw [ho] at h; simp only [execOp, ho]; exact op_store hT hd hh hev h
  | nilCheck x => rw [ho] at h; exact op_nilCheck hd hh hev h ho
  | binOp op t x y t' => rw [ho] at h; simp only [execOp, ho]; exact (op_binOp hT hd hh hev h).next
  | unOp op t x => rw [ho] at h; simp only [execOp, ho]; exact (op_unOp hd hh hev h).next
  | convert s d x => rw [ho] at h; simp only [execOp, ho]; exact (op_convert hT hd hh hev h).next
  | makeInterface t x => rw [ho] at h; simp only [execOp, ho]; exact (op_makeInterface hT hd hh hev h).next
  | makeFunc fn a b => rw [ho] at h; simp only [execOp, ho]; exact (op_makeFunc hd hh hev h).next
  | makeSlice t l c => rw [ho] at h; simp only [execOp, ho]; exact (op_makeSlice hT hd hh hev h).next
  | slice t x lo hi mx =>
    rw [ho] at h
    cases mx with
    | some m =>
      cases lo with
      | some l => cases hi <;> exact h.elim
      | none =>
        cases hi with
        | none => exact h.elim
        | some hi => simp only [execOp, ho]; exact (op_slice3 hT hd hh hev h).next
    | none => simp only [execOp, ho]; exact (op_slice hT hd hh hev h).next
  | fieldAddr t x i => rw [ho] at h; simp only [execOp, ho]; exact (op_fieldAddr hT hd hh hev h).next
  | field t x i => rw [ho] at h; simp only [execOp, ho]; exact (op_field hT hd hh hev h).next
  | indexAddr t x i => rw [ho] at h; simp only [execOp, ho]; exact (op_indexAddr hT hd hh hev h).next
  | index t x i => rw [ho] at h; simp only [execOp, ho]; exact (op_index hT hd hh hev h).next
  | extract x i => rw [ho] at h; simp only [execOp, ho]; exact (op_extract hd hh hev h).next
  | _ => rw [ho] at h; exact h.elim
end
end Go.Cl
