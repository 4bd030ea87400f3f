/- DERIVED HERE. The clean layer's operations are the machine's. -/
import Derived.Test.YtfkdjajpopocpaaDoorCl3
set_option linter.unusedSimpArgs false
set_option linter.unusedVariables false
namespace Go.Cl
open Go.RowKit
section
variable {P : Program} {T : Tab} {W : World} {H F : Hp} {w : World} {K : CV → Hp → Prop} {ρ : Operand → Value} {ev : Operand → CV}

theorem kind_slice {t : TypeId} {ti : TI} (f : TFact P t ti) {e : TypeId} (h : ti.kind = .slice e) : f.d = .slice e := by
  have hk := f.hk; rw [h] at hk; cases hd : f.d <;> rw [hd] at hk <;> simp [kindB] at hk; rw [hk]
theorem kind_arr {t : TypeId} {ti : TI} (f : TFact P t ti) {n : Nat} {e : TypeId} (h : ti.kind = .arr n e) : f.d = .array n e := by
  have hk := f.hk; rw [h] at hk; cases hd : f.d <;> rw [hd] at hk <;> simp [kindB] at hk; rw [hk.1, hk.2]
theorem kind_int {t : TypeId} {ti : TI} (f : TFact P t ti) {k : IntKind} (h : ti.kind = .int k) : f.d = .int k := by
  have hk := f.hk; rw [h] at hk; cases hd : f.d <;> rw [hd] at hk <;> simp [kindB] at hk; rw [hk]
theorem kind_bool {t : TypeId} {ti : TI} (f : TFact P t ti) (h : ti.kind = .bool) : f.d = .bool := by
  have hk := f.hk; rw [h] at hk; cases hd : f.d <;> rw [hd] at hk <;> simp [kindB] at hk
theorem kind_str {t : TypeId} {ti : TI} (f : TFact P t ti) (h : ti.kind = .str) : f.d = .string := by
  have hk := f.hk; rw [h] at hk; cases hd : f.d <;> rw [hd] at hk <;> simp [kindB] at hk
theorem kind_struct {t : TypeId} {ti : TI} (f : TFact P t ti) {fs : List (Nat × Nat × Bool)} (h : ti.kind = .struct fs) : ∃ gs, f.d = .struct gs ∧ flds P gs.toList = some fs := by
  have hk := f.hk; rw [h] at hk; cases hd : f.d <;> rw [hd] at hk <;> simp [kindB] at hk; exact ⟨_, rfl, hk⟩
theorem kind_not_ifc {t : TypeId} {ti : TI} (f : TFact P t ti) (h : ti.kind ≠ .ifc) : ∀ ms, f.d ≠ .interface ms := by
  intro ms hd
  have hk := f.hk
  rw [hd] at hk
  cases hq : ti.kind <;> rw [hq] at hk <;> simp [kindB] at hk
  exact h hq
theorem flds_at : ∀ {gs : List Field} {fs : List (Nat × Nat × Bool)}, flds P gs = some fs → gs.length = fs.length ∧ ∀ (i : Nat) x, fs[i]? = some x → ∃ g, gs[i]? = some g ∧ g.offset = x.1 ∧ (∃ inf, P.info? g.type = some inf ∧ inf.size = x.2.1) ∧ ∃ d, P.underlying g.type = some d ∧ aggD (some d) = x.2.2
  | [], fs, h => by simp [flds] at h; subst h; exact ⟨rfl, fun i x hx => by simp at hx⟩
  | g :: gs, fs, h => by
    unfold flds at h
    split at h
    · rename_i i d l hi hd hl
      injection h with h
      subst h
      obtain ⟨h1, h2⟩ := flds_at hl
      refine ⟨by simp [h1], fun k x hx => ?_⟩
      cases k with
      | zero => simp at hx; subst hx; exact ⟨g, rfl, rfl, ⟨i, hi, rfl⟩, d, hd, rfl⟩
      | succ k => simp at hx; obtain ⟨g', hg, hr⟩ := h2 k x hx; exact ⟨g', by simpa using hg, hr⟩
    · cases h
/-- The places of a struct's fields, as build asks them. -/
theorem run_places : ∀ {gs : List Field} {fs : List (Nat × Nat × Bool)}, flds P gs = some fs → ∀ w : World, (gs.mapM fun f => do pure (f.offset, ← sizeOf f.type) : Sem (List (Nat × Nat))).run P w = .ok (fs.map fun f => (f.1, f.2.1)) w
  | [], fs, h, w => by simp [flds] at h; subst h; rfl
  | g :: gs, fs, h, w => by
    unfold flds at h
    split at h
    · rename_i i d l hi hd hl
      injection h with h
      subst h
      have ih := run_places hl w
      rw [List.mapM_cons]
      simp only [Sem.run_bind, sizeOf, typeInfo, run_program, Result.andThen_ok, hi, Sem.run_pure, List.map_cons]
      simp only [sizeOf, typeInfo] at ih
      rw [ih]
      rfl
    · cases h
theorem good_value {v : Value} {c : CV} (hd : Disj H F) (hh : Held W (hun H F) w) (hr : Rep W c v) (h : K c H) : GoodN W F K (.ok (.value v) w) := ⟨_, w, c, H, rfl, .inl ⟨v, rfl, hr⟩, hd, hh, h⟩

theorem rep_int {k : IntKind} {n : Int} {v : Value} (h : Rep W (.int k n) v) : v = .int k n := by cases h; rfl
theorem rep_bool {b : Bool} {v : Value} (h : Rep W (.bool b) v) : v = .bool b := by cases h; rfl
theorem rep_str {s : ByteArray} {v : Value} (h : Rep W (.str s) v) : v = .string s := by cases h; rfl
theorem rep_ptr {r o : Nat} {v : Value} (h : Rep W (.ptr r o) v) : v = .pointer (some ⟨r, o, none⟩) := by cases h; rfl
theorem rep_ref {r o n c : Nat} {v : Value} (h : Rep W (.ref r o n c) v) : v = .slice (some ⟨r, o, none⟩) n c := by cases h; rfl
theorem rep_nilsl {v : Value} (h : Rep W .nilsl v) : v = .slice none 0 0 := by cases h; rfl
theorem op_alloc (hT : TabOk P T) (hd : Disj H F) (hh : Held W (hun H F) w) {e : TypeId} (h : vcOp T (.alloc e) ev H K) : GoodV W F K ((Instr.alloc e true (.tuple #[])).run P w) := by
  simp only [vcOp] at h
  split at h
  · rename_i ti ht
    obtain ⟨f⟩ := tfact hT ht
    have hrep := f.rep W
    simp only [Instr.alloc, Sem.run_bind, f.zerov, Result.andThen_ok, newVar, newRow, run_newObj, Sem.run_pure]
    exact good_new hd hh hrep (mk := fun r => .pointer (some ⟨r, 0, none⟩)) (mc := fun r => .ptr r 0) (fun r => .ptr r 0) h
  · exact h.elim
theorem op_box (hd : Disj H F) (hh : Held W (hun H F) w) (hev : ∀ x, Rep W (ev x) (ρ x)) {e : TypeId} {x : Operand} (h : vcOp T (.box e x) ev H K) : GoodV W F K ((Instr.box e (ρ x)).run P w) := by
  obtain ⟨h1, h2⟩ := h
  simp only [Instr.box, Sem.run_bind, newVar, newRow, run_newObj, Result.andThen_ok, Sem.run_pure]
  exact good_new hd hh ((hev x).cells h1) (mk := fun r => .pointer (some ⟨r, 0, none⟩)) (mc := fun r => .ptr r 0) (fun r => .ptr r 0) h2
theorem parts_rep (hev : ∀ x, Rep W (ev x) (ρ x)) (parts : Array (Nat × Operand)) : ∀ (i : Nat) p v, (parts.toList.map fun p => (p.1, ev p.2))[i]? = some p → ((parts.map fun (i, x) => (i, ρ x)).toList)[i]? = some v → p.1 = v.1 ∧ Rep W p.2 v.2 := by
  intro i p v hp hv
  simp only [Array.toList_map, List.getElem?_map] at hp hv
  cases hq : parts.toList[i]? with
  | none => simp [hq] at hp
  | some q =>
    simp only [hq, Option.map_some, Option.some.injEq] at hp hv
    subst hp; subst hv
    exact ⟨rfl, hev _⟩
theorem op_build (hT : TabOk P T) (hd : Disj H F) (hh : Held W (hun H F) w) (hev : ∀ x, Rep W (ev x) (ρ x)) {t : TypeId} {parts : Array (Nat × Operand)} (h : vcOp T (.build t parts) ev H K) :
    GoodV W F K ((Instr.build t (parts.map fun (i, x) => (i, ρ x))).run P w) := by
  simp only [vcOp] at h
  split at h
  · rename_i ti ht
    obtain ⟨f⟩ := tfact hT ht
    have hrep := f.rep W
    split at h
    · rename_i fs hk
      obtain ⟨gs, hgd, hgf⟩ := kind_struct f hk
      obtain ⟨cs, hc, hK⟩ := h
      have hpl : ∀ w : World, (gs.mapM fun f => do pure (f.offset, ← sizeOf f.type) : Sem (Array (Nat × Nat))).run P w = .ok (fs.map fun f => (f.1, f.2.1)).toArray w := by
        intro w
        rw [Array.mapM_eq_mapM_toList, Sem.run_map, run_places hgf w]
        rfl
      have hplace : (fun (i : Nat) => (fs[i]?).map fun (f : Nat × Nat × Bool) => (f.1, f.2.1)) = fun i => ((fs.map fun (f : Nat × Nat × Bool) => (f.1, f.2.1)).toArray)[i]? := by
        funext i; simp
      rw [hplace] at hc
      obtain ⟨out, ho, hor⟩ := fill_sound (vs := (parts.map fun (i, x) => (i, ρ x)).toList) hc (by simp) (parts_rep hev parts) hrep
      simp only [Instr.build, Sem.run_bind, f.zerov, Result.andThen_ok, f.und, hgd]
      rw [hpl]
      simp only [Result.andThen_ok, ho, Sem.run_pure]
      exact GoodV.mk hd hh (Rep.mkagg hor) hK
    · rename_i n e hk
      split at h
      · rename_i te hte
        obtain ⟨fe⟩ := tfact hT hte
        obtain ⟨cs, hc, hK⟩ := h
        obtain ⟨out, ho, hor⟩ := fill_sound (vs := (parts.map fun (i, x) => (i, ρ x)).toList) hc (by simp) (parts_rep hev parts) hrep
        simp only [Instr.build, Sem.run_bind, f.zerov, Result.andThen_ok, f.und, kind_arr f hk, fe.size, ho, Sem.run_pure]
        exact GoodV.mk hd hh (Rep.mkagg hor) hK
      · exact h.elim
    · exact h.elim
  · exact h.elim
theorem rep_zeroCs (W : World) {t : TypeId} {ti : TI} (f : TFact P t ti) (n : Nat) : RepC W (zeroCs ti.zero n) ((Array.range n).map (f.z.cells[· % f.z.cells.size]!)).toList := by
  have hl : f.z.cells.size = ti.zero.length := by have := congrArg List.length f.hzc; simpa using this
  have hpos : 0 < ti.zero.length := by rw [f.hl]; exact Nat.pos_of_ne_zero f.h0
  have key : ∀ i, ∃ z, ti.zero[i % ti.zero.length]? = some z ∧ ((ti.zero.map TZ.cv).getD (i % ti.zero.length) .any) = z.cv ∧ (f.z.cells[i % f.z.cells.size]!) = z.val := by
    intro i
    have hi : i % ti.zero.length < ti.zero.length := Nat.mod_lt _ hpos
    refine ⟨ti.zero[i % ti.zero.length], List.getElem?_eq_getElem hi, by simp [List.getD_eq_getElem?_getD, hi], ?_⟩
    have hi' : i % f.z.cells.size < f.z.cells.size := by rw [hl]; exact hi
    rw [getElem!_pos f.z.cells _ hi']
    have : f.z.cells.toList[i % f.z.cells.size]? = some (f.z.cells[i % f.z.cells.size]) := by simp [hi']
    rw [f.hzc, List.getElem?_map] at this
    have h3 : ti.zero[i % f.z.cells.size]? = some ti.zero[i % ti.zero.length] := by rw [show i % f.z.cells.size = i % ti.zero.length by rw [hl]]; exact List.getElem?_eq_getElem hi
    rw [h3] at this
    simpa using this.symm
  refine ⟨⟨by simp [zeroCs], fun i x v hx hv => ?_⟩, fun i v hv => ?_⟩
  · simp only [zeroCs, List.getElem?_map, List.getElem?_range] at hx
    simp only [Array.toList_map, Array.toList_range, List.getElem?_map] at hv
    by_cases hi : i < n
    · simp only [List.getElem?_range hi, Option.map_some, Option.some.injEq] at hx hv
      obtain ⟨z, _, h1, h2⟩ := key i
      rw [h1] at hx; rw [h2] at hv
      subst hx; subst hv
      exact z.rep W
    · simp [hi] at hx
  · simp only [Array.toList_map, Array.toList_range, List.getElem?_map] at hv
    by_cases hi : i < n
    · simp only [List.getElem?_range hi, Option.map_some, Option.some.injEq] at hv
      obtain ⟨z, _, h1, h2⟩ := key i
      rw [h2] at hv
      subst hv
      exact z.oneCell
    · simp [hi] at hv
theorem op_buildSlice (hT : TabOk P T) (hd : Disj H F) (hh : Held W (hun H F) w) (hev : ∀ x, Rep W (ev x) (ρ x)) {t : TypeId} {len : Nat} {parts : Array (Nat × Operand)} (h : vcOp T (.buildSlice t len parts) ev H K) :
    GoodV W F K ((Instr.buildSlice t len (parts.map fun (i, x) => (i, ρ x))).run P w) := by
  simp only [vcOp] at h
  split at h
  · rename_i ti ht
    obtain ⟨f⟩ := tfact hT ht
    split at h
    · rename_i e hk
      split at h
      · rename_i te hte
        obtain ⟨fe⟩ := tfact hT hte
        obtain ⟨hn, cs, hc, hK⟩ := h
        have hz := rep_zeroCs W fe (len * te.size)
        have hz2 : ∀ w : World, ((if len * te.size = 0 then pure #[] else do pure (← zeroValue e).cells : Sem (Array Value)).run P w).andThen (fun z w => .ok ((Array.range (len * te.size)).map (z[· % z.size]!)) w) = .ok ((Array.range (len * te.size)).map (fe.z.cells[· % fe.z.cells.size]!)) w := by
          intro w
          by_cases h0 : len * te.size = 0
          · simp [h0]
          · simp [h0, fe.zerov]
        obtain ⟨out, ho, hor⟩ := fill_sound (vs := (parts.map fun (i, x) => (i, ρ x)).toList) hc (by simp) (parts_rep hev parts) hz
        have hle : ¬ (len * te.size > 2 ^ 24) := by omega
        have e1 : (Instr.buildSlice t len (parts.map fun (i, x) => (i, ρ x))).run P w = .ok (.slice (some ⟨w.heap.size, 0, none⟩) len len) (w.alloc (.cells out e)) := by
          by_cases h0 : len * te.size = 0
          · have e0 : ∀ g g' : Nat → Value, (Array.range (len * te.size)).map g = (Array.range (len * te.size)).map g' := by intro g g'; rw [h0]; apply Array.ext <;> simp
            rw [e0 _ (fun i => (#[] : Array Value)[i % (#[] : Array Value).size]!)] at ho
            simp only [Instr.buildSlice, Sem.run_bind, f.und, kind_slice f hk, Result.andThen_ok, fe.size, Sem.run_ite, if_neg hle, if_pos h0, Sem.run_pure, ho, newRow, run_newObj]
            rfl
          · simp only [Instr.buildSlice, Sem.run_bind, f.und, kind_slice f hk, Result.andThen_ok, fe.size, Sem.run_ite, if_neg hle, if_neg h0, fe.zerov, Sem.run_pure, ho, newRow, run_newObj]
            rfl
        rw [e1]
        exact good_new hd hh hor (mk := fun r => .slice (some ⟨r, 0, none⟩) len len) (mc := fun r => .ref r 0 len len) (fun r => .ref r 0 len len) hK
      · exact h.elim
    · exact h.elim
  · exact h.elim
theorem op_makeSlice (hT : TabOk P T) (hd : Disj H F) (hh : Held W (hun H F) w) (hev : ∀ x, Rep W (ev x) (ρ x)) {t : TypeId} {l c : Operand} (h : vcOp T (.makeSlice t l c) ev H K) :
    GoodV W F K ((Instr.makeSlice t (ρ l) (ρ c)).run P w) := by
  simp only [vcOp] at h
  split at h
  · rename_i ti ht
    obtain ⟨f⟩ := tfact hT ht
    split at h
    · rename_i e hk
      split at h
      · rename_i te hte
        obtain ⟨fe⟩ := tfact hT hte
        split at h
        · rename_i kl n kc m hl hc
          obtain ⟨h1, h2, h3, h4, hK⟩ := h
          have el : ρ l = .int kl n := rep_int (by rw [← hl]; exact hev l)
          have ec : ρ c = .int kc m := rep_int (by rw [← hc]; exact hev c)
          obtain ⟨n, rfl⟩ := Int.eq_ofNat_of_zero_le h1
          obtain ⟨m, rfl⟩ := Int.eq_ofNat_of_zero_le (by omega : 0 ≤ m)
          have wn : IntKind.i64.wrap (n : Int) = n := by simp [IntKind.wrap, IntKind.bits, IntKind.signed]; omega
          have wm : IntKind.i64.wrap (m : Int) = m := by simp [IntKind.wrap, IntKind.bits, IntKind.signed]; omega
          have t1 : (decide ((m : Int) < 0) || decide ((te.bytes : Int) * (m : Int) > 2 ^ 48)) = false := by
            rw [Int.mul_comm]; simp; omega
          have hz := rep_zeroCs W fe (m * te.size)
          have e1 : (Instr.makeSlice t (ρ l) (ρ c)).run P w = .ok (.slice (some ⟨w.heap.size, 0, none⟩) n m) (w.alloc (.cells ((Array.range (m * te.size)).map (fe.z.cells[· % fe.z.cells.size]!)) e)) := by
            have hcond : ((decide ((m : Int) < 0) || decide ((te.bytes : Int) * (m : Int) > 2 ^ 48) || decide ((n : Int) < 0) || decide ((n : Int) > (m : Int))) = true) = False := by
              rw [t1]; simp; omega
            by_cases h0 : m * te.size = 0
            · have e0 : ∀ g g' : Nat → Value, (Array.range (m * te.size)).map g = (Array.range (m * te.size)).map g' := by intro g g'; rw [h0]; apply Array.ext <;> simp
              rw [e0 _ (fun i => (#[] : Array Value)[i % (#[] : Array Value).size]!)]
              simp only [Instr.makeSlice, Sem.run_bind, f.und, kind_slice f hk, Result.andThen_ok, el, ec, asInt, asIntOf, typeInfo, run_program, fe.hi, fe.hb, Sem.run_pure, wn, wm, Sem.run_ite, hcond, if_false, run_askRoom, Int.toNat_natCast, fe.size, if_pos h0, newRow, run_newObj]
              rfl
            · simp only [Instr.makeSlice, Sem.run_bind, f.und, kind_slice f hk, Result.andThen_ok, el, ec, asInt, asIntOf, typeInfo, run_program, fe.hi, fe.hb, Sem.run_pure, wn, wm, Sem.run_ite, hcond, if_false, run_askRoom, Int.toNat_natCast, fe.size, if_neg h0, fe.zerov, newRow, run_newObj]
              rfl
          rw [e1]
          exact good_new hd hh hz (mk := fun r => .slice (some ⟨r, 0, none⟩) n m) (mc := fun r => .ref r 0 n m) (fun r => .ref r 0 n m) hK
        · exact h.elim
      · exact h.elim
    · exact h.elim
  · exact h.elim
theorem op_load (hT : TabOk P T) (hd : Disj H F) (hh : Held W (hun H F) w) (hev : ∀ x, Rep W (ev x) (ρ x)) {t : TypeId} {a : Operand} (h : vcOp T (.load t a) ev H K) : GoodV W F K ((Instr.loadAt t (ρ a)).run P w) := by
  simp only [vcOp] at h
  split at h
  · rename_i ti ht
    obtain ⟨f⟩ := tfact hT ht
    have ha := hev a
    split at h
    · rename_i r o e
      rw [e] at ha
      generalize ρ a = v at ha ⊢
      cases ha
      obtain ⟨cs, hc, hK⟩ := h
      exact good_load_ptr f hd hh hc hK
    · rename_i cs e
      rw [e] at ha
      exact good_load_iptr f hd hh ha h
    · exact h.elim
  · exact h.elim
theorem op_store (hT : TabOk P T) (hd : Disj H F) (hh : Held W (hun H F) w) (hev : ∀ x, Rep W (ev x) (ρ x)) {t : TypeId} {a v : Operand} (h : vcOp T (.store t a v) ev H K) :
    GoodN W F K ((do Instr.storeAt t (ρ a) (ρ v); pure Next.skip).run P w) := by
  simp only [vcOp] at h
  split at h
  · rename_i ti ht
    obtain ⟨f⟩ := tfact hT ht
    have ha := hev a
    split at h
    · rename_i r o e
      rw [e] at ha
      generalize ρ a = va at ha ⊢
      cases ha
      obtain ⟨cs, hc, h1, h2, h3, hK⟩ := h
      exact good_store f hd hh hc (hev v) h1 h2 h3 hK
    · exact h.elim
  · exact h.elim
theorem op_fieldAddr (hT : TabOk P T) (hd : Disj H F) (hh : Held W (hun H F) w) (hev : ∀ x, Rep W (ev x) (ρ x)) {t : TypeId} {x : Operand} {i : Nat} (h : vcOp T (.fieldAddr t x i) ev H K) : GoodV W F K ((Instr.fieldAt t (ρ x) i).run P w) := by
  simp only [vcOp] at h
  split at h
  · rename_i ti ht
    obtain ⟨f⟩ := tfact hT ht
    split at h
    · rename_i fs hk
      obtain ⟨gs, hgd, hgf⟩ := kind_struct f hk
      obtain ⟨hl, hat⟩ := flds_at hgf
      split at h
      · rename_i off size ag hfi
        obtain ⟨h0, h⟩ := h
        obtain ⟨g, hg, ho, ⟨inf, hinf, hsz⟩, _⟩ := hat i _ hfi
        have hgi : gs[i]? = some g := by simpa using hg
        have hsize : ∀ w : World, (sizeOf g.type).run P w = .ok size w := by intro w; simp [sizeOf, typeInfo, hinf, hsz]
        have hrun : ∀ ad, (Instr.fieldAt t (.pointer (some ad)) i).run P w = .ok (.pointer (some (ad.add off))) w := by
          intro ad
          simp only [Instr.fieldAt, Sem.run_bind, f.und, Result.andThen_ok, hgd, hgi, Instr.sureAddr, Sem.run_pure, fieldPlace, hsize, if_neg h0, ho]
        have hx := hev x
        split at h
        · rename_i r o e
          rw [e] at hx
          generalize ρ x = v at hx ⊢
          cases hx
          rw [hrun, add_plain]
          exact GoodV.mk hd hh (.ptr r (o + off)) h
        · rename_i cs e
          rw [e] at hx
          generalize ρ x = v at hx ⊢
          cases hx with
          | iptr _ ad vs hc hr =>
            rw [hrun]
            refine GoodV.mk hd hh (.iptr (cs.drop off) (ad.add off) (fun j => vs (off + j)) (fun j hj => ?_) (fun j y hy => ?_)) h
            · rw [add_add]; exact hc _ (by simp at hj; omega)
            · rw [List.getElem?_drop] at hy; exact hr _ y hy
        · exact h.elim
      · exact h.elim
    · exact h.elim
  · exact h.elim
theorem op_field (hT : TabOk P T) (hd : Disj H F) (hh : Held W (hun H F) w) (hev : ∀ x, Rep W (ev x) (ρ x)) {t : TypeId} {x : Operand} {i : Nat} (h : vcOp T (.field t x i) ev H K) : GoodV W F K ((Instr.field t (ρ x) i).run P w) := by
  simp only [vcOp] at h
  split at h
  · rename_i ti ht
    obtain ⟨f⟩ := tfact hT ht
    split at h
    · rename_i fs hk
      obtain ⟨gs, hgd, hgf⟩ := kind_struct f hk
      obtain ⟨hl, hat⟩ := flds_at hgf
      split at h
      · rename_i off size ag hfi
        obtain ⟨g, hg, ho, ⟨inf, hinf, hsz⟩, hag⟩ := hat i _ hfi
        have hgi : gs[i]? = some g := by simpa using hg
        have hsize : ∀ w : World, (sizeOf g.type).run P w = .ok size w := by intro w; simp [sizeOf, typeInfo, hinf, hsz]
        have hx := hev x
        split at h
        · rename_i cs e
          rw [e] at hx
          generalize ρ x = v at hx ⊢
          cases hx with
          | agg _ vs hvl hvo hvr =>
            have hrc : RepC W cs vs.toList := ⟨⟨by simpa using hvl, fun i x v hx hv => hvr i x v hx (by simpa using hv)⟩, fun i v hv => hvo i v (by simpa using hv)⟩
            obtain ⟨d, hdd, hag⟩ := hag
            have hag : aggD (some d) = ag := hag
            have hia : ∀ w : World, (isAgg g.type).run P w = .ok ag w := by
              intro w
              unfold isAgg
              rw [Sem.run_bind, run_underlying hdd]
              rw [← hag]
              cases d <;> rfl
            simp only [Instr.field, Sem.run_bind, f.und, Result.andThen_ok, hgd, hgi, asAgg, Sem.run_pure, part, hia, ho]
            split at h
            · rename_i ha
              obtain ⟨hle, hK⟩ := h
              simp only [ha, if_true, Sem.run_bind, hsize, Result.andThen_ok, Sem.run_pure]
              refine GoodV.mk hd hh (Rep.mkagg ?_) hK
              have := (hrc.drop off).take size
              rw [Array.toList_extract]
              simpa [List.extract_eq_take_drop] using this
            · rename_i ha
              obtain ⟨c, hcs, hK⟩ := h
              have hi : off < vs.size := by rw [← hvl]; exact (List.getElem?_eq_some_iff.1 hcs).1
              simp only [Bool.not_eq_true] at ha
              simp only [ha, Array.getElem?_eq_getElem hi]
              exact GoodV.mk hd hh (hvr off c _ hcs (Array.getElem?_eq_getElem hi)) hK
        · exact h.elim
      · exact h.elim
    · exact h.elim
  · exact h.elim
end
end Go.Cl
