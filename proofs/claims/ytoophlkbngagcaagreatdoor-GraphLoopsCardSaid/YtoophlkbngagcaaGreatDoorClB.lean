/- DERIVED HERE. The clean layer's operations are the machine's. DERIVED HERE. The clean layer's operations, the rest of them; all together: 'op_sound'. DERIVED HERE. The clean layer's builtins: len, cap, append. DERIVED HERE. The clean layer: a region's steps, calls, code ('vc'), a function's contract out of its body. -/
import Derived.Test.YtoophlkbngagcaaGreatDoorClA
import Derived.MapKept
import Derived.Laws.IdiomRangeMap
set_option linter.unusedSimpArgs false
set_option linter.unusedVariables false
namespace Go.Cl
open Go.RowKit
section
variable {P : Program} {T : Tab} {W : World} {H F : Hp} {w : World} {K : CV → Hp → Prop} {ρ : Operand → Value} {ev : Operand → CV}

theorem kind_slice {t : TypeId} {ti : TI} (f : TFact P t ti) {e : TypeId} (h : ti.kind = .slice e) : f.d = .slice e := by
  have hk := f.hk; rw [h] at hk; cases hd : f.d <;> rw [hd] at hk <;> simp [kindB] at hk; rw [hk]
theorem kind_arr {t : TypeId} {ti : TI} (f : TFact P t ti) {n : Nat} {e : TypeId} (h : ti.kind = .arr n e) : f.d = .array n e := by
  have hk := f.hk; rw [h] at hk; cases hd : f.d <;> rw [hd] at hk <;> simp [kindB] at hk; rw [hk.1, hk.2]
theorem kind_int {t : TypeId} {ti : TI} (f : TFact P t ti) {k : IntKind} (h : ti.kind = .int k) : f.d = .int k := by
  have hk := f.hk; rw [h] at hk; cases hd : f.d <;> rw [hd] at hk <;> simp [kindB] at hk; rw [hk]
theorem kind_bool {t : TypeId} {ti : TI} (f : TFact P t ti) (h : ti.kind = .bool) : f.d = .bool := by
  have hk := f.hk; rw [h] at hk; cases hd : f.d <;> rw [hd] at hk <;> simp [kindB] at hk
theorem kind_str {t : TypeId} {ti : TI} (f : TFact P t ti) (h : ti.kind = .str) : f.d = .string := by
  have hk := f.hk; rw [h] at hk; cases hd : f.d <;> rw [hd] at hk <;> simp [kindB] at hk
theorem kind_struct {t : TypeId} {ti : TI} (f : TFact P t ti) {fs : List (Nat × Nat × Bool)} (h : ti.kind = .struct fs) : ∃ gs, f.d = .struct gs ∧ flds P gs.toList = some fs := by
  have hk := f.hk; rw [h] at hk; cases hd : f.d <;> rw [hd] at hk <;> simp [kindB] at hk; exact ⟨_, rfl, hk⟩
theorem kind_not_ifc {t : TypeId} {ti : TI} (f : TFact P t ti) (h : ti.kind ≠ .ifc) : ∀ ms, f.d ≠ .interface ms := by
  intro ms hd
  have hk := f.hk
  rw [hd] at hk
  cases hq : ti.kind <;> rw [hq] at hk <;> simp [kindB] at hk
  exact h hq
theorem flds_at : ∀ {gs : List Field} {fs : List (Nat × Nat × Bool)}, flds P gs = some fs → gs.length = fs.length ∧ ∀ (i : Nat) x, fs[i]? = some x → ∃ g, gs[i]? = some g ∧ g.offset = x.1 ∧ (∃ inf, P.info? g.type = some inf ∧ inf.size = x.2.1) ∧ ∃ d, P.underlying g.type = some d ∧ aggD (some d) = x.2.2
  | [], fs, h => by simp [flds] at h; subst h; exact ⟨rfl, fun i x hx => by simp at hx⟩
  | g :: gs, fs, h => by
    unfold flds at h
    split at h
    · rename_i i d l hi hd hl
      injection h with h
      subst h
      obtain ⟨h1, h2⟩ := flds_at hl
      refine ⟨by simp [h1], fun k x hx => ?_⟩
      cases k with
      | zero => simp at hx; subst hx; exact ⟨g, rfl, rfl, ⟨i, hi, rfl⟩, d, hd, rfl⟩
      | succ k => simp at hx; obtain ⟨g', hg, hr⟩ := h2 k x hx; exact ⟨g', by simpa using hg, hr⟩
    · cases h
/-- The places of a struct's fields, as build asks them. -/
theorem run_places : ∀ {gs : List Field} {fs : List (Nat × Nat × Bool)}, flds P gs = some fs → ∀ w : World, (gs.mapM fun f => do pure (f.offset, ← sizeOf f.type) : Sem (List (Nat × Nat))).run P w = .ok (fs.map fun f => (f.1, f.2.1)) w
  | [], fs, h, w => by simp [flds] at h; subst h; rfl
  | g :: gs, fs, h, w => by
    unfold flds at h
    split at h
    · rename_i i d l hi hd hl
      injection h with h
      subst h
      have ih := run_places hl w
      rw [List.mapM_cons]
      simp only [Sem.run_bind, sizeOf, typeInfo, run_program, Result.andThen_ok, hi, Sem.run_pure, List.map_cons]
      simp only [sizeOf, typeInfo] at ih
      rw [ih]
      rfl
    · cases h
theorem good_value {v : Value} {c : CV} (hd : Disj H F) (hh : Held W (hun H F) w) (hr : Rep W c v) (h : K c H) : GoodN W F K (.ok (.value v) w) := ⟨_, w, c, H, rfl, .inl ⟨v, rfl, hr⟩, hd, hh, h⟩

theorem rep_int {k : IntKind} {n : Int} {v : Value} (h : Rep W (.int k n) v) : v = .int k n := by cases h; rfl
theorem rep_bool {b : Bool} {v : Value} (h : Rep W (.bool b) v) : v = .bool b := by cases h; rfl
theorem rep_str {s : ByteArray} {v : Value} (h : Rep W (.str s) v) : v = .string s := by cases h; rfl
theorem rep_ptr {r o : Nat} {v : Value} (h : Rep W (.ptr r o) v) : v = .pointer (some ⟨r, o, none⟩) := by cases h; rfl
theorem rep_ref {r o n c : Nat} {v : Value} (h : Rep W (.ref r o n c) v) : v = .slice (some ⟨r, o, none⟩) n c := by cases h; rfl
theorem rep_nilsl {v : Value} (h : Rep W .nilsl v) : v = .slice none 0 0 := by cases h; rfl
theorem op_alloc (hT : TabOk P T) (hd : Disj H F) (hh : Held W (hun H F) w) {e : TypeId} (h : vcOp T (.alloc e) ev H K) : GoodV W F K ((Instr.alloc e true (.tuple #[])).run P w) := by
  simp only [vcOp] at h
  split at h
  · rename_i ti ht
    obtain ⟨f⟩ := tfact hT ht
    have hrep := f.rep W
    simp only [Instr.alloc, Sem.run_bind, f.zerov, Result.andThen_ok, newVar, newRow, run_newObj, Sem.run_pure]
    exact good_new hd hh hrep (mk := fun r => .pointer (some ⟨r, 0, none⟩)) (mc := fun r => .ptr r 0) (fun r => .ptr r 0) h
  · exact h.elim
theorem op_box (hd : Disj H F) (hh : Held W (hun H F) w) (hev : ∀ x, Rep W (ev x) (ρ x)) {e : TypeId} {x : Operand} (h : vcOp T (.box e x) ev H K) : GoodV W F K ((Instr.box e (ρ x)).run P w) := by
  obtain ⟨h1, h2⟩ := h
  simp only [Instr.box, Sem.run_bind, newVar, newRow, run_newObj, Result.andThen_ok, Sem.run_pure]
  exact good_new hd hh ((hev x).cells h1) (mk := fun r => .pointer (some ⟨r, 0, none⟩)) (mc := fun r => .ptr r 0) (fun r => .ptr r 0) h2
theorem parts_rep (hev : ∀ x, Rep W (ev x) (ρ x)) (parts : Array (Nat × Operand)) : ∀ (i : Nat) p v, (parts.toList.map fun p => (p.1, ev p.2))[i]? = some p → ((parts.map fun (i, x) => (i, ρ x)).toList)[i]? = some v → p.1 = v.1 ∧ Rep W p.2 v.2 := by
  intro i p v hp hv
  simp only [Array.toList_map, List.getElem?_map] at hp hv
  cases hq : parts.toList[i]? with
  | none => simp [hq] at hp
  | some q =>
    simp only [hq, Option.map_some, Option.some.injEq] at hp hv
    subst hp; subst hv
    exact ⟨rfl, hev _⟩
theorem op_build (hT : TabOk P T) (hd : Disj H F) (hh : Held W (hun H F) w) (hev : ∀ x, Rep W (ev x) (ρ x)) {t : TypeId} {parts : Array (Nat × Operand)} (h : vcOp T (.build t parts) ev H K) :
    GoodV W F K ((Instr.build t (parts.map fun (i, x) => (i, ρ x))).run P w) := by
  simp only [vcOp] at h
  split at h
  · rename_i ti ht
    obtain ⟨f⟩ := tfact hT ht
    have hrep := f.rep W
    split at h
    · rename_i fs hk
      obtain ⟨gs, hgd, hgf⟩ := kind_struct f hk
      obtain ⟨cs, hc, hK⟩ := h
      have hpl : ∀ w : World, (gs.mapM fun f => do pure (f.offset, ← sizeOf f.type) : Sem (Array (Nat × Nat))).run P w = .ok (fs.map fun f => (f.1, f.2.1)).toArray w := by
        intro w
        rw [Array.mapM_eq_mapM_toList, Sem.run_map, run_places hgf w]
        rfl
      have hplace : (fun (i : Nat) => (fs[i]?).map fun (f : Nat × Nat × Bool) => (f.1, f.2.1)) = fun i => ((fs.map fun (f : Nat × Nat × Bool) => (f.1, f.2.1)).toArray)[i]? := by
        funext i; simp
      rw [hplace] at hc
      obtain ⟨out, ho, hor⟩ := fill_sound (vs := (parts.map fun (i, x) => (i, ρ x)).toList) hc (by simp) (parts_rep hev parts) hrep
      simp only [Instr.build, Sem.run_bind, f.zerov, Result.andThen_ok, f.und, hgd]
      rw [hpl]
      simp only [Result.andThen_ok, ho, Sem.run_pure]
      exact GoodV.mk hd hh (Rep.mkagg hor) hK
    · rename_i n e hk
      split at h
      · rename_i te hte
        obtain ⟨fe⟩ := tfact hT hte
        obtain ⟨cs, hc, hK⟩ := h
        obtain ⟨out, ho, hor⟩ := fill_sound (vs := (parts.map fun (i, x) => (i, ρ x)).toList) hc (by simp) (parts_rep hev parts) hrep
        simp only [Instr.build, Sem.run_bind, f.zerov, Result.andThen_ok, f.und, kind_arr f hk, fe.size, ho, Sem.run_pure]
        exact GoodV.mk hd hh (Rep.mkagg hor) hK
      · exact h.elim
    · exact h.elim
  · exact h.elim
theorem rep_zeroCs (W : World) {t : TypeId} {ti : TI} (f : TFact P t ti) (n : Nat) : RepC W (zeroCs ti.zero n) ((Array.range n).map (f.z.cells[· % f.z.cells.size]!)).toList := by
  have hl : f.z.cells.size = ti.zero.length := by have := congrArg List.length f.hzc; simpa using this
  have hpos : 0 < ti.zero.length := by rw [f.hl]; exact Nat.pos_of_ne_zero f.h0
  have key : ∀ i, ∃ z, ti.zero[i % ti.zero.length]? = some z ∧ ((ti.zero.map TZ.cv).getD (i % ti.zero.length) .any) = z.cv ∧ (f.z.cells[i % f.z.cells.size]!) = z.val := by
    intro i
    have hi : i % ti.zero.length < ti.zero.length := Nat.mod_lt _ hpos
    refine ⟨ti.zero[i % ti.zero.length], List.getElem?_eq_getElem hi, by simp [List.getD_eq_getElem?_getD, hi], ?_⟩
    have hi' : i % f.z.cells.size < f.z.cells.size := by rw [hl]; exact hi
    rw [getElem!_pos f.z.cells _ hi']
    have : f.z.cells.toList[i % f.z.cells.size]? = some (f.z.cells[i % f.z.cells.size]) := by simp [hi']
    rw [f.hzc, List.getElem?_map] at this
    have h3 : ti.zero[i % f.z.cells.size]? = some ti.zero[i % ti.zero.length] := by rw [show i % f.z.cells.size = i % ti.zero.length by rw [hl]]; exact List.getElem?_eq_getElem hi
    rw [h3] at this
    simpa using this.symm
  refine ⟨⟨by simp [zeroCs], fun i x v hx hv => ?_⟩, fun i v hv => ?_⟩
  · simp only [zeroCs, List.getElem?_map, List.getElem?_range] at hx
    simp only [Array.toList_map, Array.toList_range, List.getElem?_map] at hv
    by_cases hi : i < n
    · simp only [List.getElem?_range hi, Option.map_some, Option.some.injEq] at hx hv
      obtain ⟨z, _, h1, h2⟩ := key i
      rw [h1] at hx; rw [h2] at hv
      subst hx; subst hv
      exact z.rep W
    · simp [hi] at hx
  · simp only [Array.toList_map, Array.toList_range, List.getElem?_map] at hv
    by_cases hi : i < n
    · simp only [List.getElem?_range hi, Option.map_some, Option.some.injEq] at hv
      obtain ⟨z, _, h1, h2⟩ := key i
      rw [h2] at hv
      subst hv
      exact z.oneCell
    · simp [hi] at hv
theorem op_buildSlice (hT : TabOk P T) (hd : Disj H F) (hh : Held W (hun H F) w) (hev : ∀ x, Rep W (ev x) (ρ x)) {t : TypeId} {len : Nat} {parts : Array (Nat × Operand)} (h : vcOp T (.buildSlice t len parts) ev H K) :
    GoodV W F K ((Instr.buildSlice t len (parts.map fun (i, x) => (i, ρ x))).run P w) := by
  simp only [vcOp] at h
  split at h
  · rename_i ti ht
    obtain ⟨f⟩ := tfact hT ht
    split at h
    · rename_i e hk
      split at h
      · rename_i te hte
        obtain ⟨fe⟩ := tfact hT hte
        obtain ⟨hn, cs, hc, hK⟩ := h
        have hz := rep_zeroCs W fe (len * te.size)
        have hz2 : ∀ w : World, ((if len * te.size = 0 then pure #[] else do pure (← zeroValue e).cells : Sem (Array Value)).run P w).andThen (fun z w => .ok ((Array.range (len * te.size)).map (z[· % z.size]!)) w) = .ok ((Array.range (len * te.size)).map (fe.z.cells[· % fe.z.cells.size]!)) w := by
          intro w
          by_cases h0 : len * te.size = 0
          · simp [h0]
          · simp [h0, fe.zerov]
        obtain ⟨out, ho, hor⟩ := fill_sound (vs := (parts.map fun (i, x) => (i, ρ x)).toList) hc (by simp) (parts_rep hev parts) hz
        have hle : ¬ (len * te.size > 2 ^ 24) := by omega
        have e1 : (Instr.buildSlice t len (parts.map fun (i, x) => (i, ρ x))).run P w = .ok (.slice (some ⟨w.heap.size, 0, none⟩) len len) (w.alloc (.cells out e)) := by
          by_cases h0 : len * te.size = 0
          · have e0 : ∀ g g' : Nat → Value, (Array.range (len * te.size)).map g = (Array.range (len * te.size)).map g' := by intro g g'; rw [h0]; apply Array.ext <;> simp
            rw [e0 _ (fun i => (#[] : Array Value)[i % (#[] : Array Value).size]!)] at ho
            simp only [Instr.buildSlice, Sem.run_bind, f.und, kind_slice f hk, Result.andThen_ok, fe.size, Sem.run_ite, if_neg hle, if_pos h0, Sem.run_pure, ho, newRow, run_newObj]
            rfl
          · simp only [Instr.buildSlice, Sem.run_bind, f.und, kind_slice f hk, Result.andThen_ok, fe.size, Sem.run_ite, if_neg hle, if_neg h0, fe.zerov, Sem.run_pure, ho, newRow, run_newObj]
            rfl
        rw [e1]
        exact good_new hd hh hor (mk := fun r => .slice (some ⟨r, 0, none⟩) len len) (mc := fun r => .ref r 0 len len) (fun r => .ref r 0 len len) hK
      · exact h.elim
    · exact h.elim
  · exact h.elim
theorem op_makeSlice (hT : TabOk P T) (hd : Disj H F) (hh : Held W (hun H F) w) (hev : ∀ x, Rep W (ev x) (ρ x)) {t : TypeId} {l c : Operand} (h : vcOp T (.makeSlice t l c) ev H K) :
    GoodV W F K ((Instr.makeSlice t (ρ l) (ρ c)).run P w) := by
  simp only [vcOp] at h
  split at h
  · rename_i ti ht
    obtain ⟨f⟩ := tfact hT ht
    split at h
    · rename_i e hk
      split at h
      · rename_i te hte
        obtain ⟨fe⟩ := tfact hT hte
        split at h
        · rename_i kl n kc m hl hc
          obtain ⟨h1, h2, h3, h4, hK⟩ := h
          have el : ρ l = .int kl n := rep_int (by rw [← hl]; exact hev l)
          have ec : ρ c = .int kc m := rep_int (by rw [← hc]; exact hev c)
          obtain ⟨n, rfl⟩ := Int.eq_ofNat_of_zero_le h1
          obtain ⟨m, rfl⟩ := Int.eq_ofNat_of_zero_le (by omega : 0 ≤ m)
          have wn : IntKind.i64.wrap (n : Int) = n := by simp [IntKind.wrap, IntKind.bits, IntKind.signed]; omega
          have wm : IntKind.i64.wrap (m : Int) = m := by simp [IntKind.wrap, IntKind.bits, IntKind.signed]; omega
          have t1 : (decide ((m : Int) < 0) || decide ((te.bytes : Int) * (m : Int) > 2 ^ 48)) = false := by
            rw [Int.mul_comm]; simp; omega
          have hz := rep_zeroCs W fe (m * te.size)
          have e1 : (Instr.makeSlice t (ρ l) (ρ c)).run P w = .ok (.slice (some ⟨w.heap.size, 0, none⟩) n m) (w.alloc (.cells ((Array.range (m * te.size)).map (fe.z.cells[· % fe.z.cells.size]!)) e)) := by
            have hcond : ((decide ((m : Int) < 0) || decide ((te.bytes : Int) * (m : Int) > 2 ^ 48) || decide ((n : Int) < 0) || decide ((n : Int) > (m : Int))) = true) = False := by
              rw [t1]; simp; omega
            by_cases h0 : m * te.size = 0
            · have e0 : ∀ g g' : Nat → Value, (Array.range (m * te.size)).map g = (Array.range (m * te.size)).map g' := by intro g g'; rw [h0]; apply Array.ext <;> simp
              rw [e0 _ (fun i => (#[] : Array Value)[i % (#[] : Array Value).size]!)]
              simp only [Instr.makeSlice, Sem.run_bind, f.und, kind_slice f hk, Result.andThen_ok, el, ec, asInt, asIntOf, typeInfo, run_program, fe.hi, fe.hb, Sem.run_pure, wn, wm, Sem.run_ite, hcond, if_false, run_askRoom, Int.toNat_natCast, fe.size, if_pos h0, newRow, run_newObj]
              rfl
            · simp only [Instr.makeSlice, Sem.run_bind, f.und, kind_slice f hk, Result.andThen_ok, el, ec, asInt, asIntOf, typeInfo, run_program, fe.hi, fe.hb, Sem.run_pure, wn, wm, Sem.run_ite, hcond, if_false, run_askRoom, Int.toNat_natCast, fe.size, if_neg h0, fe.zerov, newRow, run_newObj]
              rfl
          rw [e1]
          exact good_new hd hh hz (mk := fun r => .slice (some ⟨r, 0, none⟩) n m) (mc := fun r => .ref r 0 n m) (fun r => .ref r 0 n m) hK
        · exact h.elim
      · exact h.elim
    · exact h.elim
  · exact h.elim
theorem op_load (hT : TabOk P T) (hd : Disj H F) (hh : Held W (hun H F) w) (hev : ∀ x, Rep W (ev x) (ρ x)) {t : TypeId} {a : Operand} (h : vcOp T (.load t a) ev H K) : GoodV W F K ((Instr.loadAt t (ρ a)).run P w) := by
  simp only [vcOp] at h
  split at h
  · rename_i ti ht
    obtain ⟨f⟩ := tfact hT ht
    have ha := hev a
    split at h
    · rename_i r o e
      rw [e] at ha
      generalize ρ a = v at ha ⊢
      cases ha
      obtain ⟨cs, hc, hK⟩ := h
      exact good_load_ptr f hd hh hc hK
    · rename_i cs e
      rw [e] at ha
      exact good_load_iptr f hd hh ha h
    · exact h.elim
  · exact h.elim
theorem op_store (hT : TabOk P T) (hd : Disj H F) (hh : Held W (hun H F) w) (hev : ∀ x, Rep W (ev x) (ρ x)) {t : TypeId} {a v : Operand} (h : vcOp T (.store t a v) ev H K) :
    GoodN W F K ((do Instr.storeAt t (ρ a) (ρ v); pure Next.skip).run P w) := by
  simp only [vcOp] at h
  split at h
  · rename_i ti ht
    obtain ⟨f⟩ := tfact hT ht
    have ha := hev a
    split at h
    · rename_i r o e
      rw [e] at ha
      generalize ρ a = va at ha ⊢
      cases ha
      obtain ⟨cs, hc, h1, h2, h3, hK⟩ := h
      exact good_store f hd hh hc (hev v) h1 h2 h3 hK
    · exact h.elim
  · exact h.elim
theorem op_fieldAddr (hT : TabOk P T) (hd : Disj H F) (hh : Held W (hun H F) w) (hev : ∀ x, Rep W (ev x) (ρ x)) {t : TypeId} {x : Operand} {i : Nat} (h : vcOp T (.fieldAddr t x i) ev H K) : GoodV W F K ((Instr.fieldAt t (ρ x) i).run P w) := by
  simp only [vcOp] at h
  split at h
  · rename_i ti ht
    obtain ⟨f⟩ := tfact hT ht
    split at h
    · rename_i fs hk
      obtain ⟨gs, hgd, hgf⟩ := kind_struct f hk
      obtain ⟨hl, hat⟩ := flds_at hgf
      split at h
      · rename_i off size ag hfi
        obtain ⟨h0, h⟩ := h
        obtain ⟨g, hg, ho, ⟨inf, hinf, hsz⟩, _⟩ := hat i _ hfi
        have hgi : gs[i]? = some g := by simpa using hg
        have hsize : ∀ w : World, (sizeOf g.type).run P w = .ok size w := by intro w; simp [sizeOf, typeInfo, hinf, hsz]
        have hrun : ∀ ad, (Instr.fieldAt t (.pointer (some ad)) i).run P w = .ok (.pointer (some (ad.add off))) w := by
          intro ad
          simp only [Instr.fieldAt, Sem.run_bind, f.und, Result.andThen_ok, hgd, hgi, Instr.sureAddr, Sem.run_pure, fieldPlace, hsize, if_neg h0, ho]
        have hx := hev x
        split at h
        · rename_i r o e
          rw [e] at hx
          generalize ρ x = v at hx ⊢
          cases hx
          rw [hrun, add_plain]
          exact GoodV.mk hd hh (.ptr r (o + off)) h
        · rename_i cs e
          rw [e] at hx
          generalize ρ x = v at hx ⊢
          cases hx with
          | iptr _ ad vs hc hr =>
            rw [hrun]
            refine GoodV.mk hd hh (.iptr (cs.drop off) (ad.add off) (fun j => vs (off + j)) (fun j hj => ?_) (fun j y hy => ?_)) h
            · rw [add_add]; exact hc _ (by simp at hj; omega)
            · rw [List.getElem?_drop] at hy; exact hr _ y hy
        · exact h.elim
      · exact h.elim
    · exact h.elim
  · exact h.elim
theorem op_field (hT : TabOk P T) (hd : Disj H F) (hh : Held W (hun H F) w) (hev : ∀ x, Rep W (ev x) (ρ x)) {t : TypeId} {x : Operand} {i : Nat} (h : vcOp T (.field t x i) ev H K) : GoodV W F K ((Instr.field t (ρ x) i).run P w) := by
  simp only [vcOp] at h
  split at h
  · rename_i ti ht
    obtain ⟨f⟩ := tfact hT ht
    split at h
    · rename_i fs hk
      obtain ⟨gs, hgd, hgf⟩ := kind_struct f hk
      obtain ⟨hl, hat⟩ := flds_at hgf
      split at h
      · rename_i off size ag hfi
        obtain ⟨g, hg, ho, ⟨inf, hinf, hsz⟩, hag⟩ := hat i _ hfi
        have hgi : gs[i]? = some g := by simpa using hg
        have hsize : ∀ w : World, (sizeOf g.type).run P w = .ok size w := by intro w; simp [sizeOf, typeInfo, hinf, hsz]
        have hx := hev x
        split at h
        · rename_i cs e
          rw [e] at hx
          generalize ρ x = v at hx ⊢
          cases hx with
          | agg _ vs hvl hvo hvr =>
            have hrc : RepC W cs vs.toList := ⟨⟨by simpa using hvl, fun i x v hx hv => hvr i x v hx (by simpa using hv)⟩, fun i v hv => hvo i v (by simpa using hv)⟩
            obtain ⟨d, hdd, hag⟩ := hag
            have hag : aggD (some d) = ag := hag
            have hia : ∀ w : World, (isAgg g.type).run P w = .ok ag w := by
              intro w
              unfold isAgg
              rw [Sem.run_bind, run_underlying hdd]
              rw [← hag]
              cases d <;> rfl
            simp only [Instr.field, Sem.run_bind, f.und, Result.andThen_ok, hgd, hgi, asAgg, Sem.run_pure, part, hia, ho]
            split at h
            · rename_i ha
              obtain ⟨hle, hK⟩ := h
              simp only [ha, if_true, Sem.run_bind, hsize, Result.andThen_ok, Sem.run_pure]
              refine GoodV.mk hd hh (Rep.mkagg ?_) hK
              have := (hrc.drop off).take size
              rw [Array.toList_extract]
              simpa [List.extract_eq_take_drop] using this
            · rename_i ha
              obtain ⟨c, hcs, hK⟩ := h
              have hi : off < vs.size := by rw [← hvl]; exact (List.getElem?_eq_some_iff.1 hcs).1
              simp only [Bool.not_eq_true] at ha
              simp only [ha, Array.getElem?_eq_getElem hi]
              exact GoodV.mk hd hh (hvr off c _ hcs (Array.getElem?_eq_getElem hi)) hK
        · exact h.elim
      · exact h.elim
    · exact h.elim
  · exact h.elim
end
end Go.Cl
set_option linter.unusedSimpArgs false
set_option linter.unusedVariables false
namespace Go.Cl
open Go.RowKit
section
variable {P : Program} {T : Tab} {W : World} {H F : Hp} {w : World} {K : CV → Hp → Prop} {ρ : Operand → Value} {ev : Operand → CV}

theorem ev_int {o : Operand} {k : IntKind} {n : Int} (hev : ∀ x, Rep W (ev x) (ρ x)) (h : ev o = .int k n) : ρ o = .int k n := rep_int (by rw [← h]; exact hev o)
theorem ev_bool {o : Operand} {b : Bool} (hev : ∀ x, Rep W (ev x) (ρ x)) (h : ev o = .bool b) : ρ o = .bool b := rep_bool (by rw [← h]; exact hev o)
theorem op_indexAddr (hT : TabOk P T) (hd : Disj H F) (hh : Held W (hun H F) w) (hev : ∀ x, Rep W (ev x) (ρ x)) {t : TypeId} {x i : Operand} (h : vcOp T (.indexAddr t x i) ev H K) : GoodV W F K ((Instr.indexAt t (ρ x) (ρ i)).run P w) := by
  simp only [vcOp] at h
  split at h
  · rename_i ti ht
    obtain ⟨f⟩ := tfact hT ht
    split at h
    · rename_i e hk
      split at h
      · rename_i te k n hte hi
        obtain ⟨fe⟩ := tfact hT hte
        rw [ev_int hev hi]
        have hx := hev x
        have hrun : ∀ (a : Addr) (len c : Nat), 0 ≤ n → n < len → (Instr.indexAt t (.slice (some a) len c) (.int k n)).run P w = .ok (.pointer (some (a.add (n.toNat * te.size)))) w := by
          intro a len c h0 h1
          simp only [Instr.indexAt, asIntOf, Sem.run_bind, Sem.run_pure, Result.andThen_ok, f.und, kind_slice f hk]
          simp [h0, h1, fe.size]
        split at h
        · rename_i r o len c hxe
          obtain ⟨h0, h1, hK⟩ := h
          rw [hxe] at hx
          rw [rep_ref hx, hrun _ _ _ h0 h1, add_plain]
          exact GoodV.mk hd hh (.ptr r _) hK
        · rename_i sz xs hxe
          obtain ⟨hsz, h0, el, hel, hK⟩ := h
          rw [hxe] at hx
          generalize ρ x = v at hx ⊢
          cases hx with
          | sl _ _ A c vs hn hz hc hA hr =>
            have hlt : n.toNat < xs.length := (List.getElem?_eq_some_iff.1 hel).1
            obtain ⟨ad, rfl⟩ := hA (by omega)
            rw [hrun ad xs.length c h0 (by omega)]
            have hll := hz _ _ hel
            refine GoodV.mk hd hh (.iptr el _ (fun j => vs n.toNat j) (fun j hj => ?_) (fun j y hy => hr _ j el y hel hy)) hK
            obtain ⟨ad', he, h2, h3⟩ := hc n.toNat j hlt (by omega)
            injection he with he
            subst he
            rw [add_add, ← hsz]
            exact ⟨h2, h3⟩
        · exact h.elim
      · exact h.elim
    · rename_i len e hk
      split at h
      · rename_i te k n hte hi
        obtain ⟨fe⟩ := tfact hT hte
        rw [ev_int hev hi]
        have hx := hev x
        have hrun : ∀ (a : Addr), 0 ≤ n → n < len → (Instr.indexAt t (.pointer (some a)) (.int k n)).run P w = .ok (.pointer (some (a.add (n.toNat * te.size)))) w := by
          intro a h0 h1
          simp only [Instr.indexAt, asIntOf, Sem.run_bind, Sem.run_pure, Result.andThen_ok, f.und, kind_arr f hk, Instr.sureAddr]
          simp [h0, h1, fe.size]
        split at h
        · rename_i r o hxe
          obtain ⟨h0, h1, hK⟩ := h
          rw [hxe] at hx
          rw [rep_ptr hx, hrun _ h0 h1, add_plain]
          exact GoodV.mk hd hh (.ptr r _) hK
        · rename_i cs hxe
          obtain ⟨h0, h1, hK⟩ := h
          rw [hxe] at hx
          generalize ρ x = v at hx ⊢
          cases hx with
          | iptr _ ad vs hc hr =>
            rw [hrun ad h0 h1]
            refine GoodV.mk hd hh (.iptr (cs.drop (n.toNat * te.size)) _ (fun j => vs (n.toNat * te.size + j)) (fun j hj => ?_) (fun j y hy => ?_)) hK
            · rw [add_add]; exact hc _ (by simp at hj; omega)
            · rw [List.getElem?_drop] at hy; exact hr _ y hy
        · exact h.elim
      · exact h.elim
    · exact h.elim
  · exact h.elim
theorem op_index (hT : TabOk P T) (hd : Disj H F) (hh : Held W (hun H F) w) (hev : ∀ x, Rep W (ev x) (ρ x)) {t : TypeId} {x i : Operand} (h : vcOp T (.index t x i) ev H K) : GoodV W F K ((Instr.index t (ρ x) (ρ i)).run P w) := by
  simp only [vcOp] at h
  split at h
  · rename_i ti ht
    obtain ⟨f⟩ := tfact hT ht
    split at h
    · rename_i s k n hk hx hi
      obtain ⟨h0, hs, hK⟩ := h
      have hxs : ρ x = .string s := rep_str (by rw [← hx]; exact hev x)
      rw [ev_int hev hi, hxs]
      have e : s[n.toNat]? = some s[n.toNat] := by
        exact getElem?_pos s n.toNat hs
      simp only [Instr.index, asIntOf, Sem.run_bind, Sem.run_pure, Result.andThen_ok, f.und, kind_str f hk, if_pos h0, e]
      exact GoodV.mk hd hh (.int .u8 _) hK
    · rename_i len e cs k n hk hx hi
      split at h
      · rename_i te hte
        obtain ⟨fe⟩ := tfact hT hte
        obtain ⟨ha, h0, h1, c, hcs, hK⟩ := h
        rw [ev_int hev hi]
        have hxr := hev x
        rw [hx] at hxr
        generalize ρ x = v at hxr ⊢
        cases hxr with
        | agg _ vs hvl hvo hvr =>
          have hlt : n.toNat * te.size < vs.size := by rw [← hvl]; exact (List.getElem?_eq_some_iff.1 hcs).1
          simp only [Instr.index, asIntOf, Sem.run_bind, Sem.run_pure, Result.andThen_ok, f.und, kind_arr f hk]
          simp only [h0, h1, and_self, if_true, Sem.run_bind, fe.size, Result.andThen_ok, part, fe.isAgg, ha]
          simp only [Array.getElem?_eq_getElem hlt]
          exact GoodV.mk hd hh (hvr _ c _ hcs (Array.getElem?_eq_getElem hlt)) hK
      · exact h.elim
    · exact h.elim
  · exact h.elim
theorem run_sliceBound {k : IntKind} {n : Int} {y : Nat} {code : BoundsCode} (h0 : 0 ≤ n) (h1 : n.toNat ≤ y) (w : World) : (Instr.sliceBound (.int k n) y code).run P w = .ok n.toNat w := by
  have h2 : n ≤ (y : Int) := by omega
  simp only [Instr.sliceBound, asIntOf, Sem.run_bind, Sem.run_pure, Result.andThen_ok, Sem.run_ite, if_pos (And.intro h0 h2)]
theorem bnd_some {o : Operand} {d : Nat} {K : Nat → Prop} (hev : ∀ x, Rep W (ev x) (ρ x)) (h : bnd (some (ev o)) d K) : ∃ k n, ρ o = .int k n ∧ 0 ≤ n ∧ K n.toNat := by
  unfold bnd at h
  split at h
  · rename_i e; cases e
  · rename_i k n e
    injection e with e
    exact ⟨k, n, ev_int hev e, h.1, h.2⟩
  · exact h.elim
theorem bounds_run {isS : Bool} {len cap : Nat} {lo hi : Option Operand} {K : Nat → Nat → Prop} (hev : ∀ x, Rep W (ev x) (ρ x)) (hb : bnd (hi.map ev) len fun h => h ≤ cap ∧ bnd (lo.map ev) 0 fun l => l ≤ h ∧ K h l) :
    ∃ h l, h ≤ cap ∧ l ≤ h ∧ K h l ∧ ∀ w : World, (Instr.sliceBounds isS len cap (lo.map ρ) (hi.map ρ) none).run P w = .ok (l, h, cap) w := by
  cases hi with
  | none =>
    have hb : len ≤ cap ∧ bnd (lo.map ev) 0 fun l => l ≤ len ∧ K len l := hb
    obtain ⟨h1, hb⟩ := hb
    cases lo with
    | none =>
      have hb : 0 ≤ len ∧ K len 0 := hb
      exact ⟨len, 0, h1, hb.1, hb.2, fun w => rfl⟩
    | some ol =>
      obtain ⟨k, n, e, h0, hl, hK⟩ := bnd_some hev hb
      refine ⟨len, n.toNat, h1, hl, hK, fun w => ?_⟩
      simp only [Instr.sliceBounds, Option.map_none, Option.map_some, e, Sem.run_bind, Sem.run_pure, Result.andThen_ok, run_sliceBound h0 hl]
  | some oh =>
    obtain ⟨k, m, eh, hm0, hm, hb⟩ := bnd_some hev hb
    cases lo with
    | none =>
      have hb : 0 ≤ m.toNat ∧ K m.toNat 0 := hb
      refine ⟨m.toNat, 0, hm, hb.1, hb.2, fun w => ?_⟩
      simp only [Instr.sliceBounds, Option.map_none, Option.map_some, eh, Sem.run_bind, Sem.run_pure, Result.andThen_ok, run_sliceBound hm0 hm]
    | some ol =>
      obtain ⟨k', n, e, h0, hl, hK⟩ := bnd_some hev hb
      refine ⟨m.toNat, n.toNat, hm, hl, hK, fun w => ?_⟩
      simp only [Instr.sliceBounds, Option.map_some, e, eh, Sem.run_bind, Sem.run_pure, Result.andThen_ok, run_sliceBound h0 hl, run_sliceBound hm0 hm]
theorem bnd_mono {o : Option CV} {d : Nat} {K K' : Nat → Prop} (h : bnd o d K) (hk : ∀ l, K l → K' l) : bnd o d K' := by
  unfold bnd at h ⊢
  split at h
  · exact hk _ h
  · exact ⟨h.1, hk _ h.2⟩
  · exact h.elim
theorem addr_zero (a : Addr) : a.add 0 = a := by cases a; simp [Addr.add]
theorem op_slice3 (hT : TabOk P T) (hd : Disj H F) (hh : Held W (hun H F) w) (hev : ∀ x, Rep W (ev x) (ρ x)) {t : TypeId} {x hi mx : Operand} (h : vcOp T (.slice t x none (some hi) (some mx)) ev H K) :
    GoodV W F K ((Instr.sliceAt t (ρ x) none (some (ρ hi)) (some (ρ mx))).run P w) := by
  simp only [vcOp, vcSl3] at h
  have hx := hev x
  have hhi := hev hi
  have hmx := hev mx
  split at h
  · rename_i ti ht
    obtain ⟨f⟩ := tfact hT ht
    split at h
    · rename_i e r o n c k1 h0 k2 m0 hk ex eh em
      obtain ⟨g1, g2, g3, g4, hK⟩ := h
      obtain ⟨te, hte⟩ := Option.isSome_iff_exists.1 g4
      obtain ⟨fe⟩ := tfact hT hte
      rw [ex] at hx; rw [eh] at hhi; rw [em] at hmx
      rw [rep_ref hx, rep_int hhi, rep_int hmx]
      have e1 : (Instr.sliceAt t (.slice (some ⟨r, o, none⟩) n c) none (some (.int k1 h0)) (some (.int k2 m0))).run P w = .ok (.slice (some ⟨r, o, none⟩) h0.toNat m0.toNat) w := by
        simp only [Instr.sliceAt, Sem.run_bind, f.und, kind_slice f hk, Result.andThen_ok, Instr.slice, Instr.sliceBounds, run_sliceBound (show 0 ≤ m0 by omega) (show m0.toNat ≤ c by omega), run_sliceBound g1 (show h0.toNat ≤ m0.toNat by omega), fe.size, Sem.run_pure, Nat.zero_mul, Option.map_some, addr_zero, ite_self, Nat.sub_zero]
      rw [e1]
      exact GoodV.mk hd hh (.ref _ _ _ _) hK
    · rename_i e k1 h0 k2 m0 hk ex eh em
      obtain ⟨g1, g2, g4, hK⟩ := h
      subst g1; subst g2
      obtain ⟨te, hte⟩ := Option.isSome_iff_exists.1 g4
      obtain ⟨fe⟩ := tfact hT hte
      rw [ex] at hx; rw [eh] at hhi; rw [em] at hmx
      rw [rep_nilsl hx, rep_int hhi, rep_int hmx]
      have e1 : (Instr.sliceAt t (.slice none 0 0) none (some (.int k1 0)) (some (.int k2 0))).run P w = .ok (.slice none 0 0) w := by
        simp only [Instr.sliceAt, Sem.run_bind, f.und, kind_slice f hk, Result.andThen_ok, Instr.slice, Instr.sliceBounds, run_sliceBound (show (0 : Int) ≤ 0 by omega) (show (0 : Int).toNat ≤ 0 by simp), fe.size, Sem.run_pure, Option.map_none, ite_self, Nat.sub_zero]
        simp [run_sliceBound (show (0 : Int) ≤ 0 by omega) (show (0 : Int).toNat ≤ 0 by simp)]
      rw [e1]
      exact GoodV.mk hd hh .nilsl hK
    · exact h.elim
  · exact h.elim
theorem op_slice (hT : TabOk P T) (hd : Disj H F) (hh : Held W (hun H F) w) (hev : ∀ x, Rep W (ev x) (ρ x)) {t : TypeId} {x : Operand} {lo hi : Option Operand} (h : vcOp T (.slice t x lo hi none) ev H K) :
    GoodV W F K ((Instr.sliceAt t (ρ x) (lo.map ρ) (hi.map ρ) none).run P w) := by
  simp only [vcOp] at h
  split at h
  · rename_i ti ht
    obtain ⟨f⟩ := tfact hT ht
    have hx := hev x
    split at h
    · rename_i e hk
      split at h
      · rename_i te hte
        obtain ⟨fe⟩ := tfact hT hte
        have key : ∀ (A : Option Addr) (n c : Nat) (K' : Nat → Nat → Prop), (bnd (hi.map ev) n fun h => h ≤ c ∧ bnd (lo.map ev) 0 fun l => l ≤ h ∧ K' h l) →
            ∃ h l, h ≤ c ∧ l ≤ h ∧ K' h l ∧ (Instr.sliceAt t (.slice A n c) (lo.map ρ) (hi.map ρ) none).run P w = .ok (.slice (if c = l then A else A.map (·.add (l * te.size))) (h - l) (c - l)) w := by
          intro A n c K' hb
          obtain ⟨h, l, h1, h2, h3, hr⟩ := bounds_run (P := P) (isS := true) (len := n) (cap := c) hev hb
          refine ⟨h, l, h1, h2, h3, ?_⟩
          simp only [Instr.sliceAt, Sem.run_bind, f.und, kind_slice f hk, Result.andThen_ok, Instr.slice, hr, fe.size, Sem.run_pure]
        split at h
        · rename_i sz xs hxe
          obtain ⟨hsz, hb⟩ := h
          rw [hxe] at hx
          generalize ρ x = v at hx ⊢
          cases hx with
          | sl _ _ A c vs hn hz hc hA hr =>
            have hb2 : bnd (hi.map ev) xs.length fun h => h ≤ c ∧ bnd (lo.map ev) 0 fun l => l ≤ h ∧ (h ≤ xs.length ∧ K (.sl sz ((xs.take h).drop l)) H) :=
              bnd_mono hb fun h ⟨h1, h2⟩ => ⟨by omega, bnd_mono h2 fun l ⟨h3, h4⟩ => ⟨h3, h1, h4⟩⟩
            obtain ⟨h, l, h1, h2, ⟨h3, hK⟩, hrun⟩ := key A xs.length c _ hb2
            rw [hrun]
            have hlen : ((xs.take h).drop l).length = h - l := by simp; omega
            rw [← hlen]
            have hget : ∀ i, ((xs.take h).drop l)[i]? = if l + i < h then xs[l + i]? else none := by
              intro i
              rw [List.getElem?_drop, List.getElem?_take]
            refine GoodV.mk hd hh (.sl sz _ _ (c - l) (fun i j => vs (l + i) j) (by omega) (fun i e he => ?_) (fun i j hi hj => ?_) (fun hp => ?_) (fun i j e y he hy => ?_)) hK
            · rw [hget] at he
              split at he
              · exact hz _ e he
              · cases he
            · obtain ⟨ad, rfl, hc1, hc2⟩ := hc (l + i) j (by omega) hj
              by_cases hcl : c = l
              · omega
              · refine ⟨ad.add (l * te.size), by rw [if_neg hcl]; rfl, ?_, hc2⟩
                rw [add_add, ← hsz, ← Nat.add_assoc, ← Nat.add_mul]
                exact hc1
            · obtain ⟨ad, rfl⟩ := hA (by omega)
              by_cases hcl : c = l
              · exact ⟨ad, by rw [if_pos hcl]⟩
              · exact ⟨ad.add (l * te.size), by rw [if_neg hcl]; rfl⟩
            · rw [hget] at he
              split at he
              · exact hr _ j e y he hy
              · cases he
        · rename_i r o n c hxe
          rw [hxe] at hx
          rw [rep_ref hx]
          obtain ⟨h, l, h1, h2, hK, hrun⟩ := key (some ⟨r, o, none⟩) n c _ h
          rw [hrun]
          have e : (if c = l then (some ⟨r, o, none⟩ : Option Addr) else (some ⟨r, o, none⟩ : Option Addr).map (·.add (l * te.size))) = some ⟨r, if c = l then o else o + l * te.size, none⟩ := by
            split
            · rfl
            · simp [add_plain]
          rw [e]
          exact GoodV.mk hd hh (.ref r _ _ _) hK
        · rename_i hxe
          rw [hxe] at hx
          rw [rep_nilsl hx]
          obtain ⟨h, l, h1, h2, hK, hrun⟩ := key none 0 0 _ h
          obtain rfl : h = 0 := by omega
          obtain rfl : l = 0 := by omega
          rw [hrun]
          exact GoodV.mk hd hh .nilsl hK
        · exact h.elim
      · exact h.elim
    · rename_i hk
      split at h
      · rename_i s hxe
        rw [hxe] at hx
        rw [rep_str hx]
        obtain ⟨h', l, h1, h2, hK', hr⟩ := bounds_run (P := P) (isS := false) (len := s.size) (cap := s.size) hev h
        have e1 : (Instr.sliceAt t (.string s) (lo.map ρ) (hi.map ρ) none).run P w = .ok (.string (s.extract l h')) w := by
          have : (Option.isSome (none : Option Value) = true) = False := by simp
          simp only [Instr.sliceAt, Sem.run_bind, f.und, kind_str f hk, Result.andThen_ok, Instr.slice, this, if_false, hr, Sem.run_pure]
        rw [e1]
        exact GoodV.mk hd hh (.str _) hK'
      · exact h.elim
    · exact h.elim
  · exact h.elim
theorem op_extract (hd : Disj H F) (hh : Held W (hun H F) w) (hev : ∀ x, Rep W (ev x) (ρ x)) {x : Operand} {i : Nat} (h : vcOp T (.extract x i) ev H K) : GoodV W F K ((Instr.extract (ρ x) i).run P w) := by
  simp only [vcOp] at h
  have hx := hev x
  split at h
  · rename_i cs hxe
    rw [hxe] at hx
    generalize ρ x = v at hx ⊢
    cases hx with
    | tuple _ vs hl hr =>
      obtain ⟨c, hc, hK⟩ := h
      have hi : i < vs.size := by rw [← hl]; exact (List.getElem?_eq_some_iff.1 hc).1
      simp only [Instr.extract, Array.getElem?_eq_getElem hi, Sem.run_pure]
      exact GoodV.mk hd hh (hr i c _ hc (Array.getElem?_eq_getElem hi)) hK
  · exact h.elim
theorem op_nilCheck (hd : Disj H F) (hh : Held W (hun H F) w) (hev : ∀ x, Rep W (ev x) (ρ x)) {x : Operand} (h : vcOp T (.nilCheck x) ev H K) {o : Oper} (ho : o.op = .nilCheck x) : GoodN W F K ((execOp ρ o).run P w) := by
  simp only [vcOp] at h
  have hx := hev x
  split at h
  · rename_i r q e
    rw [e] at hx
    have := rep_ptr hx
    simp only [execOp, ho, this]
    exact good_value hd hh (.ptr r q) h
  · rename_i cs e
    rw [e] at hx
    simp only [execOp, ho]
    generalize ρ x = v at hx ⊢
    have hx' := hx
    cases hx with
    | iptr _ ad vs hc hr => exact good_value hd hh hx' h
  · rename_i g a b e
    rw [e] at hx
    simp only [execOp, ho]
    generalize ρ x = v at hx ⊢
    have hx' := hx
    cases hx with
    | func fn f c fv cv hf hc hfr hcr => exact good_value hd hh hx' h
  · exact h.elim
theorem op_unOp (hd : Disj H F) (hh : Held W (hun H F) w) (hev : ∀ x, Rep W (ev x) (ρ x)) {op : UnOp} {t : TypeId} {x : Operand} (h : vcOp T (.unOp op t x) ev H K) : GoodV W F K ((Op.unary op (ρ x)).run P w) := by
  simp only [vcOp] at h
  split at h
  · rename_i b e
    rw [ev_bool hev e]
    exact GoodV.mk hd hh (.bool _) h
  · rename_i k n e
    rw [ev_int hev e]
    obtain ⟨z, hz, hK⟩ := h
    simp only [Op.unary, Op.intArith, Sem.run_pure, hz]
    exact GoodV.mk hd hh (.int k z) hK
  · exact h.elim
theorem op_convert (hT : TabOk P T) (hd : Disj H F) (hh : Held W (hun H F) w) (hev : ∀ x, Rep W (ev x) (ρ x)) {s d : TypeId} {x : Operand} (h : vcOp T (.convert s d x) ev H K) : GoodV W F K ((convert s d (ρ x)).run P w) := by
  simp only [vcOp] at h
  split at h
  · rename_i ts td k0 n hs hdd e
    obtain ⟨fs⟩ := tfact hT hs
    obtain ⟨fd⟩ := tfact hT hdd
    rw [ev_int hev e]
    split at h
    · rename_i k hk
      obtain ⟨z, hz, hK⟩ := h
      simp only [convert, Sem.run_bind, fs.und, fd.und, Result.andThen_ok, kind_int fd hk, Conv.intToInt, Sem.run_pure, hz]
      exact GoodV.mk hd hh (.int k z) hK
    · exact h.elim
  · exact h.elim
theorem op_makeInterface (hT : TabOk P T) (hd : Disj H F) (hh : Held W (hun H F) w) (hev : ∀ x, Rep W (ev x) (ρ x)) {t : TypeId} {x : Operand} (h : vcOp T (.makeInterface t x) ev H K) : GoodV W F K ((Instr.makeInterface t (ρ x)).run P w) := by
  simp only [vcOp] at h
  split at h
  · rename_i ti ht
    obtain ⟨f⟩ := tfact hT ht
    obtain ⟨hk, hK⟩ := h
    have hn := kind_not_ifc f hk
    have : (Instr.makeInterface t (ρ x)).run P w = .ok (.iface t (ρ x)) w := by
      simp only [Instr.makeInterface, Sem.run_bind, f.und, Result.andThen_ok]
      cases hq : f.d <;> first | rfl | exact absurd hq (hn _)
    rw [this]
    exact GoodV.mk hd hh (.iface t _ _ (hev x)) hK
  · exact h.elim
theorem op_makeFunc (hd : Disj H F) (hh : Held W (hun H F) w) (hev : ∀ x, Rep W (ev x) (ρ x)) {fn : Fn} {a b : Array Operand} (h : vcOp T (.makeFunc fn a b) ev H K) : GoodV W F K ((Instr.makeFunc fn (a.map ρ) (b.map ρ)).run P w) := by
  have key : ∀ (q : Array Operand) (i : Nat) x v, (q.toList.map ev)[i]? = some x → (q.map ρ)[i]? = some v → Rep W x v := by
    intro q i x v hx hv
    simp only [List.getElem?_map, Array.getElem?_map, Array.getElem?_toList] at hx hv
    cases hq : q[i]? with
    | none => simp [hq] at hx
    | some o => simp only [hq, Option.map_some, Option.some.injEq] at hx hv; subst hx; subst hv; exact hev o
  exact GoodV.mk hd hh (.func fn _ _ _ _ (by simp) (by simp) (key a) (key b)) h
theorem run_eqGuard {op : BinOp} {t : TypeId} {x y : Operand} {a b : Value} (ha : a ≠ .nilIface ∨ b ≠ .nilIface) (hb : (∀ cs, a ≠ .agg cs) ∨ (∀ cs, b ≠ .agg cs)) (w : World) : (eqGuard op t x y a b).run P w = .ok () w := by
  unfold eqGuard
  rw [Sem.run_ite]
  split
  all_goals first
    | rfl
    | (simp only [Bool.not_true, Bool.false_eq_true, if_false]
       split
       · rcases ha with ha | ha <;> exact absurd rfl ha
       · rcases hb with hb | hb
         · exact absurd rfl (hb _)
         · exact absurd rfl (hb _)
       · rfl)
theorem good_int {op : BinOp} {k k' : IntKind} {a b : Int} {t : TypeId} (hd : Disj H F) (hh : Held W (hun H F) w) (h1 : isShift op = true ∨ k = k') (h : vcInt op k a b fun c => K c H) :
    GoodV W F K ((binOp op t (.int k a) (.int k' b)).run P w) := by
  cases op <;> simp only [isShift, Bool.false_eq_true, false_or, true_or] at h1 <;> first
    | (subst h1; obtain ⟨z, hz, hK⟩ := h; simp only [binOp, ne_eq, not_true_eq_false, if_false, Op.intArith, Op.intBits, Sem.run_pure, hz]; exact GoodV.mk hd hh (.int _ _) hK)
    | (subst h1; obtain ⟨hb, z, hz, hK⟩ := h; simp only [binOp, ne_eq, not_true_eq_false, if_false, Op.intDiv, hb, Sem.run_pure, hz]; exact GoodV.mk hd hh (.int _ _) hK)
    | (obtain ⟨hb, hK⟩ := h; simp only [binOp, Op.shift, if_neg (show ¬ b < 0 by omega), Sem.run_pure]; exact GoodV.mk hd hh (.int _ _) hK)
    | (subst h1; simp only [binOp, ne_eq, not_true_eq_false, if_false, Op.intArith, Op.intBits, Sem.run_pure]; exact GoodV.mk hd hh (.int _ _) h)
    | (subst h1; simp only [binOp, ne_eq, not_true_eq_false, if_false, Op.intCmp, Sem.run_pure]; exact GoodV.mk hd hh (.bool _) h)
    | exact h.elim
theorem max_depth : Op.maxDepth = 9999 + 1 := rfl
theorem run_equalIn_bool (hT : TabOk P T) {t : TypeId} {ti : TI} (ht : T t = some ti) (hk : ti.kind = .bool) (d : Nat) (a b : Bool) (w : World) : (Op.equalIn (d + 1) t (.bool a) (.bool b)).run P w = .ok (a == b) w := by
  obtain ⟨f⟩ := tfact hT ht
  simp only [Op.equalIn, Sem.run_bind, f.und, kind_bool f hk, Result.andThen_ok, Sem.run_pure]
theorem run_equal_bool (hT : TabOk P T) {t : TypeId} {ti : TI} (ht : T t = some ti) (hk : ti.kind = .bool) (a b : Bool) (w : World) : (Op.equal t (.bool a) (.bool b)).run P w = .ok (a == b) w := by
  unfold Op.equal
  rw [max_depth]
  exact run_equalIn_bool hT ht hk 9999 a b w
theorem run_equalIn_slice (hT : TabOk P T) {t : TypeId} {ti : TI} (ht : T t = some ti) {e : TypeId} (hk : ti.kind = .slice e) (d : Nat) (A : Option Addr) (n c m q : Nat) (w : World) : (Op.equalIn (d + 1) t (.slice A n c) (.slice none m q)).run P w = .ok A.isNone w := by
  obtain ⟨f⟩ := tfact hT ht
  cases A <;> simp [Op.equalIn, f.und, kind_slice f hk]
theorem run_equal_slice (hT : TabOk P T) {t : TypeId} {ti : TI} (ht : T t = some ti) {e : TypeId} (hk : ti.kind = .slice e) (A : Option Addr) (n c m q : Nat) (w : World) : (Op.equal t (.slice A n c) (.slice none m q)).run P w = .ok A.isNone w := by
  unfold Op.equal
  rw [max_depth]
  exact run_equalIn_slice hT ht hk 9999 A n c m q w
theorem run_part_flat {t : TypeId} {d : TypeDesc} (hu : P.underlying t = some d) (ha : aggD (some d) = false) {vs : Array Value} {n : Nat} {v : Value} (hv : vs[n]? = some v) (w : World) : (part t vs n).run P w = .ok v w := by
  have hi : (Go.isAgg t).run P w = .ok false w := by
    unfold Go.isAgg
    rw [Sem.run_bind, run_underlying hu]
    cases d <;> first | rfl | cases ha
  unfold part
  rw [Sem.run_bind, hi]
  simp [hv]
theorem run_eqFields_flat {xs ys : List CV} {vs us : Array Value} (hx : ∀ (i : Nat) x v, xs[i]? = some x → vs[i]? = some v → Rep W x v) (hy : ∀ (i : Nat) x v, ys[i]? = some x → us[i]? = some v → Rep W x v) (hlx : xs.length = vs.size) (hly : ys.length = us.size) (w : World) : ∀ (l : List Field) (zs : List TZ) (n : Nat), fldEq P l zs n = true → fits (xs.drop n) zs = true → fits (ys.drop n) zs = true → (Op.eqFields 9999 vs us l).run P w = .ok (eqAll (xs.drop n) (ys.drop n)) w
  | [], [], n, _, h2, h3 => by
    have h2' : xs.drop n = [] := by cases h : xs.drop n with | nil => rfl | cons a b => rw [h] at h2; cases a <;> cases h2
    have h3' : ys.drop n = [] := by cases h : ys.drop n with | nil => rfl | cons a b => rw [h] at h3; cases a <;> cases h3
    rw [h2', h3']
    rfl
  | [], _ :: _, _, h1, _, _ => by cases h1
  | _ :: _, [], _, h1, _, _ => by cases h1
  | f :: l, z :: zs, n, h1, h2, h3 => by
    simp only [fldEq, Bool.and_eq_true, bne_iff_ne, beq_iff_eq] at h1
    obtain ⟨⟨⟨hn, ho⟩, hz⟩, hr⟩ := h1
    cases hxd : xs.drop n with
    | nil => rw [hxd] at h2; cases z <;> cases h2
    | cons a xs' =>
    cases hyd : ys.drop n with
    | nil => rw [hyd] at h3; cases z <;> cases h3
    | cons b ys' =>
    have hxn : xs[n]? = some a := by have := congrArg (fun l : List CV => l[0]?) hxd; simpa [List.getElem?_drop] using this
    have hyn : ys[n]? = some b := by have := congrArg (fun l : List CV => l[0]?) hyd; simpa [List.getElem?_drop] using this
    have hxl := (List.getElem?_eq_some_iff.1 hxn).1
    have hyl := (List.getElem?_eq_some_iff.1 hyn).1
    obtain ⟨va, hva⟩ : ∃ v, vs[n]? = some v := ⟨_, Array.getElem?_eq_getElem (by omega)⟩
    obtain ⟨vb, hvb⟩ : ∃ v, us[n]? = some v := ⟨_, Array.getElem?_eq_getElem (by omega)⟩
    have ra := hx n a va hxn hva
    have rb := hy n b vb hyn hvb
    have hxd' : xs.drop (n + 1) = xs' := by have := congrArg List.tail hxd; simpa [List.tail_drop] using this
    have hyd' : ys.drop (n + 1) = ys' := by have := congrArg List.tail hyd; simpa [List.tail_drop] using this
    rw [hxd] at h2
    rw [hyd] at h3
    subst ho
    split at hz
    · rename_i k k' hu
      simp only [beq_iff_eq] at hz
      subst hz
      cases a <;> simp only [fits, Bool.false_eq_true] at h2
      cases b <;> simp only [fits, Bool.false_eq_true] at h3
      rename_i ka na kb nb
      simp only [Bool.and_eq_true, beq_iff_eq] at h2 h3
      obtain ⟨rfl, h2⟩ := h2
      obtain ⟨rfl, h3⟩ := h3
      cases ra
      cases rb
      have ih := run_eqFields_flat hx hy hlx hly w l zs (f.offset + 1) hr (by rw [hxd']; exact h2) (by rw [hyd']; exact h3)
      rw [hxd', hyd'] at ih
      simp only [Op.eqFields, if_pos hn, Sem.run_bind, run_part_flat hu rfl hva, run_part_flat hu rfl hvb, Result.andThen_ok, run_equalIn_int w 9998 f.type _ _ _ _ hu, Sem.run_ite, eqAll]
      cases hab : (na == nb) with
      | true => simp [hab, ih]
      | false => simp [hab]
    · rename_i hu
      cases a <;> simp only [fits, Bool.false_eq_true] at h2
      cases b <;> simp only [fits, Bool.false_eq_true] at h3
      rename_i na nb
      cases ra
      cases rb
      have ih := run_eqFields_flat hx hy hlx hly w l zs (f.offset + 1) hr (by rw [hxd']; exact h2) (by rw [hyd']; exact h3)
      rw [hxd', hyd'] at ih
      simp only [Op.eqFields, if_pos hn, Sem.run_bind, run_part_flat hu rfl hva, run_part_flat hu rfl hvb, Result.andThen_ok, run_equalIn_bool' w 9998 f.type _ _ hu, Sem.run_ite, eqAll]
      cases hab : (na == nb) with
      | true => simp [hab, ih]
      | false => simp [hab]
    · cases hz
theorem op_binOp (hT : TabOk P T) (hd : Disj H F) (hh : Held W (hun H F) w) (hev : ∀ x, Rep W (ev x) (ρ x)) {op : BinOp} {t t' : TypeId} {x y : Operand} (h : vcOp T (.binOp op t x y t') ev H K) :
    GoodV W F K ((do eqGuard op t x y (ρ x) (ρ y); binOp op t (ρ x) (ρ y) : Sem Value).run P w) := by
  simp only [vcOp, vcBin] at h
  have hx := hev x
  have hy := hev y
  split at h
  · rename_i k a k' b e1 e2
    rw [ev_int hev e1, ev_int hev e2, Sem.run_bind, run_eqGuard (.inl (by simp)) (.inl (by simp))]
    exact good_int hd hh h.1 h.2
  · rename_i a b e1 e2
    obtain ⟨⟨ti, ht, hk⟩, h⟩ := h
    rw [ev_bool hev e1, ev_bool hev e2, Sem.run_bind, run_eqGuard (.inl (by simp)) (.inl (by simp))]
    simp only [Result.andThen_ok]
    split at h
    · simp only [binOp, Sem.run_bind, run_equal_bool hT ht hk, Result.andThen_ok, Sem.run_pure]
      exact GoodV.mk hd hh (.bool _) h
    · simp only [binOp, Sem.run_bind, run_equal_bool hT ht hk, Result.andThen_ok, Sem.run_pure]
      exact GoodV.mk hd hh (.bool _) h
    · exact h.elim
  · rename_i a b e1 e2
    rw [e1] at hx
    rw [e2] at hy
    rw [rep_str hx, rep_str hy, Sem.run_bind, run_eqGuard (.inl (by simp)) (.inl (by simp))]
    simp only [Result.andThen_ok]
    split at h
    · exact GoodV.mk hd hh (.bool _) h
    · exact GoodV.mk hd hh (.bool _) h
    · exact h.elim
  · rename_i r o n c e1 e2
    obtain ⟨⟨ti, e, ht, hk⟩, h⟩ := h
    rw [e1] at hx
    rw [e2] at hy
    rw [rep_ref hx, rep_nilsl hy, Sem.run_bind, run_eqGuard (.inl (by simp)) (.inl (by simp))]
    simp only [Result.andThen_ok]
    split at h
    · simp only [binOp, Sem.run_bind, run_equal_slice hT ht hk, Result.andThen_ok, Sem.run_pure]
      exact GoodV.mk hd hh (.bool _) h
    · simp only [binOp, Sem.run_bind, run_equal_slice hT ht hk, Result.andThen_ok, Sem.run_pure]
      exact GoodV.mk hd hh (.bool _) h
    · exact h.elim
  · rename_i e1 e2
    obtain ⟨⟨ti, e, ht, hk⟩, h⟩ := h
    rw [e1] at hx
    rw [e2] at hy
    rw [rep_nilsl hx, rep_nilsl hy, Sem.run_bind, run_eqGuard (.inl (by simp)) (.inl (by simp))]
    simp only [Result.andThen_ok]
    split at h
    · simp only [binOp, Sem.run_bind, run_equal_slice hT ht hk, Result.andThen_ok, Sem.run_pure]
      exact GoodV.mk hd hh (.bool _) h
    · simp only [binOp, Sem.run_bind, run_equal_slice hT ht hk, Result.andThen_ok, Sem.run_pure]
      exact GoodV.mk hd hh (.bool _) h
    · exact h.elim
  · rename_i sz xs e1 e2
    obtain ⟨hlen, ⟨ti, e, ht, hk⟩, h⟩ := h
    rw [e1] at hx
    rw [e2] at hy
    rw [rep_nilsl hy]
    generalize ρ x = v at hx ⊢
    cases hx with
    | sl _ _ A c vs hn hz hc hA hr =>
      obtain ⟨ad, rfl⟩ := hA hlen
      rw [Sem.run_bind, run_eqGuard (.inl (by simp)) (.inl (by simp))]
      simp only [Result.andThen_ok]
      split at h
      · simp only [binOp, Sem.run_bind, run_equal_slice hT ht hk, Result.andThen_ok, Sem.run_pure]
        exact GoodV.mk hd hh (.bool _) h
      · simp only [binOp, Sem.run_bind, run_equal_slice hT ht hk, Result.andThen_ok, Sem.run_pure]
        exact GoodV.mk hd hh (.bool _) h
      · exact h.elim
  · rename_i xs ys e1 e2
    obtain ⟨⟨ti, fs, ht, hk, hfl, hfx, hfy⟩, h⟩ := h
    obtain ⟨f⟩ := tfact hT ht
    have he := f.he
    simp only [okEq, hk, hfl, Bool.not_true, Bool.false_or] at he
    unfold eqB at he
    split at he
    · rename_i gs hgs
      simp only [Bool.and_eq_true, Bool.not_eq_true'] at he
      obtain ⟨⟨hst, hgt⟩, hfe⟩ := he
      have hfo : P.fieldsOf t = gs := by simp [Program.fieldsOf, hgs]
      rw [e1] at hx
      rw [e2] at hy
      generalize ρ x = vx at hx ⊢
      generalize ρ y = vy at hy ⊢
      cases hx with
      | agg _ vs hlx hox hrx =>
      cases hy with
      | agg _ us hly hoy hry =>
      have hrun := run_eqFields_flat (P := P) hrx hry hlx hly w gs.toList ti.zero 0 hfe (by simpa using hfx) (by simpa using hfy)
      have heq : (Op.equalIn 10000 t (.agg vs) (.agg us)).run P w = .ok (eqAll xs ys) w := by
        rw [show (10000 : Nat) = 9999 + 1 from rfl, run_equalIn_struct w 9999 t vs us (by rw [hfo]; exact hgs) hst, hfo, hrun]
        simp
      rw [Sem.run_bind, run_eqGuard_agg w op t x y vs us hgt]
      simp only [Result.andThen_ok]
      split at h
      · rw [run_eql_struct, heq]
        exact GoodV.mk hd hh (.bool _) h
      · rw [run_neq_struct, heq]
        exact GoodV.mk hd hh (.bool _) h
      · exact h.elim
    · cases he
  · exact h.elim
/-! ### Maps -/
theorem kind_map {t : TypeId} {ti : TI} (f : TFact P t ti) {k e : TypeId} (h : ti.kind = .map k e) : f.d = .map k e := by
  have hk := f.hk
  rw [h] at hk
  generalize f.d = d at hk ⊢
  cases d <;> simp [kindB] at hk
  obtain ⟨rfl, rfl⟩ := hk
  rfl
theorem mapT_fact (hT : TabOk P T) {t : TypeId} {ik : IntKind} {te : TI} (h : mapT T t = some (ik, te)) : ∃ kt e, P.underlying t = some (.map kt e) ∧ P.underlying kt = some (.int ik) ∧ Nonempty (TFact P e te) := by
  unfold mapT at h
  split at h
  · rename_i ti ht
    split at h
    · rename_i k e hk
      split at h
      · rename_i tk te' h1 h2
        split at h
        · rename_i ik' hik
          injection h with h
          injection h with ha hb
          subst ha hb
          obtain ⟨f⟩ := tfact hT ht
          obtain ⟨g⟩ := tfact hT h1
          refine ⟨k, e, ?_, ?_, tfact hT h2⟩
          · rw [f.hd, kind_map f hk]
          · rw [g.hd, kind_int g hik]
        · cases h
      · cases h
    · cases h
  · cases h
theorem Held.putOb {H : Hp} (h : Held W H w) {r : Nat} {o o' : Ob} {ob : Obj} (hr : H r = some o) (ho : RepOb W o' ob) : Held W (H.set r o') { w with heap := w.heap.setIfInBounds r ob } := by
  obtain ⟨hb, ob0, hob, _⟩ := h.at_ r o hr
  have hlt := h.lt hr
  refine ⟨h.below.trans ⟨rfl, rfl, rfl, by simp, fun k hk => ?_⟩, fun i o2 hi => ?_⟩
  · show (w.heap.setIfInBounds r ob)[k]? = w.heap[k]?
    rw [Array.getElem?_setIfInBounds_ne (by omega)]
  · by_cases e : i = r
    · subst e
      simp only [Hp.set, if_true, Option.some.injEq] at hi
      subst hi
      exact ⟨hb, ob, by show (w.heap.setIfInBounds i ob)[i]? = _; rw [Array.getElem?_setIfInBounds_self_of_lt hlt], ho⟩
    · simp only [Hp.set, if_neg e] at hi
      obtain ⟨k1, k2, k3, k4⟩ := h.at_ i o2 hi
      exact ⟨k1, k2, by show (w.heap.setIfInBounds r ob)[i]? = _; rw [Array.getElem?_setIfInBounds_ne (Ne.symm e)]; exact k3, k4⟩
theorem Held.mapAt {H : Hp} (h : Held W H w) {r : Nat} {k : IntKind} {es : List (Int × Nat × CV)} {clk : Nat} (hr : H r = some (.imap k es clk)) : ∃ arr : Array MapEntry, w.heap[r]? = some (.map arr clk) ∧ arr.toList.length = es.length ∧ ∀ (i : Nat) e v, es[i]? = some e → arr.toList[i]? = some v → v.key = .int k e.1 ∧ v.born = e.2.1 ∧ Rep W e.2.2 v.val := by
  obtain ⟨_, ob, hob, arr, rfl, h1, h2⟩ := h.at_ r _ hr
  exact ⟨arr, hob, h1, h2⟩
theorem findNow_es {ik : IntKind} {n : Int} : ∀ {l : List MapEntry} {es : List (Int × Nat × CV)} (j : Nat), l.length = es.length → (∀ (i : Nat) e v, es[i]? = some e → l[i]? = some v → v.key = .int ik e.1 ∧ v.born = e.2.1 ∧ Rep W e.2.2 v.val) →
    (Instr.findNow (.int ik) (.int ik n) l j = some none ∧ lkM es n = none ∧ ∀ c v, putM es n c v = es ++ [(n, c, v)]) ∨ ∃ i e x, Instr.findNow (.int ik) (.int ik n) l j = some (some (j + i, x.val)) ∧ l[i]? = some x ∧ es[i]? = some e ∧ e.1 = n ∧ lkM es n = some e.2.2 ∧ ∀ c v, putM es n c v = es.set i (n, e.2.1, v)
  | [], [], j, _, _ => .inl ⟨rfl, rfl, fun _ _ => rfl⟩
  | [], _ :: _, _, h, _ => by simp at h
  | _ :: _, [], _, h, _ => by simp at h
  | x :: l, e :: es, j, h, hr => by
    obtain ⟨h1, h2, h3⟩ := hr 0 e x rfl rfl
    have hs : Instr.sameNow (.int ik) (.int ik n) x.key = some (n == e.1) := by rw [h1]; simp [Instr.sameNow]
    by_cases he : e.1 = n
    · refine .inr ⟨0, e, x, ?_, rfl, rfl, he, by simp [lkM, he], fun c v => by simp [putM, he]⟩
      rw [← he] at hs
      simp only [beq_self_eq_true] at hs
      simp [Instr.findNow, ← he, hs]
    · have hne : (n == e.1) = false := by simpa using fun q : n = e.1 => he q.symm
      rw [hne] at hs
      rcases findNow_es (n := n) (j + 1) (by simpa using h) (fun i e' v he' hv => hr (i + 1) e' v (by simpa using he') (by simpa using hv)) with ⟨a, b, c⟩ | ⟨i, e', x', a, b, c, d, f, g⟩
      · exact .inl ⟨by simp [Instr.findNow, hs, a], by simp [lkM, he, b], fun c' v => by simp [putM, he, c]⟩
      · exact .inr ⟨i + 1, e', x', by simp [Instr.findNow, hs, a]; omega, by simpa using b, by simpa using c, d, by simp [lkM, he, f], fun c' v => by simp [putM, he, g]⟩
theorem rep_zeroC {e : TypeId} {te : TI} (f : TFact P e te) (W : World) : Rep W (zeroC te) f.z := by
  have h := f.rep W
  have ha := f.ha
  unfold zeroC
  generalize f.z = z at h ha
  cases hz : zAgg z
  rotate_left
  · obtain ⟨cs, rfl⟩ : ∃ cs, z = .agg cs := by cases z <;> simp [zAgg] at hz; exact ⟨_, rfl⟩
    rw [if_pos (ha.symm.trans hz)]
    exact .agg _ _ (by simpa [Value.cells] using h.1.1) (fun i v hv => h.2 i v (by simpa [Value.cells] using hv)) fun i x v hx hv => h.1.2 i x v hx (by simpa [Value.cells] using hv)
  · have ha' : te.kind.agg = false := ha.symm.trans hz
    rw [ha', if_neg (by simp)]
    have hc : z.cells.toList = [z] := by
      cases z <;> first | rfl | simp [zAgg] at hz
    rw [hc] at h
    have hl := h.1.1
    obtain ⟨x, hx⟩ : ∃ x, te.zero.map TZ.cv = [x] := by
      match hm : te.zero.map TZ.cv with
      | [x] => exact ⟨x, rfl⟩
      | [] => rw [hm] at hl; simp at hl
      | _ :: _ :: _ => rw [hm] at hl; simp at hl
    rw [hx]
    exact h.1.2 0 x z (by rw [hx]; rfl) rfl
theorem rep_lkC {ok : Bool} {x : CV} {v : Value} {b : Bool} (h : Rep W x v) : Rep W (lkC ok x b) (if ok = true then .tuple #[v, .bool b] else v) := by
  cases ok
  · exact h
  · refine .tuple _ _ rfl fun i y u hy hu => ?_
    rcases i with _ | _ | i <;> simp at hy hu
    · subst hy; subst hu; exact h
    · subst hy; subst hu; exact .bool _
theorem op_makeMap (hd : Disj H F) (hh : Held W (hun H F) w) {t : TypeId} {hint : Option Operand} (h : vcOp T (.makeMap t hint) ev H K) : GoodV W F K ((Instr.makeMap t (hint.map ρ)).run P w) := by
  simp only [vcOp, vcMap] at h
  cases hint with
  | some x => exact h.elim
  | none =>
    simp only at h
    split at h
    · rename_i ik te hm
      have hf := hh.fresh
      rw [hun_none] at hf
      refine ⟨.map (some w.heap.size), w.alloc (.map #[] 0), .map w.heap.size, H.set w.heap.size (.imap ik [] 0), rfl, .map _, disj_set_new hd hf.2, ?_, h _ hf.1⟩
      rw [hun_set]
      exact hh.alloc ⟨#[], rfl, rfl, fun i e v he => by simp at he⟩
    · exact h.elim
theorem op_lookup (hT : TabOk P T) (hd : Disj H F) (hh : Held W (hun H F) w) (hev : ∀ x, Rep W (ev x) (ρ x)) {t : TypeId} {x i : Operand} {ok : Bool} (h : vcOp T (.lookup t x i ok) ev H K) : GoodV W F K ((Instr.lookup t (ρ x) (ρ i) ok).run P w) := by
  simp only [vcOp, vcMap] at h
  split at h
  · rename_i ik te ik' n hm hi
    obtain ⟨rfl, h⟩ := h
    obtain ⟨kt, e, hu, hk, ⟨f⟩⟩ := mapT_fact hT hm
    rw [ev_int hev hi]
    have hx := hev x
    split at h
    · rename_i ex
      rw [ex] at hx
      generalize ρ x = vx at hx ⊢
      cases hx
      refine ⟨_, w, _, H, ?_, rep_lkC (rep_zeroC f W), hd, hh, h⟩
      simp [Instr.lookup, run_underlying hu, MapKept.run_checkKey hk (k := .int _ n) rfl, MapKept.run_findKey hk (l := []) (a := none) rfl, f.zerov, Result.andThen]
    · rename_i r ex
      rw [ex] at hx
      generalize ρ x = vx at hx ⊢
      cases hx
      obtain ⟨es, clk, hr, h⟩ := h
      obtain ⟨arr, hb, hl, hes⟩ := hh.mapAt (hun_left hr)
      rcases findNow_es (n := n) 0 hl hes with ⟨a, b, _⟩ | ⟨j, e', y, a, b, c, d, g, _⟩
      · rw [b] at h
        refine ⟨_, w, _, H, ?_, rep_lkC (rep_zeroC f W), hd, hh, h⟩
        simp [Instr.lookup, run_underlying hu, MapKept.run_getObj_map hb, MapKept.run_checkKey hk (k := .int _ n) rfl, MapKept.run_findKey hk a, f.zerov, Result.andThen]
      · rw [g] at h
        refine ⟨_, w, _, H, ?_, rep_lkC (hes j e' y c b).2.2, hd, hh, h⟩
        simp [Instr.lookup, run_underlying hu, MapKept.run_getObj_map hb, MapKept.run_checkKey hk (k := .int _ n) rfl, MapKept.run_findKey hk a, Result.andThen]
    · exact h.elim
  · exact h.elim
theorem op_mapUpdate (hT : TabOk P T) (hd : Disj H F) (hh : Held W (hun H F) w) (hev : ∀ x, Rep W (ev x) (ρ x)) {t : TypeId} {m k x : Operand} (h : vcOp T (.mapUpdate t m k x) ev H K) : GoodN W F K ((do Instr.mapUpdate t (ρ m) (ρ k) (ρ x); pure Next.skip).run P w) := by
  simp only [vcOp, vcMap] at h
  split at h
  · rename_i ik te r ik' n hm hmm hkk
    obtain ⟨rfl, es, clk, hr, h⟩ := h
    obtain ⟨kt, e, hu, hk, _⟩ := mapT_fact hT hm
    rw [ev_int hev hkk]
    have hx := hev m
    rw [hmm] at hx
    generalize ρ m = vm at hx ⊢
    cases hx
    obtain ⟨arr, hb, hl, hes⟩ := hh.mapAt (hun_left hr)
    have hxr := hev x
    rcases findNow_es (n := n) 0 hl hes with ⟨a, b, c⟩ | ⟨j, e', y, a, b, c, d, g, q⟩
    · rw [b, c] at h
      have h : K .any (H.set r (.imap ik' (es ++ [(n, clk, ev x)]) (clk + 1))) := by simpa using h
      refine ⟨.skip, { w with heap := w.heap.setIfInBounds r (.map (arr.push { key := .int ik' n, val := ρ x, born := clk }) (clk + 1)) }, .any, _, ?_, .inr ⟨rfl, rfl⟩, disj_set_old hd hr, ?_, h⟩
      · simp [Instr.mapUpdate, run_underlying hu, MapKept.run_getObj_map hb, MapKept.run_checkKey hk (k := .int ik' n) rfl, MapKept.run_findKey hk a, MapKept.run_setObj_map _ hb, Result.andThen]
      · rw [hun_set]
        refine hh.putOb (hun_left hr) ⟨_, rfl, by simpa using hl, fun i e v he hv => ?_⟩
        simp only [Array.toList_push] at hv
        rcases Nat.lt_or_ge i es.length with hlt | hge
        · rw [List.getElem?_append_left hlt] at he
          rw [List.getElem?_append_left (by rw [hl]; exact hlt)] at hv
          exact hes i e v he hv
        · rw [List.getElem?_append_right hge] at he
          rw [List.getElem?_append_right (by rw [hl]; exact hge), hl] at hv
          rcases hi : i - es.length with _ | z
          · rw [hi] at he hv
            simp at he hv
            subst he; subst hv
            exact ⟨rfl, rfl, hxr⟩
          · rw [hi] at he; simp at he
    · rw [g, q] at h
      have h : K .any (H.set r (.imap ik' (es.set j (n, e'.2.1, ev x)) clk)) := by simpa using h
      have hy := hes j e' y c b
      have hby : arr[j]? = some y := by rw [← Array.getElem?_toList]; exact b
      refine ⟨.skip, { w with heap := w.heap.setIfInBounds r (.map (arr.modify j fun z => { z with key := .int ik' n, val := ρ x }) clk) }, .any, _, ?_, .inr ⟨rfl, rfl⟩, disj_set_old hd hr, ?_, h⟩
      · simp [Instr.mapUpdate, run_underlying hu, MapKept.run_getObj_map hb, MapKept.run_checkKey hk (k := .int ik' n) rfl, MapKept.run_findKey hk a, MapKept.run_setObj_map _ hb, Result.andThen, hby, hy.1, d, Instr.keyThatStays, Instr.sameBits]
      · rw [hun_set]
        refine hh.putOb (hun_left hr) ⟨arr.modify j fun z => { z with key := .int ik' n, val := ρ x }, rfl, by simpa using hl, fun i e v he hv => ?_⟩
        simp only [Array.getElem?_toList, Array.getElem?_modify] at hv
        rw [List.getElem?_set] at he
        by_cases hij : j = i
        · subst hij
          rw [if_pos rfl] at hv
          rw [hby] at hv
          simp at hv
          subst hv
          split at he
          · split at he
            · injection he with he; subst he; exact ⟨rfl, hy.2.1, hxr⟩
            · cases he
          · rename_i h'; exact absurd rfl h'
        · rw [if_neg hij] at hv he
          exact hes i e v he (by rw [Array.getElem?_toList]; exact hv)
  · exact h.elim
theorem op_range (hT : TabOk P T) (hd : Disj H F) (hh : Held W (hun H F) w) (hev : ∀ x, Rep W (ev x) (ρ x)) {t : TypeId} {x : Operand} (h : vcOp T (.range t x) ev H K) : GoodV W F K ((Instr.range t (ρ x)).run P w) := by
  simp only [vcOp, vcMap] at h
  split at h
  · rename_i ik te m hm hx0
    obtain ⟨es, clk, hr, h⟩ := h
    obtain ⟨kt, e, hu, hk, _⟩ := mapT_fact hT hm
    have hx := hev x
    rw [hx0] at hx
    generalize ρ x = vx at hx ⊢
    cases hx
    obtain ⟨arr, hb, hl, hes⟩ := hh.mapAt (hun_left hr)
    have hf := hh.fresh
    rw [hun_none] at hf
    refine ⟨.pointer (some ⟨w.heap.size, 0, none⟩), w.alloc (.mapIter (some m) clk #[] clk), .ptr w.heap.size 0, H.set w.heap.size (.miter m clk [] clk), ?_, .ptr _ _, disj_set_new hd hf.2, ?_, h _ hf.1⟩
    · simp [Instr.range, run_underlying hu, MapKept.run_getObj_map hb, Result.andThen]
    · rw [hun_set]
      exact hh.alloc rfl
  · exact h.elim
theorem op_next (hd : Disj H F) (hh : Held W (hun H F) w) (hev : ∀ x, Rep W (ev x) (ρ x)) {it : Operand} {s : Bool} {ty : TypeId} (h : vcOp T (.next it s) ev H K) : GoodV W F K ((Instr.next (ρ it) s ty).run P w) := by
  simp only [vcOp] at h
  cases s with
  | true => exact h.elim
  | false =>
  simp only [vcMap] at h
  split at h
  · rename_i r o hit
    obtain ⟨rfl, m, since, seen, last, ik, es, clk, hr, hm, hold, hsc, hdone, hstep⟩ := h
    have hx := hev it
    rw [hit] at hx
    generalize ρ it = vx at hx ⊢
    cases hx
    obtain ⟨arr, hb, hl, hes⟩ := hh.mapAt (hun_left hm)
    obtain ⟨_, ob, hbi, hob⟩ := hh.at_ r _ (hun_left hr)
    obtain rfl : ob = .mapIter (some m) since seen.toArray last := hob
    have hin : ∀ x ∈ arr.toList, ∃ e ∈ es, x.key = .int ik e.1 ∧ x.born = e.2.1 ∧ Rep W e.2.2 x.val := fun x hx => by
      obtain ⟨i, hi⟩ := List.getElem?_of_mem hx
      have hlt : i < es.length := by rw [← hl]; exact (List.getElem?_eq_some_iff.1 hi).1
      exact ⟨es[i], List.getElem_mem hlt, hes i _ x (List.getElem?_eq_getElem hlt) hi⟩
    have hold' : ∀ x ∈ arr.toList, x.born < since := fun x hx => by
      obtain ⟨e, he, _, h2, _⟩ := hin x hx
      rw [h2]; exact hold e he
    have htest := next_test_false seen.toArray arr since last hold' hsc
    simp only [Instr.next, getObj, Sem.run_bind, Sem.run, hbi, hb, Result.andThen, htest, Bool.false_eq_true, if_false]
    have hmem : ∀ x ∈ (Array.filter (fun e => !seen.toArray.contains e.born) arr).toList, x ∈ arr.toList ∧ x.born ∉ seen := fun x hx => by simpa using hx
    have hall : (Array.filter (fun e => !seen.toArray.contains e.born) arr).size = 0 → ∀ x ∈ arr.toList, x.born ∈ seen := fun h0 x hx => by
      refine Decidable.byContradiction fun hn => ?_
      have : x ∈ (Array.filter (fun e => !seen.toArray.contains e.born) arr) := by simp [hn]; simpa using hx
      have := Array.size_pos_of_mem this
      omega
    generalize Array.filter (fun e => !seen.toArray.contains e.born) arr = L at hmem hall ⊢
    have e1 : L.filter (fun x => decide (x.born < since)) = L := Array.filter_eq_self.2 (fun x hx => by simpa using hold' x (hmem x (by simpa using hx)).1)
    have e2 : L.filter (fun x => decide (x.born ≥ since)) = #[] := by
      rw [Array.filter_eq_empty_iff]
      intro x hx
      have := hold' x (hmem x (by simpa using hx)).1
      simp
      omega
    simp only [e1, e2, Array.append_empty]
    by_cases h0 : L.size = 0
    · have : L = #[] := Array.eq_empty_of_size_eq_zero h0
      subst this
      refine ⟨.tuple #[.bool false], w, .tuple [.bool false], H, ?_, .tuple _ _ rfl (fun i y u hy hu => ?_), hd, hh, hdone fun e he => ?_⟩
      · simp [choose, Sem.run, Question.forced]
      · rcases i with _ | i <;> simp at hy hu
        subst hy; subst hu; exact .bool _
      · obtain ⟨i, hi⟩ := List.getElem?_of_mem he
        have hlt : i < arr.toList.length := by rw [hl]; exact (List.getElem?_eq_some_iff.1 hi).1
        have := hall rfl _ (List.getElem_mem hlt)
        rw [(hes i e _ hi (List.getElem?_eq_getElem hlt)).2.1] at this
        exact this
    · have hne : L.isEmpty = false := by simp [Array.isEmpty, h0]
      simp only [hne, Bool.false_eq_true, if_false, Array.empty_append, Array.size_map]
      have hch : ∃ (j : Nat) (w1 : World), j < L.size ∧ (w1 = w ∨ w1 = w.drew) ∧ (choose (Question.mapNext L.size)).run P w = .ok j w1 := by
        by_cases hf : L.size ≤ 1
        · exact ⟨0, w, by omega, .inl rfl, by simp [choose, Sem.run, Question.forced, hf]⟩
        · exact ⟨_, w.drew, Nat.mod_lt _ (by omega), .inr rfl, by
            simp only [choose, Sem.run, Question.forced, decide_eq_true_eq, hf, if_false, Question.cut]
            rfl⟩
      obtain ⟨j, w1, hj, hw1, hrun⟩ := hch
      have hh1 : Held W (hun H F) w1 := by rcases hw1 with rfl | rfl; exact hh; exact hh.drew
      have hbi1 : w1.heap[r]? = some (.mapIter (some m) since seen.toArray last) := by rcases hw1 with rfl | rfl <;> exact hbi
      obtain ⟨h1, h2⟩ := hmem L[j] (by simp)
      obtain ⟨e, he, a, b, c⟩ := hin _ h1
      rw [b] at h2
      refine ⟨.tuple #[.bool true, L[j].key, L[j].val], { w1 with heap := w1.heap.setIfInBounds r (.mapIter (some m) since (seen.toArray.push L[j].born) clk) }, .tuple [.bool true, .int ik e.1, e.2.2], H.set r (.miter m since (seen ++ [e.2.1]) clk), ?_, .tuple _ _ rfl (fun i y u hy hu => ?_), disj_set_old hd hr, ?_, hstep e he h2⟩
      · have hset : ∀ o' : Obj, (setObj r o').run P w1 = .ok () { w1 with heap := w1.heap.setIfInBounds r o' } := fun o' => by simp [setObj, Sem.run, hbi1]
        simp only [hrun, Array.getElem?_map, Array.getElem?_eq_getElem hj, Option.map_some, Sem.run_bind, hset, Result.andThen]
        rfl
      · rcases i with _ | _ | _ | i <;> simp at hy hu
        · subst hy; subst hu; exact .bool _
        · subst hy; subst hu; rw [a]; exact .int _ _
        · subst hy; subst hu; exact c
      · rw [hun_set]
        refine hh1.putOb (hun_left hr) ?_
        show _ = _
        rw [b]
        simp
  · exact h.elim
theorem find_corr {α β : Type} {R : α → β → Prop} {p : α → Bool} {q : β → Bool} (hpq : ∀ a b, R a b → p a = q b) : ∀ {es : List α} {l : List β}, l.length = es.length → (∀ (i : Nat) a b, es[i]? = some a → l[i]? = some b → R a b) → ∀ {e}, es.find? p = some e → ∃ v, l.find? q = some v ∧ R e v
  | [], _, _, _, e, h => by cases h
  | a :: es, [], hl, _, _, _ => by simp at hl
  | a :: es, b :: l, hl, hR, e, h => by
    have h0 := hR 0 a b (by simp) (by simp)
    have hpq0 := hpq a b h0
    rw [List.find?_cons] at h ⊢
    cases hp : p a with
    | true =>
      rw [hp] at h hpq0
      injection h with h
      subst h
      exact ⟨b, by rw [← hpq0], h0⟩
    | false =>
      rw [hp] at h hpq0
      obtain ⟨v, h1, h2⟩ := find_corr hpq (es := es) (l := l) (by simpa using hl) (fun i a b ha hb => hR (i + 1) a b (by simpa using ha) (by simpa using hb)) h
      exact ⟨v, by rw [← hpq0]; exact h1, h2⟩
theorem op_entry (hd : Disj H F) (hh : Held W (hun H F) w) (hev : ∀ x, Rep W (ev x) (ρ x)) {it : Operand} (h : vcOp T (.entry it) ev H K) : GoodV W F K ((Instr.entry (ρ it)).run P w) := by
  simp only [vcOp, vcMap] at h
  split at h
  · rename_i r o hit
    obtain ⟨rfl, m, since, seen, last, ik, es, e, st, hr, hm, hst, hfd, hk⟩ := h
    have hx := hev it
    rw [hit] at hx
    generalize ρ it = vx at hx ⊢
    cases hx
    obtain ⟨arr, hb, hl, hes⟩ := hh.mapAt (hun_left hm)
    obtain ⟨_, ob, hbi, hob⟩ := hh.at_ r _ (hun_left hr)
    obtain rfl : ob = .mapIter (some m) since seen.toArray last := hob
    obtain ⟨y, h1, h2, h3, h4⟩ := find_corr (R := fun e (v : MapEntry) => v.key = .int ik e.1 ∧ v.born = e.2.1 ∧ Rep W e.2.2 v.val) (q := fun v : MapEntry => v.born == st) (fun a b hab => by simp only [hab.2.1]) hl hes hfd
    have h1' : arr.find? (fun v => v.born == st) = some y := by rw [← Array.find?_toList]; exact h1
    have hst' : seen.toArray.back? = some st := by simpa using hst
    refine ⟨.tuple #[y.key, y.val], w, .tuple [.int ik e.1, e.2.2], H, ?_, .tuple _ _ rfl (fun i a b ha hb => ?_), hd, hh, hk⟩
    · simp [Instr.entry, getObj, Sem.run_bind, Sem.run, hbi, hb, Result.andThen, hst', h1']
    · rcases i with _ | _ | i <;> simp at ha hb
      · subst ha; subst hb; rw [h2]; exact .int _ _
      · subst ha; subst hb; exact h4
  · exact h.elim
/-- **An operation, clean, is the machine's.** -/
theorem op_sound (hT : TabOk P T) (hd : Disj H F) (hh : Held W (hun H F) w) (hev : ∀ x, Rep W (ev x) (ρ x)) (o : Oper) (h : vcOp T o.op ev H K) : GoodN W F K ((execOp ρ o).run P w) := by
  cases ho : o.op with
  | move x => rw [ho] at h; simp only [execOp, ho]; exact good_value hd hh (hev x) h
  | assign x => rw [ho] at h; simp only [execOp, ho]; exact good_value hd hh (hev x) h
  | pick c a b =>
    rw [ho] at h
    simp only [vcOp] at h
    split at h
    · rename_i t e
      simp only [execOp, ho, ev_bool hev e, asBool]
      have h := splitB_elim h
      cases t
      · exact good_value hd hh (hev b) h
      · exact good_value hd hh (hev a) h
    · exact h.elim
  | alloc e => rw [ho] at h; simp only [execOp, ho]; exact (op_alloc hT hd hh h).next
  | box e x => rw [ho] at h; simp only [execOp, ho]; exact (op_box hd hh hev h).next
  | build t ps => rw [ho] at h; simp only [execOp, ho]; exact (op_build hT hd hh hev h).next
  | buildSlice t n ps => rw [ho] at h; simp only [execOp, ho]; exact (op_buildSlice hT hd hh hev h).next
  | load t a => rw [ho] at h; simp only [execOp, ho]; exact (op_load hT hd hh hev h).next
  | store t a v => rw [ho] at h; simp only [execOp, ho]; exact op_store hT hd hh hev h
  | nilCheck x => rw [ho] at h; exact op_nilCheck hd hh hev h ho
  | binOp op t x y t' => rw [ho] at h; simp only [execOp, ho]; exact (op_binOp hT hd hh hev h).next
  | unOp op t x => rw [ho] at h; simp only [execOp, ho]; exact (op_unOp hd hh hev h).next
  | convert s d x => rw [ho] at h; simp only [execOp, ho]; exact (op_convert hT hd hh hev h).next
  | makeInterface t x => rw [ho] at h; simp only [execOp, ho]; exact (op_makeInterface hT hd hh hev h).next
  | makeFunc fn a b => rw [ho] at h; simp only [execOp, ho]; exact (op_makeFunc hd hh hev h).next
  | makeSlice t l c => rw [ho] at h; simp only [execOp, ho]; exact (op_makeSlice hT hd hh hev h).next
  | slice t x lo hi mx =>
    rw [ho] at h
    cases mx with
    | some m =>
      cases lo with
      | some l => cases hi <;> exact h.elim
      | none =>
        cases hi with
        | none => exact h.elim
        | some hi => simp only [execOp, ho]; exact (op_slice3 hT hd hh hev h).next
    | none => simp only [execOp, ho]; exact (op_slice hT hd hh hev h).next
  | fieldAddr t x i => rw [ho] at h; simp only [execOp, ho]; exact (op_fieldAddr hT hd hh hev h).next
  | field t x i => rw [ho] at h; simp only [execOp, ho]; exact (op_field hT hd hh hev h).next
  | indexAddr t x i => rw [ho] at h; simp only [execOp, ho]; exact (op_indexAddr hT hd hh hev h).next
  | index t x i => rw [ho] at h; simp only [execOp, ho]; exact (op_index hT hd hh hev h).next
  | extract x i => rw [ho] at h; simp only [execOp, ho]; exact (op_extract hd hh hev h).next
  | makeMap t x => rw [ho] at h; simp only [execOp, ho]; exact (op_makeMap hd hh h).next
  | lookup t x i ok => rw [ho] at h; simp only [execOp, ho]; exact (op_lookup hT hd hh hev h).next
  | mapUpdate t m k x => rw [ho] at h; simp only [execOp, ho]; exact op_mapUpdate hT hd hh hev h
  | range t x => rw [ho] at h; simp only [execOp, ho]; exact (op_range hT hd hh hev h).next
  | next it s => rw [ho] at h; simp only [execOp, ho]; exact (op_next hd hh hev h).next
  | insert t m k x => rw [ho] at h; simp only [execOp, ho]; exact op_mapUpdate hT hd hh hev h
  | entry it => rw [ho] at h; simp only [execOp, ho]; exact (op_entry hd hh hev h).next
  | _ => rw [ho] at h; exact h.elim
end
end Go.Cl
set_option linter.unusedSimpArgs false
set_option linter.unusedVariables false
namespace Go.Cl
open Go.RowKit

def srcC (H : Hp) (sz : Nat) (x : CV) (K : Nat → List CV → Prop) : Prop :=
  match x with
  | .nilsl => K 0 []
  | .sl s xs => s = sz ∧ K xs.length xs.flatten
  | .ref r o n _ => ∃ cs, H r = some (.cells cs) ∧ o + n * sz ≤ cs.length ∧ K n ((cs.drop o).take (n * sz))
  | _ => False
def vcAppend (te : TI) (s x : CV) (H : Hp) (K : CV → Hp → Prop) : Prop :=
  srcC H te.size x fun m ys => match s with
    | .nilsl => m * te.bytes ≤ 140737488355328 ∧ (m = 0 → K .nilsl H) ∧ (0 < m → ∀ r c, H r = none → m ≤ c → K (.ref r 0 m c) (H.set r (.cells (ys ++ zeroCs te.zero ((c - m) * te.size)))))
    | .ref r o n c => ∃ cs, H r = some (.cells cs) ∧ o + c * te.size ≤ cs.length ∧ n ≤ c ∧ (n + m) * te.bytes ≤ 140737488355328 ∧
        (n + m ≤ c → K (.ref r o (n + m) c) (H.set r (.cells (cs.take (o + n * te.size) ++ ys ++ cs.drop (o + n * te.size + m * te.size))))) ∧
        (c < n + m → ∀ r' c', H r' = none → n + m ≤ c' → K (.ref r' 0 (n + m) c') (H.set r' (.cells ((cs.drop o).take (n * te.size) ++ ys ++ zeroCs te.zero ((c' - (n + m)) * te.size)))))
    | _ => False
def isSl : TK → Bool
  | .slice _ => true
  | _ => false
/-- What 'append(s, make([]E, n)...)' asks, of a nil slice. -/
def vcAppendMake (te : TI) (s x : CV) (H : Hp) (K : CV → Hp → Prop) : Prop := match s, x with
  | .nilsl, .int _ n => 0 < n ∧ n * te.bytes ≤ 140737488355328 ∧ ∀ r c zs, H r = none → n.toNat ≤ c → zs.length = c * te.size → K (.ref r 0 n.toNat c) (H.set r (.cells zs))
  | _, _ => False
/-- 'clear' of a slice. -/
def vcClear (T : Tab) (t : TypeId) (x : CV) (H : Hp) (K : CV → Hp → Prop) : Prop := match T t with
  | some ti => (match ti.kind with
    | .slice e => (match T e with
      | some te => (match x with
        | .ref r o n _ => ∃ cs, H r = some (.cells cs) ∧ o + n * te.size ≤ cs.length ∧ K (.tuple []) (H.set r (.cells (cs.take o ++ zeroCs te.zero (n * te.size) ++ cs.drop (o + n * te.size))))
        | .nilsl => K (.tuple []) H
        | _ => False)
      | none => False)
    | _ => False)
  | none => False
def vcBuiltin (T : Tab) (b : Builtin) (ts : Array TypeId) (xs : List CV) (H : Hp) (K : CV → Hp → Prop) : Prop :=
  match b, ts.toList, xs with
  | .len, [t], [x] => match T t with
    | some ti => (match ti.kind, x with
      | .slice _, .sl _ ys => K (.int .i64 ys.length) H
      | .slice _, .ref _ _ n _ => K (.int .i64 n) H
      | .slice _, .nilsl => K (.int .i64 0) H
      | .str, .str s => K (.int .i64 s.size) H
      | .arr n _, _ => K (.int .i64 n) H
      | _, _ => False)
    | none => False
  | .append, [t, t'], [s, x] => match T t, T t' with
    | some ti, some ti' => (match ti'.kind with
      | .int _ => (match ti.kind with
        | .slice e => (match T e with | some te => vcAppendMake te s x H K | none => False)
        | _ => False)
      | k' => isSl k' = true ∧ (match ti.kind with
        | .slice e => (match T e with | some te => vcAppend te s x H K | none => False)
        | _ => False))
    | _, _ => False
  | .min, _, [.int k a, .int _ b] => K (.int k (if b < a then b else a)) H
  | .max, _, [.int k a, .int _ b] => K (.int k (if b > a then b else a)) H
  | .cap, [t], [.ref _ _ _ c] => match T t with
    | some ti => (match ti.kind with
      | .slice _ => K (.int .i64 c) H
      | _ => False)
    | none => False
  | .cap, [t], [.nilsl] => match T t with
    | some ti => (match ti.kind with
      | .slice _ => K (.int .i64 0) H
      | _ => False)
    | none => False
  | .clear, [t], [x] => vcClear T t x H K
  | _, _, _ => False

section
variable {P : Program} {T : Tab} {W : World} {H F : Hp} {w : World} {K : CV → Hp → Prop}
theorem flatten_get (sz : Nat) (h0 : sz ≠ 0) : ∀ (xs : List (List CV)) (hz : ∀ (i : Nat) e, xs[i]? = some e → e.length = sz) (k : Nat), xs.flatten[k]? = (xs[k / sz]?).bind (·[k % sz]?)
  | [], _, k => by simp
  | x :: xs, hz, k => by
    have hx : x.length = sz := hz 0 x rfl
    rw [List.flatten_cons]
    rcases Nat.lt_or_ge k sz with hk | hk
    · rw [List.getElem?_append_left (by omega), Nat.div_eq_of_lt hk, Nat.mod_eq_of_lt hk]; rfl
    · rw [List.getElem?_append_right (by omega), hx, flatten_get sz h0 xs (fun i e he => hz (i + 1) e (by simpa using he)) (k - sz)]
      have e1 : k / sz = (k - sz) / sz + 1 := by
        rw [Nat.div_eq_sub_div (Nat.pos_of_ne_zero h0) hk]
      have e2 : k % sz = (k - sz) % sz := Nat.mod_eq_sub_mod hk
      rw [e1, e2]; simp
theorem flatten_len (sz : Nat) : ∀ (xs : List (List CV)) (hz : ∀ (i : Nat) e, xs[i]? = some e → e.length = sz), xs.flatten.length = xs.length * sz
  | [], _ => by simp
  | x :: xs, hz => by
    rw [List.flatten_cons, List.length_append, flatten_len sz xs (fun i e he => hz (i + 1) e (by simpa using he)), hz 0 x rfl, List.length_cons, Nat.succ_mul]; omega
theorem src_sound {sz : Nat} (h0 : sz ≠ 0) {x : CV} {v : Value} {K : Nat → List CV → Prop} (hh : Held W (hun H F) w) (hr : Rep W x v) (h : srcC H sz x K) :
    ∃ m ys, K m ys ∧ ys.length = m * sz ∧ (Builtin.lenOf v).run P w = .ok m w ∧ ∃ arr : Array Value, (∀ w', w'.heap = w.heap → (Builtin.firstCells sz m v).run P w' = .ok arr w') ∧ RepC W ys arr.toList := by
  unfold srcC at h
  split at h
  · rw [rep_nilsl hr]
    exact ⟨0, [], h, by simp, rfl, #[], fun _ _ => rfl, RepC.nil W⟩
  · rename_i s xs
    obtain ⟨rfl, hK⟩ := h
    cases hr with
    | sl _ _ A c vs hn hz hc hA hr =>
      refine ⟨_, _, hK, flatten_len s xs hz, rfl, ((List.range (xs.length * s)).map fun k => vs (k / s) (k % s)).toArray, fun w' hw => ?_, ?_⟩
      · cases hx : xs.length with
        | zero =>
          cases A with
          | none => simp [Builtin.firstCells]
          | some a => simp [Builtin.firstCells, loadCells, loadCellsFrom]
        | succ q =>
          obtain ⟨ad, rfl⟩ := hA (by omega)
          rw [← hx]
          refine run_loadCells w' ad (xs.length * s) _ fun k hk => ?_
          have hi : k / s < xs.length := by rw [Nat.div_lt_iff_lt_mul (Nat.pos_of_ne_zero h0)]; exact hk
          obtain ⟨ad', he, h1, _⟩ := hc (k / s) (k % s) hi (Nat.mod_lt _ (Nat.pos_of_ne_zero h0))
          injection he with he
          subst he
          rw [Nat.mul_comm, Nat.div_add_mod] at h1
          have : w'.cell? (ad.add k) = w.cell? (ad.add k) := by simp only [World.cell?, hw]
          rw [this]
          exact cell_old hh h1
      · refine ⟨⟨by simp [flatten_len s xs hz], fun k y u hy hu => ?_⟩, fun k u hu => ?_⟩
        · have hk : k < xs.length * s := by have := (List.getElem?_eq_some_iff.1 hy).1; rwa [flatten_len s xs hz] at this
          simp [hk] at hu
          subst hu
          rw [flatten_get s h0 xs hz] at hy
          obtain ⟨e, he, hy⟩ := Option.bind_eq_some_iff.1 hy
          exact hr _ _ e y he hy
        · have hk : k < xs.length * s := by have := (List.getElem?_eq_some_iff.1 hu).1; simpa using this
          simp [hk] at hu
          subst hu
          obtain ⟨_, _, _, h3⟩ := hc (k / s) (k % s) (by rw [Nat.div_lt_iff_lt_mul (Nat.pos_of_ne_zero h0)]; exact hk) (Nat.mod_lt _ (Nat.pos_of_ne_zero h0))
          exact h3
  · rename_i r o n c
    obtain ⟨cs, hcs, hle, hK⟩ := h
    rw [rep_ref hr]
    obtain ⟨arr, t', hb, hc⟩ := hh.cellsAt (hun_left hcs)
    have hal : cs.length = arr.size := by simpa using hc.1.1
    have hrc := (hc.drop o).take (n * sz)
    refine ⟨n, _, hK, by simp; omega, rfl, ((arr.toList.drop o).take (n * sz)).toArray, fun w' hw => ?_, by simpa using hrc⟩
    have hb' : w'.heap[r]? = some (.cells arr t' (0, 0)) := by rw [hw]; exact hb
    have := run_loadCells_list (P := P) w' ⟨r, o, none⟩ ((arr.toList.drop o).take (n * sz)) (fun j v hj => by
      rw [add_plain, cell_at hb']
      rw [List.getElem?_take] at hj
      split at hj
      · rw [List.getElem?_drop] at hj; simpa using hj
      · cases hj)
    have hl : ((arr.toList.drop o).take (n * sz)).length = n * sz := by simp; omega
    rw [hl] at this
    exact this
  · exact h.elim
theorem zero_cells {t : TypeId} {ti : TI} (f : TFact P t ti) (W : World) (k : Nat) : RepC W (zeroCs ti.zero (k * ti.size)) (Builtin.zeroCells f.z.cells k).toList := by
  have hl : f.z.cells.size = ti.size := by have := congrArg List.length f.hzc; rw [← f.hl]; simpa using this
  have := rep_zeroCs W f (k * ti.size)
  unfold Builtin.zeroCells
  rw [hl]
  rw [hl] at this
  exact this
theorem good_append (hT : TabOk P T) {t t' ty e : TypeId} {ti ti' te : TI} (ht : T t = some ti) (ht' : T t' = some ti') (hte : T e = some te) (hk : ti.kind = .slice e) (hk' : isSl ti'.kind = true)
    (hd : Disj H F) (hh : Held W (hun H F) w) {s x : CV} {sv xv : Value} (hs : Rep W s sv) (hx : Rep W x xv) (h : vcAppend te s x H K) : GoodV W F K ((Builtin.append_ #[t, t'] ty #[sv, xv]).run P w) := by
  obtain ⟨f⟩ := tfact hT ht
  obtain ⟨f'⟩ := tfact hT ht'
  obtain ⟨fe⟩ := tfact hT hte
  obtain ⟨e', hke⟩ : ∃ e', ti'.kind = .slice e' := by cases hq : ti'.kind <;> rw [hq] at hk' <;> first | exact ⟨_, rfl⟩ | cases hk'
  obtain ⟨m, ys, h, hyl, hlen, arr, harr, hya⟩ := src_sound (P := P) fe.h0 hh hx h
  have hnw : ∀ (sl cap : Nat) (base : Option Addr) (oldC : List CV) (old : Array Value), cap < sl + m → (sl + m) * te.bytes ≤ 140737488355328 → oldC.length = sl * te.size →
      (∀ w', w'.heap = w.heap → (Builtin.firstCells te.size sl (.slice base sl cap)).run P w' = .ok old w') → RepC W oldC old.toList →
      (∀ r c', H r = none → sl + m ≤ c' → K (.ref r 0 (sl + m) c') (H.set r (.cells (oldC ++ ys ++ zeroCs te.zero ((c' - (sl + m)) * te.size))))) →
      GoodV W F K ((Builtin.append_ #[t, t'] ty #[.slice base sl cap, xv]).run P w) := by
    intro sl cap base oldC old hc hb holdl hold hrold hK
    have h1 : ¬ (sl + m ≤ cap) := by omega
    have hfit := growslice_fits hc hb
    obtain ⟨c', hc1, hc2⟩ : ∃ c', (Question.appendCap (sl + m) cap e).cut (w.tape w.drawn (.appendCap (sl + m) cap e)) = c' ∧ sl + m ≤ c' := ⟨_, rfl, by simp [Question.cut]⟩
    have hrun : (Builtin.append_ #[t, t'] ty #[.slice base sl cap, xv]).run P w = .ok (.slice (some ⟨w.drew.heap.size, 0, none⟩) (sl + m) c') (w.drew.alloc (.cells (old ++ arr ++ Builtin.zeroCells fe.z.cells (c' - (sl + m))) e)) := by
      have hmax : ¬ ((((sl + m : Nat) : Int) > IntKind.i64.max) ∧ (false = true ∨ te.bytes = 0)) := by
        rintro ⟨_, h3⟩
        rcases h3 with h3 | h3
        · cases h3
        · exact fe.hb0 h3
      have hfit' : ¬ (Builtin.nextslicecap (sl + m) cap * te.bytes > 2 ^ 48) := by omega
      have hu : P.underlying t = some (.slice e) := by rw [f.hd, kind_slice f hk]
      have hu' : P.underlying t' = some (.slice e') := by rw [f'.hd, kind_slice f' hke]
      have ho1 := hold w.drew rfl
      have ha1 := harr w.drew rfl
      have hfor : (Question.appendCap (sl + m) cap e).forced = false := rfl
      simp only [false_or, Bool.false_eq_true] at hmax
      have hq : (w.tape w.drawn (.appendCap (sl + m) cap e)) = w.tape w.drawn (.appendCap (sl + m) cap e) := rfl
      have hlo : ∀ w', (Builtin.lenOf (.slice base sl cap)).run P w' = .ok sl w' := fun _ => rfl
      simp [Builtin.append_, run_underlying hu, run_underlying hu', sizeOf, typeInfo, fe.hi, fe.hs, fe.hb, zeroValue, fe.hz, hlen, h1, hfit', fe.hb0, ho1, ha1, hfor, hc1, newRow]
    rw [hrun]
    have hd2 : Disj H F := hd
    have hh2 : Held W (hun H F) w.drew := hh.drew
    refine good_new hd2 hh2 (cs := oldC ++ ys ++ zeroCs te.zero ((c' - (sl + m)) * te.size)) ?_ (mk := fun r => .slice (some ⟨r, 0, none⟩) (sl + m) c') (mc := fun r => .ref r 0 (sl + m) c') (fun r => .ref r 0 (sl + m) c') (fun r hr => hK r c' hr hc2)
    simpa using (hrold.append hya).append (zero_cells fe W (c' - (sl + m)))
  split at h
  · obtain ⟨hb, h0, h1⟩ := h
    rw [rep_nilsl hs]
    rcases Nat.eq_zero_or_pos m with hm | hm
    · subst hm
      have hys : ys = [] := List.eq_nil_of_length_eq_zero (by simpa using hyl)
      have hu : P.underlying t = some (.slice e) := by rw [f.hd, kind_slice f hk]
      have hu' : P.underlying t' = some (.slice e') := by rw [f'.hd, kind_slice f' hke]
      have hrun : (Builtin.append_ #[t, t'] ty #[.slice none 0 0, xv]).run P w = .ok (.slice none 0 0) w := by
        have ha1 := harr w rfl
        simp [Builtin.append_, run_underlying hu, run_underlying hu', sizeOf, typeInfo, fe.hi, fe.hs, hlen, ha1]
      rw [hrun]
      exact GoodV.mk hd hh .nilsl (h0 rfl)
    · refine hnw 0 0 none [] #[] (by omega) (by simpa using hb) (by simp) (fun _ _ => rfl) (RepC.nil W) (fun r c' hr hc => ?_)
      have := h1 hm r c' hr (by omega)
      simpa using this
  · rename_i r o n c _
    obtain ⟨cs, hcs, hfit, hnc, hb, hin, hout⟩ := h
    rw [rep_ref hs]
    obtain ⟨carr, t0, hbk, hcr⟩ := hh.cellsAt (hun_left hcs)
    have hal : cs.length = carr.size := by simpa using hcr.1.1
    have hnsz : n * te.size ≤ c * te.size := Nat.mul_le_mul_right _ hnc
    rcases Nat.lt_or_ge c (n + m) with hlt | hge
    · refine hnw n c (some ⟨r, o, none⟩) ((cs.drop o).take (n * te.size)) ((carr.toList.drop o).take (n * te.size)).toArray hlt hb (by simp; omega) (fun w' hw => ?_) (by simpa using (hcr.drop o).take (n * te.size)) (hout hlt)
      have hb' : w'.heap[r]? = some (.cells carr t0 (0, 0)) := by rw [hw]; exact hbk
      have := run_loadCells_list (P := P) w' ⟨r, o, none⟩ ((carr.toList.drop o).take (n * te.size)) (fun j v hj => by
        rw [add_plain, cell_at hb']
        rw [List.getElem?_take] at hj
        split at hj
        · rw [List.getElem?_drop] at hj; simpa using hj
        · cases hj)
      have hl : ((carr.toList.drop o).take (n * te.size)).length = n * te.size := by simp; omega
      rw [hl] at this
      exact this
    · have hu : P.underlying t = some (.slice e) := by rw [f.hd, kind_slice f hk]
      have hu' : P.underlying t' = some (.slice e') := by rw [f'.hd, kind_slice f' hke]
      have ha1 := harr w rfl
      have hmm : (n + m) * te.size ≤ c * te.size := Nat.mul_le_mul_right _ hge
      rw [Nat.add_mul] at hmm
      have hasz : arr.size = m * te.size := by rw [← hyl]; exact (by simpa using hya.1.1.symm)
      have hst := run_storeCells_at P r (o + n * te.size) t0 arr.toList 0 carr w hbk (by simp; omega) (fun u hu => by obtain ⟨i, hi⟩ := List.mem_iff_getElem?.1 hu; exact hya.2 i u hi)
      simp only [Nat.add_zero, Array.length_toList, hasz] at hst
      have hrun : (Builtin.append_ #[t, t'] ty #[.slice (some ⟨r, o, none⟩) n c, xv]).run P w = .ok (.slice (some ⟨r, o, none⟩) (n + m) c) (w.setRow r (carr.toList.take (o + n * te.size) ++ arr.toList ++ carr.toList.drop (o + n * te.size + m * te.size)).toArray) := by
        simp [Builtin.append_, run_underlying hu, run_underlying hu', sizeOf, typeInfo, fe.hi, fe.hs, hlen, ha1, hge, add_plain, hst]
      rw [hrun]
      refine ⟨_, _, .ref r o (n + m) c, H.set r (.cells (cs.take (o + n * te.size) ++ ys ++ cs.drop (o + n * te.size + m * te.size))), rfl, .ref r o (n + m) c, disj_set_old hd hcs, ?_, hin hge⟩
      rw [hun_set]
      refine hh.setRow (hun_left hcs) ?_
      simpa using ((hcr.take (o + n * te.size)).append hya).append (hcr.drop (o + n * te.size + m * te.size))
  · exact h.elim
theorem good_appendMake (hT : TabOk P T) {t t' ty e : TypeId} {ti ti' te : TI} {ik : IntKind} (ht : T t = some ti) (ht' : T t' = some ti') (hte : T e = some te) (hk : ti.kind = .slice e) (hk' : ti'.kind = .int ik)
    (hd : Disj H F) (hh : Held W (hun H F) w) {s x : CV} {sv xv : Value} (hs : Rep W s sv) (hx : Rep W x xv) (h : vcAppendMake te s x H K) : GoodV W F K ((Builtin.append_ #[t, t'] ty #[sv, xv]).run P w) := by
  obtain ⟨f⟩ := tfact hT ht
  obtain ⟨f'⟩ := tfact hT ht'
  obtain ⟨fe⟩ := tfact hT hte
  unfold vcAppendMake at h
  split at h
  · rename_i ik2 n
    obtain ⟨hn, hb, hK⟩ := h
    rw [rep_nilsl hs, rep_int hx]
    have hu : P.underlying t = some (.slice e) := by rw [f.hd, kind_slice f hk]
    have hu' : P.underlying t' = some (.int ik) := by rw [f'.hd, kind_int f' hk']
    have hb0 := fe.hb0
    have hb1 : (1 : Int) ≤ te.bytes := by omega
    have hn2 : n ≤ 140737488355328 := by
      have : n * 1 ≤ n * te.bytes := Int.mul_le_mul_of_nonneg_left hb1 (by omega)
      omega
    have hw : IntKind.i64.wrap n = n := by
      simp [IntKind.wrap, IntKind.bits, IntKind.signed]; omega
    obtain ⟨m, rfl⟩ := Int.eq_ofNat_of_zero_le (show 0 ≤ n by omega)
    have hm0 : 0 < m := by omega
    have hbm : m * te.bytes ≤ 140737488355328 := by have e1 : ((m * te.bytes : Nat) : Int) = (m : Int) * te.bytes := Int.natCast_mul _ _; omega
    obtain ⟨c', hc1, hc2⟩ : ∃ c', (Question.appendCap m 0 e).cut (w.tape w.drawn (.appendCap m 0 e)) = c' ∧ m ≤ c' := ⟨_, rfl, by simp only [Question.cut]; omega⟩
    have hfor : (Question.appendCap m 0 e).forced = false := rfl
    have hns : Builtin.nextslicecap m 0 = m := by simp [Builtin.nextslicecap, hm0]
    have hms : ¬ (m * te.size = 0) := by
      have := fe.h0
      simp only [Nat.mul_eq_zero]
      omega
    have hrun : (Builtin.append_ #[t, t'] ty #[.slice none 0 0, .int ik2 (m : Int)]).run P w = .ok (.slice (some ⟨w.drew.heap.size, 0, none⟩) m c') (w.drew.alloc (.cells (Builtin.zeroCells fe.z.cells m ++ Builtin.zeroCells fe.z.cells (c' - m)) e)) := by
      have h1 : ¬ (IntKind.i64.wrap (m : Int) < 0) := by omega
      have h2 : ¬ ((m : Int) * te.bytes > 2 ^ 48) := by omega
      have h3 : ¬ (m ≤ 0) := by omega
      have h4 : ¬ ((m : Int) > IntKind.i64.max) := by
        have : IntKind.i64.max = 9223372036854775807 := by decide
        omega
      have h5 : ¬ (m * te.bytes > 2 ^ 48) := by omega
      have hai : ∀ w', (asInt (.int ik2 (m : Int))).run P w' = .ok (m : Int) w' := fun _ => rfl
      simp [Builtin.append_, hai, run_underlying hu, run_underlying hu', sizeOf, typeInfo, fe.hi, fe.hs, fe.hb, zeroValue, fe.hz, hw, h1, h2, h3, h4, h5, hns, hms, hfor, hc1, newRow, Builtin.firstCells]
      have a1 : ¬ ((m : Int) < 0) := by omega
      have a2 : ¬ (281474976710656 < (m : Int) * te.bytes) := by omega
      have a3 : ¬ (m = 0) := by omega
      have a4 : ¬ (9223372036854775807 < (m : Int)) := by omega
      rw [if_neg a1, if_neg a2, if_neg a3, if_neg a4]
    rw [hrun]
    have hh2 : Held W (hun H F) w.drew := hh.drew
    refine good_new hd hh2 (cs := zeroCs te.zero (m * te.size) ++ zeroCs te.zero ((c' - m) * te.size)) ?_ (mk := fun r => .slice (some ⟨r, 0, none⟩) m c') (mc := fun r => .ref r 0 m c') (fun r => .ref r 0 m c') (fun r hr => ?_)
    · simpa using (zero_cells fe W m).append (zero_cells fe W (c' - m))
    · refine hK r c' _ hr (by simpa using hc2) ?_
      simp only [zeroCs, List.length_append, List.length_map, List.length_range, ← Nat.add_mul]
      congr 1
      omega
  · exact h.elim
theorem good_clear (hT : TabOk P T) {t ty : TypeId} (hd : Disj H F) (hh : Held W (hun H F) w) {x : CV} {v : Value} (hx : Rep W x v) (h : vcClear T t x H K) : GoodV W F K ((Builtin.clear_ #[t] ty #[v]).run P w) := by
  unfold vcClear at h
  split at h
  · rename_i ti ht
    obtain ⟨f⟩ := tfact hT ht
    split at h
    · rename_i e hk
      have hu : P.underlying t = some (.slice e) := by rw [f.hd, kind_slice f hk]
      split at h
      · rename_i te hte
        obtain ⟨fe⟩ := tfact hT hte
        split at h
        · rename_i r o n c
          obtain ⟨cs, hcs, hle, hK⟩ := h
          rw [rep_ref hx]
          obtain ⟨carr, t0, hbk, hcr⟩ := hh.cellsAt (hun_left hcs)
          have hal : cs.length = carr.size := by simpa using hcr.1.1
          have hz := zero_cells (P := P) fe W n
          have hzs : (Builtin.zeroCells fe.z.cells n).size = n * te.size := by
            have := hz.1.1
            rw [← Array.length_toList, ← this]
            simp [zeroCs]
          rcases Nat.eq_zero_or_pos n with hn | hn
          · subst hn
            have hcse : cs.take o ++ zeroCs te.zero (0 * te.size) ++ cs.drop (o + 0 * te.size) = cs := by simp [zeroCs]
            rw [hcse] at hK
            have hse : H.set r (.cells cs) = H := by
              funext i
              simp only [Hp.set]
              split
              · rename_i hi; rw [hi, hcs]
              · rfl
            rw [hse] at hK
            have hrun : (Builtin.clear_ #[t] ty #[.slice (some ⟨r, o, none⟩) 0 c]).run P w = .ok (.tuple #[]) w := by
              simp [Builtin.clear_, run_underlying hu]
            rw [hrun]
            exact GoodV.mk hd hh (.tuple [] #[] rfl (fun i x v hx => by simp at hx)) hK
          · have hst := run_storeCells_at P r o t0 (Builtin.zeroCells fe.z.cells n).toList 0 carr w hbk (by simp only [Array.length_toList, hzs]; omega) (fun u hu => by obtain ⟨i, hi⟩ := List.mem_iff_getElem?.1 hu; exact hz.2 i u hi)
            simp only [Nat.add_zero, Array.length_toList, hzs] at hst
            have hrun : (Builtin.clear_ #[t] ty #[.slice (some ⟨r, o, none⟩) n c]).run P w = .ok (.tuple #[]) (w.setRow r (carr.toList.take o ++ (Builtin.zeroCells fe.z.cells n).toList ++ carr.toList.drop (o + n * te.size)).toArray) := by
              obtain ⟨m, rfl⟩ : ∃ m, n = m + 1 := ⟨n - 1, by omega⟩
              simp [Builtin.clear_, run_underlying hu, zeroValue, typeInfo, fe.hi, fe.hz, add_plain, hst]
            rw [hrun]
            refine ⟨_, _, .tuple [], H.set r (.cells (cs.take o ++ zeroCs te.zero (n * te.size) ++ cs.drop (o + n * te.size))), rfl, .tuple [] #[] rfl (fun i x v hx => by simp at hx), disj_set_old hd hcs, ?_, hK⟩
            rw [hun_set]
            refine hh.setRow (hun_left hcs) ?_
            simpa using ((hcr.take o).append hz).append (hcr.drop (o + n * te.size))
        · rw [rep_nilsl hx]
          have hrun : (Builtin.clear_ #[t] ty #[.slice none 0 0]).run P w = .ok (.tuple #[]) w := by
            simp [Builtin.clear_, run_underlying hu]
          rw [hrun]
          exact GoodV.mk hd hh (.tuple [] #[] rfl (fun i x v hx => by simp at hx)) h
        · exact h.elim
      · exact h.elim
    · exact h.elim
  · exact h.elim
end
end Go.Cl
set_option linter.unusedSimpArgs false
set_option linter.unusedVariables false
namespace Go.Cl
open Go.RowKit

/-- What stays the same through a walk: the program, its types, the world at the call, the globals. -/
structure Cx where
  P : Program
  T : Tab
  W : World
  G : Nat → CV
structure CxOk (X : Cx) : Prop where
  hT : TabOk X.P X.T
  hG : ∀ g, Rep X.W (X.G g) (.pointer (some ⟨g, 0, none⟩))

def evC (X : Cx) (N : Nat) (e : Env) : Operand → CV
  | .tmp t => if t < N then e t else .any
  | .const v => cvOf v
  | .global g => X.G g
  | .func f => .func (.func f) [] []
def evs (X : Cx) (N : Nat) (e : Env) (l : List Operand) : List CV := l.map (evC X N e)
def CA.put (s : CA) (d : Option Nat) (v : CV) : CA := { s with env := s.env.put d v }
def CA.setv (s : CA) (d : Nat) (v : CV) : CA := { s with env := s.env.set d v }
def dstOk (N : Nat) : Option Nat → Bool
  | some d => decide (d < N)
  | none => true

def vcCall (X : Cx) (N : Nat) (c : Call) (s : CA) (H : Hp) (Q : CP) (K : CV → Hp → Prop) : Prop :=
  match c.callee with
  | .value f => match evC X N s.env f with
    | .func (.func g) first cap => CC X.P X.W g (first ++ evs X N s.env c.args.toList ++ cap) H fun x H' => match x with | .ret v => K v H' | .panic v => Q (.panic v) s H'
    | .func (.yield l) first _ => CY X.P X.W l (first ++ evs X N s.env c.args.toList) H fun b H' => K (.bool b) H'
    | _ => False
  | .builtin b => vcBuiltin X.T b c.argTypes (evs X N s.env c.args.toList) H K
  | .invoke _ _ => False
def vcDo (X : Cx) (N : Nat) (o : Oper) (s : CA) (H : Hp) (Q : CP) (K : CV → Hp → Prop) : Prop :=
  match o.op with
  | .call c => vcCall X N c s H Q K
  | .panic x => match evC X N s.env x with | .iface t v => Q (.panic (.iface t v)) s H | _ => False
  | op => vcOp X.T op (evC X N s.env) H K
/-- One operation of a region, and on. -/
def vcStepO (X : Cx) (N : Nat) (ops : Array Oper) (o : Oper) (Q : CP) (K : CA → Hp → Prop) (s : CA) (H : Hp) : Prop :=
  if dstOk N o.dst = true then (match o.guard with
    | none => vcDo X N o s H Q fun c H' => K (s.put o.dst c) H'
    | some (j, want) => match (ops[j]?).bind (·.dst) with
      | some d => match evC X N s.env (.tmp d) with
        | .bool b => splitB b fun b' => if b' = want then vcDo X N o (s.setv d (.bool b')) H Q fun c H' => K ((s.setv d (.bool b')).put o.dst c) H' else K ((s.setv d (.bool b')).put o.dst (.tuple [])) H
        | .tuple [] => K (s.put o.dst (.tuple [])) H
        | _ => False
      | none => False) else False
def vcStep (X : Cx) (N : Nat) (ops : Array Oper) (i : Nat) (Q : CP) (K : CA → Hp → Prop) (s : CA) (H : Hp) : Prop :=
  match ops[i]? with
  | none => False
  | some o => vcStepO X N ops o Q K s H
/-- All of a region's operations, in the text's order. -/
def vcL (X : Cx) (N : Nat) (ops : Array Oper) (Q : CP) : List Oper → CA → Hp → Prop
  | [], s, H => Q .normal s H
  | o :: l, s, H => vcStepO X N ops o Q (fun s' H' => vcL X N ops Q l s' H') s H
def vcOps (X : Cx) (N : Nat) (ops : Array Oper) (Q : CP) : List Nat → CA → Hp → Prop
  | [], s, H => Q .normal s H
  | i :: l, s, H => vcStep X N ops i Q (fun s' H' => vcOps X N ops Q l s' H') s H

section
variable {X : Cx} {N : Nat} {ρ : Option Nat} {Q : CP} {s : CA} {H : Hp}
theorem ev_rep (hX : CxOk X) {a : Act} (h : RepA X.W N s a) (o : Operand) : Rep X.W (evC X N s.env o) (a.eval o) := by
  cases o with
  | tmp t =>
    simp only [evC, Act.eval]
    split
    · rename_i ht; exact h.1.2 t ht
    · exact .any _
  | const v => exact rep_cvOf _ v
  | global g => exact hX.hG g
  | func f => exact .func _ _ _ _ _ rfl rfl (fun i x v hx => by simp at hx) (fun i x v hx => by simp at hx)
theorem evs_rep (hX : CxOk X) {a : Act} (h : RepA X.W N s a) (l : Array Operand) : RepL X.W (evs X N s.env l.toList) (l.map a.eval).toList := by
  refine ⟨by simp [evs], fun i x v hx hv => ?_⟩
  simp only [evs, List.getElem?_map, Array.toList_map] at hx hv
  cases hq : l.toList[i]? with
  | none => simp [hq] at hx
  | some o => simp only [hq, Option.map_some, Option.some.injEq] at hx hv; subst hx; subst hv; exact ev_rep hX h o
theorem RepA.put {W : World} {a : Act} (h : RepA W N s a) {d : Option Nat} (hd : dstOk N d = true) {c : CV} {v : Value} (hc : Rep W c v) : RepA W N (s.put d c) (a.put d v) := by
  cases d with
  | none => exact h
  | some d => exact ⟨h.1.put (by simpa [dstOk] using hd) hc, h.2⟩
theorem env_set_self {e : Env} {d : Nat} {c : CV} (h : e d = c) : e.set d c = e := by
  funext i; simp only [Env.set]; split
  · rename_i hi; rw [hi, h]
  · rfl
theorem setv_self {d : Nat} {c : CV} (h : s.env d = c) : s.setv d c = s := by
  unfold CA.setv; rw [env_set_self h]
theorem rep_undef (W : World) : Rep W (.tuple []) undef := .tuple [] #[] rfl (fun i x v hx => by simp at hx)
theorem leads_nil {f : FuncId} : True := trivial

/-- A call of a function. -/
theorem invoke_func {P : Program} {W : World} {f : FuncId} {av : Array Value} {w : World} (h : ∃ fn, P.funcs[f]? = some fn ∧ fn.body.isSome = true ∧ (fn.name == "runtime.NumGoroutine") = false) : (callFunc f av).run P w = .ok (.enter f av) w := by
  obtain ⟨fn, h1, h2, h3⟩ := h
  have h4 : fn.body.isNone = false := by cases hb : fn.body <;> simp [hb] at h2 ⊢
  simp only [callFunc, Sem.run_bind, run_program, Result.andThen_ok, h1, h3, h4, Bool.false_eq_true, if_false, Sem.run_pure]
theorem do_sound (hX : CxOk X) {F : Hp} {a : Act} {w : World} {o : Oper} {Kc : CV → Hp → Prop} {next : Act → World → Prop} (hd : Disj H F) (hr : RepA X.W N s a) (hh : Held X.W (hun H F) w) (hdst : dstOk N o.dst = true)
    (h : vcDo X N o s H Q Kc) (hn : ∀ c v H' w', Rep X.W c v → Disj H' F → Held X.W (hun H' F) w' → Kc c H' → next (a.put o.dst v) w') : o.wpIn (fen ρ) 0 X.P a w next (lift X.W N F Q) := by
  refine ⟨fun _ _ => trivial, ?_⟩
  unfold vcDo at h
  split at h
  · rename_i c hop
    have hsem : o.semAt ρ a.eval = execOp a.eval o := Oper.semAt_eq ρ a.eval o (by rw [hop]; intro c h; cases h)
    show o.uponIn (fen ρ) 0 X.P a next (lift X.W N F Q) ((o.semAt ρ a.eval).run X.P w)
    rw [hsem]
    simp only [execOp, hop]
    unfold vcCall at h
    split at h
    · rename_i f hcal
      have hf := ev_rep hX hr f
      split at h
      · rename_i g first cap hfe
        rw [hfe] at hf
        have hres : (resolve a.eval c o.type).run X.P w = (Deferred.ofValue (a.eval f) (c.args.map a.eval)).run X.P w := by simp only [resolve, hcal]
        rw [Sem.run_bind, hres]
        generalize a.eval f = fv at hf ⊢
        cases hf with
        | func _ _ _ fv cv hfl hcl hfr hcr =>
          have hav : RepL X.W (first ++ evs X N s.env c.args.toList ++ cap) (fv ++ c.args.map a.eval ++ cv).toList := by
            simp only [Array.toList_append]
            exact (RepL.append ⟨by simpa using hfl, fun i x v hx hv => hfr i x v hx (by simpa using hv)⟩ (evs_rep hX hr c.args)).append ⟨by simpa using hcl, fun i x v hx hv => hcr i x v hx (by simpa using hv)⟩
          have hinv : (invoke (.fn (.func g) cv) (fv ++ c.args.map a.eval)).run X.P w = .ok (.enter g (fv ++ c.args.map a.eval ++ cv)) w := invoke_func (W := X.W) h.ent
          simp only [Deferred.ofValue, Sem.run_pure, Result.andThen_ok]
          rw [hinv, Oper.uponIn_enter]
          refine ⟨fun h => by simp [fen] at h, ?_⟩
          refine CallsIn.mono (h.out F _ w hd hav hh : CallsIn (fen none) 0 X.P g _ w _) ?_
          rintro e w' ⟨x, H', hx, hd', hh', hR⟩
          cases x <;> cases e <;> simp only [RepEnd] at hx <;> first
            | exact hn _ _ _ _ hx hd' hh' hR
            | exact ⟨.panic _, s, H', hx, hr, hd', hh', hR⟩
      · rename_i l first cap hfe
        rw [hfe] at hf
        have hres : (resolve a.eval c o.type).run X.P w = (Deferred.ofValue (a.eval f) (c.args.map a.eval)).run X.P w := by simp only [resolve, hcal]
        rw [Sem.run_bind, hres]
        generalize a.eval f = fv at hf ⊢
        cases hf with
        | func _ _ _ fv cv hfl hcl hfr hcr =>
          have hav : RepL X.W (first ++ evs X N s.env c.args.toList) (fv ++ c.args.map a.eval).toList := by
            simp only [Array.toList_append]
            exact RepL.append ⟨by simpa using hfl, fun i x v hx hv => hfr i x v hx (by simpa using hv)⟩ (evs_rep hX hr c.args)
          obtain ⟨fn, ts, asg, body, hy, hround⟩ := h.out F _ w hd hav hh
          simp only [Deferred.ofValue, Sem.run_pure, Result.andThen_ok]
          have hinv : (invoke (.fn (.yield l) cv) (fv ++ c.args.map a.eval)).run X.P w = .ok (.round l fn ts asg body) w := hy
          rw [hinv, Oper.uponIn_round]
          refine ⟨fun h => by simp [fen] at h, ?_⟩
          refine RoundIn.mono (hround : RoundIn (fen none) 0 X.P l fn ts asg body w _) ?_
          rintro e w' ⟨b, H', rfl, hd', hh', hR⟩
          exact hn _ _ _ _ (.bool b) hd' hh' hR
      · exact h.elim
    · rename_i b hcal
      have hres : (resolve a.eval c o.type).run X.P w = .ok { target := .builtin b c.argTypes o.type (c.args.map fun | .const _ => true | _ => false), args := c.args.map a.eval } w := by simp only [resolve, hcal]; rfl
      rw [Sem.run_bind, hres]
      simp only [Result.andThen_ok, invoke]
      have hargs := evs_rep hX hr c.args
      generalize evs X N s.env c.args.toList = xs at h hargs
      generalize c.args.map a.eval = av at hargs ⊢
      have fin : ∀ {sv : Sem Value}, GoodV X.W F Kc (sv.run X.P w) → o.uponIn (fen ρ) 0 X.P a next (lift X.W N F Q) ((do let v ← sv; pure (Next.value v) : Sem Next).run X.P w) := by
        rintro sv ⟨v, w', c', H', hrun, h1, h2, h3, h4⟩
        rw [Sem.run_bind, hrun]
        exact hn c' v H' w' h1 h2 h3 h4
      unfold vcBuiltin at h
      split at h
      · rename_i t x hts
        have hta : c.argTypes = #[t] := by apply Array.toList_inj.1; simpa using hts
        obtain ⟨v, rfl⟩ : ∃ v, av = #[v] := by
          have := hargs.1
          refine ⟨av[0]'(by simp at this; omega), ?_⟩
          apply Array.ext
          · simp at this; simp; omega
          · intro i h1 h2
            simp at this
            have : i = 0 := by omega
            subst this; rfl
        have hv : Rep X.W x v := hargs.2 0 x v rfl rfl
        split at h
        · rename_i ti ht
          obtain ⟨f⟩ := tfact hX.hT ht
          simp only [builtin]
          refine fin ?_
          rw [hta]
          split at h
          · rename_i hk
            generalize hgs : v = v' at hv
            cases hv with
            | sl _ ys A cc vs hn' hz hc hA hr' =>
              subst hgs
              simp only [Builtin.len_, Sem.run_bind, f.und, kind_slice f hk, Result.andThen_ok]
              simp [f.und, kind_slice f hk, goInt]
              exact GoodV.mk hd hh (.int _ _) h
          · rename_i hk
            rw [rep_ref hv]
            simp [Builtin.len_, f.und, kind_slice f hk, goInt]
            exact GoodV.mk hd hh (.int _ _) h
          · rename_i hk
            rw [rep_nilsl hv]
            simp [Builtin.len_, f.und, kind_slice f hk, goInt]
            exact GoodV.mk hd hh (.int _ _) h
          · rename_i hk
            rw [rep_str hv]
            simp [Builtin.len_, f.und, kind_str f hk, goInt]
            exact GoodV.mk hd hh (.int _ _) h
          · rename_i hk
            simp [Builtin.len_, f.und, kind_arr f hk, goInt]
            exact GoodV.mk hd hh (.int _ _) h
          · exact h.elim
        · exact h.elim
      · rename_i t t' x y hts
        have hta : c.argTypes = #[t, t'] := by apply Array.toList_inj.1; simpa using hts
        obtain ⟨v, u, rfl⟩ : ∃ v u, av = #[v, u] := by
          have := hargs.1
          refine ⟨av[0]'(by simp at this; omega), av[1]'(by simp at this; omega), ?_⟩
          apply Array.ext
          · simp at this; simp; omega
          · intro i h1 h2
            simp at this
            have : i = 0 ∨ i = 1 := by omega
            rcases this with rfl | rfl <;> rfl
        have hv : Rep X.W x v := hargs.2 0 x v rfl rfl
        have hu : Rep X.W y u := hargs.2 1 y u rfl rfl
        split at h
        · rename_i ti ti' ht ht'
          split at h
          · rename_i ik hik
            split at h
            · rename_i e hk
              split at h
              · rename_i te hte
                simp only [builtin]
                rw [hta]
                exact fin (good_appendMake hX.hT ht ht' hte hk hik hd hh hv hu h)
              · exact h.elim
            · exact h.elim
          · obtain ⟨hk', h⟩ := h
            split at h
            · rename_i e hk
              split at h
              · rename_i te hte
                simp only [builtin]
                rw [hta]
                exact fin (good_append hX.hT ht ht' hte hk hk' hd hh hv hu h)
              · exact h.elim
            · exact h.elim
        · exact h.elim
      · rename_i k a1 k' b1
        obtain ⟨v, u, rfl⟩ : ∃ v u, av = #[v, u] := by
          have := hargs.1
          refine ⟨av[0]'(by simp at this; omega), av[1]'(by simp at this; omega), ?_⟩
          apply Array.ext
          · simp at this; simp; omega
          · intro i h1 h2
            simp at this
            have : i = 0 ∨ i = 1 := by omega
            rcases this with rfl | rfl <;> rfl
        have hv := rep_int (hargs.2 0 _ v rfl rfl)
        have hu := rep_int (hargs.2 1 _ u rfl rfl)
        subst hv; subst hu
        simp only [builtin]
        refine fin ?_
        simp only [Builtin.min_, List.foldlM_cons, List.foldlM_nil, Builtin.min2, pure_bind, Sem.run_pure]
        exact GoodV.mk hd hh (.int _ _) h
      · rename_i k a1 k' b1
        obtain ⟨v, u, rfl⟩ : ∃ v u, av = #[v, u] := by
          have := hargs.1
          refine ⟨av[0]'(by simp at this; omega), av[1]'(by simp at this; omega), ?_⟩
          apply Array.ext
          · simp at this; simp; omega
          · intro i h1 h2
            simp at this
            have : i = 0 ∨ i = 1 := by omega
            rcases this with rfl | rfl <;> rfl
        have hv := rep_int (hargs.2 0 _ v rfl rfl)
        have hu := rep_int (hargs.2 1 _ u rfl rfl)
        subst hv; subst hu
        simp only [builtin]
        refine fin ?_
        simp only [Builtin.max_, List.foldlM_cons, List.foldlM_nil, Builtin.max2, pure_bind, Sem.run_pure]
        exact GoodV.mk hd hh (.int _ _) h
      · rename_i t r0 o0 n0 c0 hts
        have hta : c.argTypes = #[t] := by apply Array.toList_inj.1; simpa using hts
        obtain ⟨v, rfl⟩ : ∃ v, av = #[v] := by
          have := hargs.1
          refine ⟨av[0]'(by simp at this; omega), ?_⟩
          apply Array.ext
          · simp at this; simp; omega
          · intro i h1 h2
            simp at this
            have : i = 0 := by omega
            subst this; rfl
        have hv := rep_ref (hargs.2 0 _ v rfl rfl)
        subst hv
        split at h
        · rename_i ti ht
          obtain ⟨f⟩ := tfact hX.hT ht
          simp only [builtin]
          refine fin ?_
          rw [hta]
          split at h
          · rename_i e hk
            simp [Builtin.cap_, f.und, kind_slice f hk, goInt]
            exact GoodV.mk hd hh (.int _ _) h
          · exact h.elim
        · exact h.elim
      · rename_i t hts
        have hta : c.argTypes = #[t] := by apply Array.toList_inj.1; simpa using hts
        obtain ⟨v, rfl⟩ : ∃ v, av = #[v] := by
          have := hargs.1
          refine ⟨av[0]'(by simp at this; omega), ?_⟩
          apply Array.ext
          · simp at this; simp; omega
          · intro i h1 h2
            simp at this
            have : i = 0 := by omega
            subst this; rfl
        have hv := rep_nilsl (hargs.2 0 _ v rfl rfl)
        subst hv
        split at h
        · rename_i ti ht
          obtain ⟨f⟩ := tfact hX.hT ht
          simp only [builtin]
          refine fin ?_
          rw [hta]
          split at h
          · rename_i e hk
            simp [Builtin.cap_, f.und, kind_slice f hk, goInt]
            exact GoodV.mk hd hh (.int _ _) h
          · exact h.elim
        · exact h.elim
      · rename_i t x hts
        have hta : c.argTypes = #[t] := by apply Array.toList_inj.1; simpa using hts
        obtain ⟨v, rfl⟩ : ∃ v, av = #[v] := by
          have := hargs.1
          refine ⟨av[0]'(by simp at this; omega), ?_⟩
          apply Array.ext
          · simp at this; simp; omega
          · intro i h1 h2
            simp at this
            have : i = 0 := by omega
            subst this; rfl
        have hv : Rep X.W x v := hargs.2 0 x v rfl rfl
        simp only [builtin]
        rw [hta]
        exact fin (good_clear hX.hT hd hh hv h)
      · exact h.elim
    · exact h.elim
  · rename_i x hop
    have hsem : o.semAt ρ a.eval = execOp a.eval o := Oper.semAt_eq ρ a.eval o (by rw [hop]; intro c h; cases h)
    show o.uponIn (fen ρ) 0 X.P a next (lift X.W N F Q) ((o.semAt ρ a.eval).run X.P w)
    rw [hsem]
    have hx := ev_rep hX hr x
    split at h
    · rename_i t v hxe
      rw [hxe] at hx
      simp only [execOp, hop]
      generalize a.eval x = xv at hx ⊢
      have hx' := hx
      cases hx with
      | iface _ _ v' hv' =>
        simp only [Instr.panic, Sem.run_bind, run_goPanic, Result.andThen_halt]
        exact ⟨.panic (.iface t v), s, H, ⟨_, rfl, hx'⟩, hr, hd, hh, h⟩
    · exact h.elim
  · rename_i hne1 hne2
    have hnd : ∀ c, o.op ≠ .defer c := by intro c hc; rw [hc] at h; exact h.elim
    have hsem : o.semAt ρ a.eval = execOp a.eval o := Oper.semAt_eq ρ a.eval o hnd
    show o.uponIn (fen ρ) 0 X.P a next (lift X.W N F Q) ((o.semAt ρ a.eval).run X.P w)
    rw [hsem]
    obtain ⟨nx, w', c, H', hrun, hnx, h2, h3, h4⟩ := op_sound hX.hT hd hh (fun x => ev_rep hX hr x) o h
    rw [hrun]
    rcases hnx with ⟨v, rfl, hv⟩ | ⟨rfl, rfl⟩
    · exact hn c v H' w' hv h2 h3 h4
    · exact hn .any undef H' w' (.any _) h2 h3 h4
end
end Go.Cl
