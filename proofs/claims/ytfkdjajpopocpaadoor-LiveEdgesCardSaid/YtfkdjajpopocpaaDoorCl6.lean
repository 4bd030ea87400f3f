/- DERIVED HERE. The clean layer's builtins: len, cap, append. -/
import Derived.Test.YtfkdjajpopocpaaDoorCl5
set_option linter.unusedSimpArgs false
set_option linter.unusedVariables false
namespace Go.Cl
open Go.RowKit

def srcC (H : Hp) (sz : Nat) (x : CV) (K : Nat → List CV → Prop) : Prop :=
  match x with
  | .nilsl => K 0 []
  | .sl s xs => s = sz ∧ K xs.length xs.flatten
  | .ref r o n _ => ∃ cs, H r = some (.cells cs) ∧ o + n * sz ≤ cs.length ∧ K n ((cs.drop o).take (n * sz))
  | _ => False
def vcAppend (te : TI) (s x : CV) (H : Hp) (K : CV → Hp → Prop) : Prop :=
  srcC H te.size x fun m ys => match s with
    | .nilsl => m * te.bytes ≤ 140737488355328 ∧ (m = 0 → K .nilsl H) ∧ (0 < m → ∀ r c, H r = none → m ≤ c → K (.ref r 0 m c) (H.set r (.cells (ys ++ zeroCs te.zero ((c - m) * te.size)))))
    | .ref r o n c => ∃ cs, H r = some (.cells cs) ∧ o + c * te.size ≤ cs.length ∧ n ≤ c ∧ (n + m) * te.bytes ≤ 140737488355328 ∧
        (n + m ≤ c → K (.ref r o (n + m) c) (H.set r (.cells (cs.take (o + n * te.size) ++ ys ++ cs.drop (o + n * te.size + m * te.size))))) ∧
        (c < n + m → ∀ r' c', H r' = none → n + m ≤ c' → K (.ref r' 0 (n + m) c') (H.set r' (.cells ((cs.drop o).take (n * te.size) ++ ys ++ zeroCs te.zero ((c' - (n + m)) * te.size)))))
    | _ => False
def isSl : TK → Bool
  | .slice _ => true
  | _ => false
def vcBuiltin (T : Tab) (b : Builtin) (ts : Array TypeId) (xs : List CV) (H : Hp) (K : CV → Hp → Prop) : Prop :=
  match b, ts.toList, xs with
  | .len, [t], [x] => match T t with
    | some ti => (match ti.kind, x with
      | .slice _, .sl _ ys => K (.int .i64 ys.length) H
      | .slice _, .ref _ _ n _ => K (.int .i64 n) H
      | .slice _, .nilsl => K (.int .i64 0) H
      | .str, .str s => K (.int .i64 s.size) H
      | .arr n _, _ => K (.int .i64 n) H
      | _, _ => False)
    | none => False
  | .append, [t, t'], [s, x] => match T t, T t' with
    | some ti, some ti' => isSl ti'.kind = true ∧ (match ti.kind with
      | .slice e => (match T e with | some te => vcAppend te s x H K | none => False)
      | _ => False)
    | _, _ => False
  | .min, _, [.int k a, .int _ b] => K (.int k (if b < a then b else a)) H
  | .max, _, [.int k a, .int _ b] => K (.int k (if b > a then b else a)) H
  | .cap, [t], [.ref _ _ _ c] => match T t with
    | some ti => (match ti.kind with
      | .slice _ => K (.int .i64 c) H
      | _ => False)
    | none => False
  | _, _, _ => False

section
variable {P : Program} {T : Tab} {W : World} {H F : Hp} {w : World} {K : CV → Hp → Prop}
theorem flatten_get (sz : Nat) (h0 : sz ≠ 0) : ∀ (xs : List (List CV)) (hz : ∀ (i : Nat) e, xs[i]? = some e → e.length = sz) (k : Nat), xs.flatten[k]? = (xs[k / sz]?).bind (·[k % sz]?)
  | [], _, k => by simp
  | x :: xs, hz, k => by
    have hx : x.length = sz := hz 0 x rfl
    rw [List.flatten_cons]
    rcases Nat.lt_or_ge k sz with hk | hk
    · rw [List.getElem?_append_left (by omega), Nat.div_eq_of_lt hk, Nat.mod_eq_of_lt hk]; rfl
    · rw [List.getElem?_append_right (by omega), hx, flatten_get sz h0 xs (fun i e he => hz (i + 1) e (by simpa using he)) (k - sz)]
      have e1 : k / sz = (k - sz) / sz + 1 := by
        rw [Nat.div_eq_sub_div (Nat.pos_of_ne_zero h0) hk]
      have e2 : k % sz = (k - sz) % sz := Nat.mod_eq_sub_mod hk
      rw [e1, e2]; simp
theorem flatten_len (sz : Nat) : ∀ (xs : List (List CV)) (hz : ∀ (i : Nat) e, xs[i]? = some e → e.length = sz), xs.flatten.length = xs.length * sz
  | [], _ => by simp
  | x :: xs, hz => by
    rw [List.flatten_cons, List.length_append, flatten_len sz xs (fun i e he => hz (i + 1) e (by simpa using he)), hz 0 x rfl, List.length_cons, Nat.succ_mul]; omega
theorem src_sound {sz : Nat} (h0 : sz ≠ 0) {x : CV} {v : Value} {K : Nat → List CV → Prop} (hh : Held W (hun H F) w) (hr : Rep W x v) (h : srcC H sz x K) :
    ∃ m ys, K m ys ∧ ys.length = m * sz ∧ (Builtin.lenOf v).run P w = .ok m w ∧ ∃ arr : Array Value, (∀ w', w'.heap = w.heap → (Builtin.firstCells sz m v).run P w' = .ok arr w') ∧ RepC W ys arr.toList := by
  unfold srcC at h
  split at h
  · rw [rep_nilsl hr]
    exact ⟨0, [], h, by simp, rfl, #[], fun _ _ => rfl, RepC.nil W⟩
  · rename_i s xs
    obtain ⟨rfl, hK⟩ := h
    cases hr with
    | sl _ _ A c vs hn hz hc hA hr =>
      refine ⟨_, _, hK, flatten_len s xs hz, rfl, ((List.range (xs.length * s)).map fun k => vs (k / s) (k % s)).toArray, fun w' hw => ?_, ?_⟩
      · cases hx : xs.length with
        | zero =>
          cases A with
          | none => simp [Builtin.firstCells]
          | some a => simp [Builtin.firstCells, loadCells, loadCellsFrom]
        | succ q =>
          obtain ⟨ad, rfl⟩ := hA (by omega)
          rw [← hx]
          refine run_loadCells w' ad (xs.length * s) _ fun k hk => ?_
          have hi : k / s < xs.length := by rw [Nat.div_lt_iff_lt_mul (Nat.pos_of_ne_zero h0)]; exact hk
          obtain ⟨ad', he, h1, _⟩ := hc (k / s) (k % s) hi (Nat.mod_lt _ (Nat.pos_of_ne_zero h0))
          injection he with he
          subst he
          rw [Nat.mul_comm, Nat.div_add_mod] at h1
          have : w'.cell? (ad.add k) = w.cell? (ad.add k) := by simp only [World.cell?, hw]
          rw [this]
          exact cell_old hh h1
      · refine ⟨⟨by simp [flatten_len s xs hz], fun k y u hy hu => ?_⟩, fun k u hu => ?_⟩
        · have hk : k < xs.length * s := by have := (List.getElem?_eq_some_iff.1 hy).1; rwa [flatten_len s xs hz] at this
          simp [hk] at hu
          subst hu
          rw [flatten_get s h0 xs hz] at hy
          obtain ⟨e, he, hy⟩ := Option.bind_eq_some_iff.1 hy
          exact hr _ _ e y he hy
        · have hk : k < xs.length * s := by have := (List.getElem?_eq_some_iff.1 hu).1; simpa using this
          simp [hk] at hu
          subst hu
          obtain ⟨_, _, _, h3⟩ := hc (k / s) (k % s) (by rw [Nat.div_lt_iff_lt_mul (Nat.pos_of_ne_zero h0)]; exact hk) (Nat.mod_lt _ (Nat.pos_of_ne_zero h0))
          exact h3
  · rename_i r o n c
    obtain ⟨cs, hcs, hle, hK⟩ := h
    rw [rep_ref hr]
    obtain ⟨arr, t', hb, hc⟩ := hh.cellsAt (hun_left hcs)
    have hal : cs.length = arr.size := by simpa using hc.1.1
    have hrc := (hc.drop o).take (n * sz)
    refine ⟨n, _, hK, by simp; omega, rfl, ((arr.toList.drop o).take (n * sz)).toArray, fun w' hw => ?_, by simpa using hrc⟩
    have hb' : w'.heap[r]? = some (.cells arr t' (0, 0)) := by rw [hw]; exact hb
    have := run_loadCells_list (P := P) w' ⟨r, o, none⟩ ((arr.toList.drop o).take (n * sz)) (fun j v hj => by
      rw [add_plain, cell_at hb']
      rw [List.getElem?_take] at hj
      split at hj
      · rw [List.getElem?_drop] at hj; simpa using hj
      · cases hj)
    have hl : ((arr.toList.drop o).take (n * sz)).length = n * sz := by simp; omega
    rw [hl] at this
    exact this
  · exact h.elim
theorem zero_cells {t : TypeId} {ti : TI} (f : TFact P t ti) (W : World) (k : Nat) : RepC W (zeroCs ti.zero (k * ti.size)) (Builtin.zeroCells f.z.cells k).toList := by
  have hl : f.z.cells.size = ti.size := by have := congrArg List.length f.hzc; rw [← f.hl]; simpa using this
  have := rep_zeroCs W f (k * ti.size)
  unfold Builtin.zeroCells
  rw [hl]
  rw [hl] at this
  exact this
theorem good_append (hT : TabOk P T) {t t' ty e : TypeId} {ti ti' te : TI} (ht : T t = some ti) (ht' : T t' = some ti') (hte : T e = some te) (hk : ti.kind = .slice e) (hk' : isSl ti'.kind = true)
    (hd : Disj H F) (hh : Held W (hun H F) w) {s x : CV} {sv xv : Value} (hs : Rep W s sv) (hx : Rep W x xv) (h : vcAppend te s x H K) : GoodV W F K ((Builtin.append_ #[t, t'] ty #[sv, xv]).run P w) := by
  obtain ⟨f⟩ := tfact hT ht
  obtain ⟨f'⟩ := tfact hT ht'
  obtain ⟨fe⟩ := tfact hT hte
  obtain ⟨e', hke⟩ : ∃ e', ti'.kind = .slice e' := by cases hq : ti'.kind <;> rw [hq] at hk' <;> first | exact ⟨_, rfl⟩ | cases hk'
  obtain ⟨m, ys, h, hyl, hlen, arr, harr, hya⟩ := src_sound (P := P) fe.h0 hh hx h
  have hnw : ∀ (sl cap : Nat) (base : Option Addr) (oldC : List CV) (old : Array Value), cap < sl + m → (sl + m) * te.bytes ≤ 140737488355328 → oldC.length = sl * te.size →
      (∀ w', w'.heap = w.heap → (Builtin.firstCells te.size sl (.slice base sl cap)).run P w' = .ok old w') → RepC W oldC old.toList →
      (∀ r c', H r = none → sl + m ≤ c' → K (.ref r 0 (sl + m) c') (H.set r (.cells (oldC ++ ys ++ zeroCs te.zero ((c' - (sl + m)) * te.size))))) →
      GoodV W F K ((Builtin.append_ #[t, t'] ty #[.slice base sl cap, xv]).run P w) := by
    intro sl cap base oldC old hc hb holdl hold hrold hK
    have h1 : ¬ (sl + m ≤ cap) := by omega
    have hfit := growslice_fits hc hb
    obtain ⟨c', hc1, hc2⟩ : ∃ c', (Question.appendCap (sl + m) cap e).cut (w.tape w.drawn (.appendCap (sl + m) cap e)) = c' ∧ sl + m ≤ c' := ⟨_, rfl, by simp [Question.cut]⟩
    have hrun : (Builtin.append_ #[t, t'] ty #[.slice base sl cap, xv]).run P w = .ok (.slice (some ⟨w.drew.heap.size, 0, none⟩) (sl + m) c') (w.drew.alloc (.cells (old ++ arr ++ Builtin.zeroCells fe.z.cells (c' - (sl + m))) e)) := by
      have hmax : ¬ ((((sl + m : Nat) : Int) > IntKind.i64.max) ∧ (false = true ∨ te.bytes = 0)) := by
        rintro ⟨_, h3⟩
        rcases h3 with h3 | h3
        · cases h3
        · exact fe.hb0 h3
      have hfit' : ¬ (Builtin.nextslicecap (sl + m) cap * te.bytes > 2 ^ 48) := by omega
      have hu : P.underlying t = some (.slice e) := by rw [f.hd, kind_slice f hk]
      have hu' : P.underlying t' = some (.slice e') := by rw [f'.hd, kind_slice f' hke]
      have ho1 := hold w.drew rfl
      have ha1 := harr w.drew rfl
      have hfor : (Question.appendCap (sl + m) cap e).forced = false := rfl
      simp only [false_or, Bool.false_eq_true] at hmax
      have hq : (w.tape w.drawn (.appendCap (sl + m) cap e)) = w.tape w.drawn (.appendCap (sl + m) cap e) := rfl
      have hlo : ∀ w', (Builtin.lenOf (.slice base sl cap)).run P w' = .ok sl w' := fun _ => rfl
      simp [Builtin.append_, run_underlying hu, run_underlying hu', sizeOf, typeInfo, fe.hi, fe.hs, fe.hb, zeroValue, fe.hz, hlen, h1, hfit', fe.hb0, ho1, ha1, hfor, hc1, newRow]
    rw [hrun]
    have hd2 : Disj H F := hd
    have hh2 : Held W (hun H F) w.drew := hh.drew
    refine good_new hd2 hh2 (cs := oldC ++ ys ++ zeroCs te.zero ((c' - (sl + m)) * te.size)) ?_ (mk := fun r => .slice (some ⟨r, 0, none⟩) (sl + m) c') (mc := fun r => .ref r 0 (sl + m) c') (fun r => .ref r 0 (sl + m) c') (fun r hr => hK r c' hr hc2)
    simpa using (hrold.append hya).append (zero_cells fe W (c' - (sl + m)))
  split at h
  · obtain ⟨hb, h0, h1⟩ := h
    rw [rep_nilsl hs]
    rcases Nat.eq_zero_or_pos m with hm | hm
    · subst hm
      have hys : ys = [] := List.eq_nil_of_length_eq_zero (by simpa using hyl)
      have hu : P.underlying t = some (.slice e) := by rw [f.hd, kind_slice f hk]
      have hu' : P.underlying t' = some (.slice e') := by rw [f'.hd, kind_slice f' hke]
      have hrun : (Builtin.append_ #[t, t'] ty #[.slice none 0 0, xv]).run P w = .ok (.slice none 0 0) w := by
        have ha1 := harr w rfl
        simp [Builtin.append_, run_underlying hu, run_underlying hu', sizeOf, typeInfo, fe.hi, fe.hs, hlen, ha1]
      rw [hrun]
      exact GoodV.mk hd hh .nilsl (h0 rfl)
    · refine hnw 0 0 none [] #[] (by omega) (by simpa using hb) (by simp) (fun _ _ => rfl) (RepC.nil W) (fun r c' hr hc => ?_)
      have := h1 hm r c' hr (by omega)
      simpa using this
  · rename_i r o n c _
    obtain ⟨cs, hcs, hfit, hnc, hb, hin, hout⟩ := h
    rw [rep_ref hs]
    obtain ⟨carr, t0, hbk, hcr⟩ := hh.cellsAt (hun_left hcs)
    have hal : cs.length = carr.size := by simpa using hcr.1.1
    have hnsz : n * te.size ≤ c * te.size := Nat.mul_le_mul_right _ hnc
    rcases Nat.lt_or_ge c (n + m) with hlt | hge
    · refine hnw n c (some ⟨r, o, none⟩) ((cs.drop o).take (n * te.size)) ((carr.toList.drop o).take (n * te.size)).toArray hlt hb (by simp; omega) (fun w' hw => ?_) (by simpa using (hcr.drop o).take (n * te.size)) (hout hlt)
      have hb' : w'.heap[r]? = some (.cells carr t0 (0, 0)) := by rw [hw]; exact hbk
      have := run_loadCells_list (P := P) w' ⟨r, o, none⟩ ((carr.toList.drop o).take (n * te.size)) (fun j v hj => by
        rw [add_plain, cell_at hb']
        rw [List.getElem?_take] at hj
        split at hj
        · rw [List.getElem?_drop] at hj; simpa using hj
        · cases hj)
      have hl : ((carr.toList.drop o).take (n * te.size)).length = n * te.size := by simp; omega
      rw [hl] at this
      exact this
    · have hu : P.underlying t = some (.slice e) := by rw [f.hd, kind_slice f hk]
      have hu' : P.underlying t' = some (.slice e') := by rw [f'.hd, kind_slice f' hke]
      have ha1 := harr w rfl
      have hmm : (n + m) * te.size ≤ c * te.size := Nat.mul_le_mul_right _ hge
      rw [Nat.add_mul] at hmm
      have hasz : arr.size = m * te.size := by rw [← hyl]; exact (by simpa using hya.1.1.symm)
      have hst := run_storeCells_at P r (o + n * te.size) t0 arr.toList 0 carr w hbk (by simp; omega) (fun u hu => by obtain ⟨i, hi⟩ := List.mem_iff_getElem?.1 hu; exact hya.2 i u hi)
      simp only [Nat.add_zero, Array.length_toList, hasz] at hst
      have hrun : (Builtin.append_ #[t, t'] ty #[.slice (some ⟨r, o, none⟩) n c, xv]).run P w = .ok (.slice (some ⟨r, o, none⟩) (n + m) c) (w.setRow r (carr.toList.take (o + n * te.size) ++ arr.toList ++ carr.toList.drop (o + n * te.size + m * te.size)).toArray) := by
        simp [Builtin.append_, run_underlying hu, run_underlying hu', sizeOf, typeInfo, fe.hi, fe.hs, hlen, ha1, hge, add_plain, hst]
      rw [hrun]
      refine ⟨_, _, .ref r o (n + m) c, H.set r (.cells (cs.take (o + n * te.size) ++ ys ++ cs.drop (o + n * te.size + m * te.size))), rfl, .ref r o (n + m) c, disj_set_old hd hcs, ?_, hin hge⟩
      rw [hun_set]
      refine hh.setRow (hun_left hcs) ?_
      simpa using ((hcr.take (o + n * te.size)).append hya).append (hcr.drop (o + n * te.size + m * te.size))
  · exact h.elim
end
end Go.Cl
