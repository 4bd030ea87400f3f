/- DERIVED HERE. The clean layer: regions that draw their order. -/
import Derived.Test.YtfkdjajpopocpaaDoorCl9
set_option linter.unusedSimpArgs false
set_option linter.unusedVariables false
namespace Go.Cl
open Go.RowKit

section
variable {X : Cx} {N : Nat} {ρ : Option Nat} {Q : CP} {s : CA} {H : Hp} {T : Tab}
theorem bnd_congr {a b : Option CV} {d : Nat} {K : Nat → Prop} (h : a = b) : bnd a d K = bnd b d K := by rw [h]
theorem map_ev_congr {ev ev' : Operand → CV} {l : List Operand} (h : ∀ x ∈ l, ev x = ev' x) : l.map ev = l.map ev' := List.map_congr_left h
theorem parts_congr {ev ev' : Operand → CV} {ps : Array (Nat × Operand)} (h : ∀ x ∈ (ps.toList.map (·.2)), ev x = ev' x) : (ps.toList.map fun p => (p.1, ev p.2)) = (ps.toList.map fun p => (p.1, ev' p.2)) :=
  List.map_congr_left fun p hp => by rw [h p.2 (List.mem_map.2 ⟨p, hp, rfl⟩)]
theorem opt_congr {ev ev' : Operand → CV} {o : Option Operand} (h : ∀ x ∈ o.toArray, ev x = ev' x) : o.map ev = o.map ev' := by
  cases o with
  | none => rfl
  | some x => simp [h x (by simp)]
/-- An operation looks at its operands alone. -/
theorem vcOp_congr {o : Op} {ev ev' : Operand → CV} {K : CV → Hp → Prop} (h : ∀ x ∈ o.operands, ev x = ev' x) : vcOp T o ev H K = vcOp T o ev' H K := by
  cases o with
  | build t ps => simp only [vcOp]; rw [parts_congr (fun x hx => h x (by simpa [Op.operands] using hx))]
  | buildSlice t n ps => simp only [vcOp]; rw [parts_congr (fun x hx => h x (by simpa [Op.operands] using hx))]
  | makeFunc fn a b =>
    simp only [vcOp]
    rw [map_ev_congr (l := a.toList) (fun x hx => h x (by simp [Op.operands]; left; simpa using hx)), map_ev_congr (l := b.toList) (fun x hx => h x (by simp [Op.operands]; right; simpa using hx))]
  | slice t x lo hi mx =>
    cases mx with
    | some m =>
      cases lo with
      | some l => cases hi <;> rfl
      | none =>
        cases hi with
        | none => rfl
        | some hi => simp only [vcOp]; rw [h x (by simp [Op.operands]), h hi (by simp [Op.operands]), h m (by simp [Op.operands])]
    | none =>
      simp only [vcOp]
      rw [h x (by simp [Op.operands]), opt_congr (o := lo) (fun y hy => h y (by simp [Op.operands]; simp at hy; simp [hy])), opt_congr (o := hi) (fun y hy => h y (by simp [Op.operands]; simp at hy; simp [hy]))]
  | move x => simp only [vcOp]; rw [h x (by simp [Op.operands])]
  | assign x => simp only [vcOp]; rw [h x (by simp [Op.operands])]
  | pick c a b => simp only [vcOp]; rw [h c (by simp [Op.operands]), h a (by simp [Op.operands]), h b (by simp [Op.operands])]
  | alloc e => rfl
  | box e x => simp only [vcOp]; rw [h x (by simp [Op.operands])]
  | load t a => simp only [vcOp]; rw [h a (by simp [Op.operands])]
  | store t a v => simp only [vcOp]; rw [h a (by simp [Op.operands]), h v (by simp [Op.operands])]
  | nilCheck x => simp only [vcOp]; rw [h x (by simp [Op.operands])]
  | binOp op t x y t' => simp only [vcOp]; rw [h x (by simp [Op.operands]), h y (by simp [Op.operands])]
  | unOp op t x => simp only [vcOp]; rw [h x (by simp [Op.operands])]
  | convert a b x => simp only [vcOp]; rw [h x (by simp [Op.operands])]
  | makeInterface t x => simp only [vcOp]; rw [h x (by simp [Op.operands])]
  | makeSlice t l c => simp only [vcOp]; rw [h l (by simp [Op.operands]), h c (by simp [Op.operands])]
  | fieldAddr t x i => simp only [vcOp]; rw [h x (by simp [Op.operands])]
  | field t x i => simp only [vcOp]; rw [h x (by simp [Op.operands])]
  | indexAddr t x i => simp only [vcOp]; rw [h x (by simp [Op.operands]), h i (by simp [Op.operands])]
  | index t x i => simp only [vcOp]; rw [h x (by simp [Op.operands]), h i (by simp [Op.operands])]
  | extract x i => simp only [vcOp]; rw [h x (by simp [Op.operands])]
  | _ => rfl
/-- The temporaries that an operation reads. -/
def rdT (o : Op) : List Nat := o.operands.toList.filterMap fun | .tmp t => some t | _ => none
theorem evC_agree {e e' : Env} {o : Op} (h : ∀ t ∈ rdT o, e t = e' t) : ∀ x ∈ o.operands, evC X N e x = evC X N e' x := by
  intro x hx
  cases x with
  | tmp t =>
    simp only [evC]
    rw [h t (by simp only [rdT, List.mem_filterMap]; exact ⟨.tmp t, by simpa using hx, rfl⟩)]
  | _ => rfl
def noP (Q : CP) : CP := fun x s H => match x with | .panic _ => False | x => Q x s H
theorem vcDo_congr {o : Oper} {s s' : CA} {K : CV → Hp → Prop} (hp : ∀ x, o.op ≠ .panic x) (h : ∀ t ∈ rdT o.op, s.env t = s'.env t) : vcDo X N o s H (noP Q) K = vcDo X N o s' H (noP Q) K := by
  have ha := evC_agree (X := X) (N := N) h
  unfold vcDo
  split
  · rename_i c hc
    rw [hc] at ha
    have hl : evs X N s.env c.args.toList = evs X N s'.env c.args.toList := map_ev_congr (fun x hx => ha x (by
      simp only [Op.operands, Call.operands, Array.mem_append]; right; simpa using hx))
    unfold vcCall
    split
    · rename_i f hf
      have he : evC X N s.env f = evC X N s'.env f := ha f (by simp only [Op.operands, Call.operands, hf, Array.mem_append]; left; simp)
      rw [he, hl]
      rfl
    · rw [hl]
    · rfl
  · rename_i x hx
    exact absurd hx (hp x)
  · exact vcOp_congr ha
theorem vcLoad_mono {ti : TI} {cs : List CV} {o : Nat} {K K' : CV → Prop} (h : vcLoad ti cs o K) (hk : ∀ c, K c → K' c) : vcLoad ti cs o K' := by
  unfold vcLoad at h ⊢
  split
  · rename_i ha; rw [if_pos ha] at h; exact ⟨h.1, hk _ h.2⟩
  · rename_i ha; rw [if_neg ha] at h; obtain ⟨c, h1, h2⟩ := h; exact ⟨c, h1, hk _ h2⟩
theorem vcLoad_exact {ti : TI} {cs : List CV} {o : Nat} {K : CV → Prop} (h : vcLoad ti cs o K) : ∃ c, K c ∧ vcLoad ti cs o (fun c' => c' = c) := by
  unfold vcLoad at h ⊢
  split
  · rename_i ha; rw [if_pos ha] at h; exact ⟨_, h.2, h.1, rfl⟩
  · rename_i ha; rw [if_neg ha] at h; obtain ⟨c, h1, h2⟩ := h; exact ⟨c, h2, c, h1, rfl⟩
theorem vcCmp_mono {op : BinOp} {a b : Int} {K K' : CV → Prop} (h : vcCmp op a b K) (hk : ∀ c, K c → K' c) : vcCmp op a b K' := by
  cases op <;> simp only [vcCmp] at h ⊢ <;> first | exact hk _ h | exact h
theorem vcInt_mono {op : BinOp} {k : IntKind} {a b : Int} {K K' : CV → Prop} (h : vcInt op k a b K) (hk : ∀ c, K c → K' c) : vcInt op k a b K' := by
  cases op <;> simp only [vcInt] at h ⊢ <;> first
    | exact vcCmp_mono h hk
    | (obtain ⟨z, h1, h2⟩ := h; exact ⟨z, h1, hk _ h2⟩)
    | (obtain ⟨h0, z, h1, h2⟩ := h; exact ⟨h0, z, h1, hk _ h2⟩)
    | exact ⟨h.1, hk _ h.2⟩
    | exact hk _ h
theorem vcBin_mono {op : BinOp} {t : TypeId} {x y : CV} {K K' : CV → Prop} (h : vcBin T op t x y K) (hk : ∀ c, K c → K' c) : vcBin T op t x y K' := by
  unfold vcBin at h ⊢
  split at h
  · exact ⟨h.1, vcInt_mono h.2 hk⟩
  · refine ⟨h.1, ?_⟩
    obtain ⟨_, h⟩ := h
    cases op <;> first | exact hk _ h | exact h
  · cases op <;> first | exact hk _ h | exact h
  · refine ⟨h.1, ?_⟩
    obtain ⟨_, h⟩ := h
    cases op <;> first | exact hk _ h | exact h
  · refine ⟨h.1, ?_⟩
    obtain ⟨_, h⟩ := h
    cases op <;> first | exact hk _ h | exact h
  · refine ⟨h.1, h.2.1, ?_⟩
    obtain ⟨_, _, h⟩ := h
    cases op <;> first | exact hk _ h | exact h
  · exact h
theorem vcCmp_exact {op : BinOp} {a b : Int} {K : CV → Prop} (h : vcCmp op a b K) : ∃ c, K c ∧ vcCmp op a b (fun c' => c' = c) := by
  cases op <;> simp only [vcCmp] at h ⊢ <;> first | exact ⟨_, h, rfl⟩ | exact h.elim
theorem vcInt_exact {op : BinOp} {k : IntKind} {a b : Int} {K : CV → Prop} (h : vcInt op k a b K) : ∃ c, K c ∧ vcInt op k a b (fun c' => c' = c) := by
  cases op <;> simp only [vcInt] at h ⊢ <;> first
    | exact vcCmp_exact h
    | (obtain ⟨z, h1, h2⟩ := h; exact ⟨_, h2, z, h1, rfl⟩)
    | (obtain ⟨h0, z, h1, h2⟩ := h; exact ⟨_, h2, h0, z, h1, rfl⟩)
    | exact ⟨_, h.2, h.1, rfl⟩
    | exact ⟨_, h, rfl⟩
theorem vcBin_exact {op : BinOp} {t : TypeId} {x y : CV} {K : CV → Prop} (h : vcBin T op t x y K) : ∃ c, K c ∧ vcBin T op t x y (fun c' => c' = c) := by
  unfold vcBin at h ⊢
  split at h
  · obtain ⟨c, h1, h2⟩ := vcInt_exact h.2
    exact ⟨c, h1, h.1, h2⟩
  · obtain ⟨h0, h⟩ := h
    cases op <;> first | exact ⟨_, h, h0, rfl⟩ | exact h.elim
  · cases op <;> first | exact ⟨_, h, rfl⟩ | exact h.elim
  · obtain ⟨h0, h⟩ := h
    cases op <;> first | exact ⟨_, h, h0, rfl⟩ | exact h.elim
  · obtain ⟨h0, h⟩ := h
    cases op <;> first | exact ⟨_, h, h0, rfl⟩ | exact h.elim
  · obtain ⟨h0, h1, h⟩ := h
    cases op <;> first | exact ⟨_, h, h0, h1, rfl⟩ | exact h.elim
  · exact h.elim
theorem srcC_mono {sz : Nat} {x : CV} {K K' : Nat → List CV → Prop} (h : srcC H sz x K) (hk : ∀ n l, K n l → K' n l) : srcC H sz x K' := by
  unfold srcC at h ⊢
  split at h
  · exact hk _ _ h
  · exact ⟨h.1, hk _ _ h.2⟩
  · obtain ⟨cs, h1, h2, h3⟩ := h; exact ⟨cs, h1, h2, hk _ _ h3⟩
  · exact h
theorem vcBuiltin_mono {b : Builtin} {ts : Array TypeId} {xs : List CV} {K K' : CV → Hp → Prop} (h : vcBuiltin T b ts xs H K) (hk : ∀ c H', K c H' → K' c H') : vcBuiltin T b ts xs H K' := by
  unfold vcBuiltin at h ⊢
  split at h
  · split at h
    · split at h <;> first | exact hk _ _ h | exact h
    · exact h
  · split at h
    · refine ⟨h.1, ?_⟩
      obtain ⟨_, h⟩ := h
      split at h
      · split at h
        · unfold vcAppend at h ⊢
          refine srcC_mono h fun m ys h => ?_
          split at h
          · exact ⟨h.1, fun hm => hk _ _ (h.2.1 hm), fun hm r c hr hc => hk _ _ (h.2.2 hm r c hr hc)⟩
          · obtain ⟨cs, h1, h2, h3, h4, h5, h6⟩ := h
            exact ⟨cs, h1, h2, h3, h4, fun hle => hk _ _ (h5 hle), fun hlt r c hr hc => hk _ _ (h6 hlt r c hr hc)⟩
          · exact h
        · exact h
      · exact h
    · exact h
  · exact hk _ _ h
  · exact hk _ _ h
  · split at h
    · split at h
      · exact hk _ _ h
      · exact h
    · exact h
  · exact h
theorem vcSl3_mono {t : TypeId} {x hi mx : CV} {K K' : CV → Prop} (h : vcSl3 T t x hi mx K) (hk : ∀ c, K c → K' c) : vcSl3 T t x hi mx K' := by
  unfold vcSl3 at h ⊢
  split at h
  · split at h
    · exact ⟨h.1, h.2.1, h.2.2.1, h.2.2.2.1, hk _ h.2.2.2.2⟩
    · exact ⟨h.1, h.2.1, h.2.2.1, hk _ h.2.2.2⟩
    · exact h
  · exact h
theorem vcSl3_exact {t : TypeId} {x hi mx : CV} {K : CV → Prop} (h : vcSl3 T t x hi mx K) : ∃ c, K c ∧ vcSl3 T t x hi mx (fun c' => c' = c) := by
  unfold vcSl3 at h ⊢
  split at h
  · split at h
    · exact ⟨_, h.2.2.2.2, h.1, h.2.1, h.2.2.1, h.2.2.2.1, rfl⟩
    · exact ⟨_, h.2.2.2, h.1, h.2.1, h.2.2.1, rfl⟩
    · exact h.elim
  · exact h.elim
theorem vcOp_mono {o : Op} {ev : Operand → CV} {K K' : CV → Hp → Prop} (h : vcOp T o ev H K) (hk : ∀ c H', K c H' → K' c H') : vcOp T o ev H K' := by
  cases o with
  | move x => exact hk _ _ h
  | assign x => exact hk _ _ h
  | pick c a b => simp only [vcOp] at h ⊢; split <;> (rename_i e; simp only [e] at h); exact ⟨fun ht => hk _ _ (h.1 ht), fun ht => hk _ _ (h.2 ht)⟩
  | alloc e => simp only [vcOp] at h ⊢; split <;> (rename_i e; simp only [e] at h); exact fun r hr => hk _ _ (h r hr)
  | box e x => exact ⟨h.1, fun r hr => hk _ _ (h.2 r hr)⟩
  | build t ps =>
    simp only [vcOp] at h ⊢
    split at h
    · split at h
      · obtain ⟨cs, h1, h2⟩ := h; exact ⟨cs, h1, hk _ _ h2⟩
      · split at h
        · obtain ⟨cs, h1, h2⟩ := h; exact ⟨cs, h1, hk _ _ h2⟩
        · exact h
      · exact h
    · exact h
  | buildSlice t n ps =>
    simp only [vcOp] at h ⊢
    split at h
    · split at h
      · split at h
        · obtain ⟨h0, cs, h1, h2⟩ := h; exact ⟨h0, cs, h1, fun r hr => hk _ _ (h2 r hr)⟩
        · exact h
      · exact h
    · exact h
  | load t a =>
    simp only [vcOp] at h ⊢
    split at h
    · split at h
      · obtain ⟨cs, h1, h2⟩ := h; exact ⟨cs, h1, vcLoad_mono h2 fun c => hk c H⟩
      · exact vcLoad_mono h fun c => hk c H
      · exact h
    · exact h
  | store t a v =>
    simp only [vcOp] at h ⊢
    split at h
    · split at h
      · obtain ⟨cs, h1, h2, h3, h4, h5⟩ := h; exact ⟨cs, h1, h2, h3, h4, hk _ _ h5⟩
      · exact h
    · exact h
  | nilCheck x => simp only [vcOp] at h ⊢; split at h <;> first | exact hk _ _ h | exact h
  | binOp op t x y t' => exact vcBin_mono h fun c => hk c H
  | unOp op t x =>
    simp only [vcOp] at h ⊢
    split at h
    · exact hk _ _ h
    · obtain ⟨z, h1, h2⟩ := h; exact ⟨z, h1, hk _ _ h2⟩
    · exact h
  | convert a b x =>
    simp only [vcOp] at h ⊢
    split at h
    · split at h
      · obtain ⟨z, h1, h2⟩ := h; exact ⟨z, h1, hk _ _ h2⟩
      · exact h
    · exact h
  | makeInterface t x =>
    simp only [vcOp] at h ⊢
    split at h
    · exact ⟨h.1, hk _ _ h.2⟩
    · exact h
  | makeFunc fn a b => exact hk _ _ h
  | makeSlice t l c =>
    simp only [vcOp] at h ⊢
    split at h
    · split at h
      · split at h
        · split at h
          · obtain ⟨h1, h2, h3, h4, h5⟩ := h; exact ⟨h1, h2, h3, h4, fun r hr => hk _ _ (h5 r hr)⟩
          · exact h
        · exact h
      · exact h
    · exact h
  | slice t x lo hi mx =>
    cases mx with
    | some m =>
      cases lo with
      | some l => cases hi <;> exact h.elim
      | none =>
        cases hi with
        | none => exact h.elim
        | some hi => simp only [vcOp] at h ⊢; exact vcSl3_mono h fun c => hk c _
    | none =>
      simp only [vcOp] at h ⊢
      split at h
      · split at h
        · split at h
          · split at h
            · exact ⟨h.1, bnd_mono h.2 fun a ha => ⟨ha.1, bnd_mono ha.2 fun l hl => ⟨hl.1, hk _ _ hl.2⟩⟩⟩
            · exact bnd_mono h fun a ha => ⟨ha.1, bnd_mono ha.2 fun l hl => ⟨hl.1, hk _ _ hl.2⟩⟩
            · exact bnd_mono h fun a ha => ⟨ha.1, bnd_mono ha.2 fun l hl => ⟨hl.1, hk _ _ hl.2⟩⟩
            · exact h
          · exact h
        · split at h
          · exact bnd_mono h fun a ha => ⟨ha.1, bnd_mono ha.2 fun l hl => ⟨hl.1, hk _ _ hl.2⟩⟩
          · exact h
        · exact h
      · exact h
  | fieldAddr t x i =>
    simp only [vcOp] at h ⊢
    split at h
    · split at h
      · split at h
        · refine ⟨h.1, ?_⟩
          obtain ⟨_, h⟩ := h
          split at h <;> first | exact hk _ _ h | exact h
        · exact h
      · exact h
    · exact h
  | field t x i =>
    simp only [vcOp] at h ⊢
    split at h
    · split at h
      · split at h
        · split at h
          · split at h
            · rename_i ha; simp only [if_pos ha]; exact ⟨h.1, hk _ _ h.2⟩
            · rename_i ha; simp only [if_neg ha]; obtain ⟨c, h1, h2⟩ := h; exact ⟨c, h1, hk _ _ h2⟩
          · exact h
        · exact h
      · exact h
    · exact h
  | indexAddr t x i =>
    simp only [vcOp] at h ⊢
    split at h
    · split at h
      · split at h
        · split at h
          · exact ⟨h.1, h.2.1, hk _ _ h.2.2⟩
          · obtain ⟨h1, h2, el, h3, h4⟩ := h; exact ⟨h1, h2, el, h3, hk _ _ h4⟩
          · exact h
        · exact h
      · split at h
        · split at h
          · exact ⟨h.1, h.2.1, hk _ _ h.2.2⟩
          · exact ⟨h.1, h.2.1, hk _ _ h.2.2⟩
          · exact h
        · exact h
      · exact h
    · exact h
  | index t x i =>
    simp only [vcOp] at h ⊢
    split at h
    · split at h
      · obtain ⟨h1, h2, h3⟩ := h; exact ⟨h1, h2, hk _ _ h3⟩
      · split at h
        · obtain ⟨h1, h2, h3, c, h4, h5⟩ := h; exact ⟨h1, h2, h3, c, h4, hk _ _ h5⟩
        · exact h
      · exact h
    · exact h
  | extract x i =>
    simp only [vcOp] at h ⊢
    split at h
    · obtain ⟨c, h1, h2⟩ := h; exact ⟨c, h1, hk _ _ h2⟩
    · exact h
  | _ => exact h
def IsV (c : CV) (H : Hp) : CV → Hp → Prop := fun c' H' => c' = c ∧ H' = H
theorem IsV.mk {c : CV} {H : Hp} : IsV c H c H := ⟨rfl, rfl⟩
inductive Cls where
  | pure | load | alloc | eff
  deriving DecidableEq
def smallB : Callee → Bool
  | .builtin .len | .builtin .cap | .builtin .min | .builtin .max => true
  | _ => false
def clsO (o : Op) : Cls :=
  match o with
  | .move _ | .assign _ | .pick _ _ _ | .build _ _ | .nilCheck _ | .binOp _ _ _ _ _ | .unOp _ _ _ | .convert _ _ _ | .makeInterface _ _ | .makeFunc _ _ _ | .slice _ _ _ _ _ | .fieldAddr _ _ _ | .field _ _ _ | .indexAddr _ _ _ | .index _ _ _ | .extract _ _ => .pure
  | .load _ _ => .load
  | .alloc _ | .box _ _ | .buildSlice _ _ _ | .makeSlice _ _ _ => .alloc
  | .call c => if smallB c.callee = true then .pure else .eff
  | _ => .eff
theorem bnd_exact {o : Option CV} {d : Nat} {K : Nat → Prop} (h : bnd o d K) : ∃ n, K n ∧ bnd o d (fun n' => n' = n) := by
  unfold bnd at h ⊢
  split at h
  · exact ⟨_, h, rfl⟩
  · exact ⟨_, h.2, h.1, rfl⟩
  · exact h.elim
theorem bnd2_exact {hi lo : Option CV} {d d' : Nat} {A : Nat → Prop} {B : Nat → Nat → Prop} {K : Nat → Nat → Prop} (h : bnd hi d fun a => A a ∧ bnd lo d' fun l => B a l ∧ K a l) :
    ∃ a l, K a l ∧ bnd hi d fun a' => A a' ∧ bnd lo d' fun l' => B a' l' ∧ a' = a ∧ l' = l := by
  obtain ⟨a, ⟨ha, hb⟩, he⟩ := bnd_exact h
  obtain ⟨l, ⟨hl, hK⟩, he'⟩ := bnd_exact hb
  exact ⟨a, l, hK, bnd_mono he fun a' e => by subst e; exact ⟨ha, bnd_mono he' fun l' e => by subst e; exact ⟨hl, rfl, rfl⟩⟩⟩
/-- A pure operation has one value, whatever is held. -/
theorem pure_exact {o : Op} {ev : Operand → CV} {K : CV → Hp → Prop} (hc : clsO o = .pure) (h : vcOp T o ev H K) : ∃ c, K c H ∧ ∀ H', vcOp T o ev H' (IsV c H') := by
  cases o <;> simp only [clsO, reduceCtorEq] at hc
  case call => exact h.elim
  case move x => exact ⟨_, h, fun _ => IsV.mk⟩
  case assign x => exact ⟨_, h, fun _ => IsV.mk⟩
  case pick c a b =>
    simp only [vcOp] at h ⊢
    split at h
    · rename_i t e
      have h := splitB_elim h
      exact ⟨_, h, fun H' => ⟨fun ht => by subst ht; exact IsV.mk, fun ht => by subst ht; exact IsV.mk⟩⟩
    · exact h.elim
  case build t ps =>
    simp only [vcOp] at h ⊢
    split at h
    · split at h
      · obtain ⟨cs, h1, h2⟩ := h; exact ⟨_, h2, fun _ => ⟨cs, h1, IsV.mk⟩⟩
      · split at h
        · obtain ⟨cs, h1, h2⟩ := h; exact ⟨_, h2, fun _ => ⟨cs, h1, IsV.mk⟩⟩
        · exact h.elim
      · exact h.elim
    · exact h.elim
  case nilCheck x =>
    simp only [vcOp] at h ⊢
    split at h <;> first | exact ⟨_, h, fun _ => IsV.mk⟩ | exact h.elim
  case binOp op t x y t' =>
    obtain ⟨c, h1, h2⟩ := vcBin_exact h
    exact ⟨c, h1, fun H' => vcBin_mono h2 fun c' e => by subst e; exact IsV.mk⟩
  case unOp op t x =>
    simp only [vcOp] at h ⊢
    split at h
    · exact ⟨_, h, fun _ => IsV.mk⟩
    · obtain ⟨z, h1, h2⟩ := h; exact ⟨_, h2, fun _ => ⟨z, h1, IsV.mk⟩⟩
    · exact h.elim
  case convert a b x =>
    simp only [vcOp] at h ⊢
    split at h
    · split at h
      · obtain ⟨z, h1, h2⟩ := h; exact ⟨_, h2, fun _ => ⟨z, h1, IsV.mk⟩⟩
      · exact h.elim
    · exact h.elim
  case makeInterface t x =>
    simp only [vcOp] at h ⊢
    split at h
    · exact ⟨_, h.2, fun _ => ⟨h.1, IsV.mk⟩⟩
    · exact h.elim
  case makeFunc fn a b => exact ⟨_, h, fun _ => IsV.mk⟩
  case slice t x lo hi mx =>
    cases mx with
    | some m =>
      cases lo with
      | some l => cases hi <;> exact h.elim
      | none =>
        cases hi with
        | none => exact h.elim
        | some hi =>
          simp only [vcOp] at h ⊢
          obtain ⟨c, h1, h2⟩ := vcSl3_exact (K := fun c => K c H) h
          exact ⟨c, h1, fun H' => vcSl3_mono (K' := fun c' => IsV c H' c' H') h2 fun c' e => by subst e; exact IsV.mk⟩
    | none =>
      simp only [vcOp] at h ⊢
      split at h
      · split at h
        · split at h
          · split at h
            · obtain ⟨h0, h⟩ := h
              obtain ⟨a, l, hK, he⟩ := bnd2_exact (K := fun a l => K (.sl _ _) H) h
              exact ⟨_, hK, fun H' => ⟨h0, bnd_mono he fun a' ha => ⟨ha.1, bnd_mono ha.2 fun l' hl => ⟨hl.1, by obtain ⟨_, rfl, rfl⟩ := hl; exact IsV.mk⟩⟩⟩⟩
            · obtain ⟨a, l, hK, he⟩ := bnd2_exact (K := fun a l => K (.ref _ _ _ _) H) h
              exact ⟨_, hK, fun H' => bnd_mono he fun a' ha => ⟨ha.1, bnd_mono ha.2 fun l' hl => ⟨hl.1, by obtain ⟨_, rfl, rfl⟩ := hl; exact IsV.mk⟩⟩⟩
            · obtain ⟨a, l, hK, he⟩ := bnd2_exact (K := fun a l => K .nilsl H) h
              exact ⟨_, hK, fun H' => bnd_mono he fun a' ha => ⟨ha.1, bnd_mono ha.2 fun l' hl => ⟨hl.1, IsV.mk⟩⟩⟩
            · exact h.elim
          · exact h.elim
        · split at h
          · obtain ⟨a, l, hK, he⟩ := bnd2_exact (K := fun a l => K (.str _) H) h
            exact ⟨_, hK, fun H' => bnd_mono he fun a' ha => ⟨ha.1, bnd_mono ha.2 fun l' hl => ⟨hl.1, by obtain ⟨_, rfl, rfl⟩ := hl; exact IsV.mk⟩⟩⟩
          · exact h.elim
        · exact h.elim
      · exact h.elim
  case fieldAddr t x i =>
    simp only [vcOp] at h ⊢
    split at h
    · split at h
      · split at h
        · obtain ⟨h0, h⟩ := h
          split at h <;> first | exact ⟨_, h, fun _ => ⟨h0, IsV.mk⟩⟩ | exact h.elim
        · exact h.elim
      · exact h.elim
    · exact h.elim
  case field t x i =>
    simp only [vcOp] at h ⊢
    split at h
    · split at h
      · split at h
        · split at h
          · split at h
            · rename_i ha; exact ⟨_, h.2, fun _ => by simp only [if_pos ha]; exact ⟨h.1, IsV.mk⟩⟩
            · rename_i ha; obtain ⟨c, h1, h2⟩ := h; exact ⟨_, h2, fun _ => by simp only [if_neg ha]; exact ⟨c, h1, IsV.mk⟩⟩
          · exact h.elim
        · exact h.elim
      · exact h.elim
    · exact h.elim
  case indexAddr t x i =>
    simp only [vcOp] at h ⊢
    split at h
    · split at h
      · split at h
        · split at h
          · exact ⟨_, h.2.2, fun _ => ⟨h.1, h.2.1, IsV.mk⟩⟩
          · obtain ⟨h1, h2, el, h3, h4⟩ := h; exact ⟨_, h4, fun _ => ⟨h1, h2, el, h3, IsV.mk⟩⟩
          · exact h.elim
        · exact h.elim
      · split at h
        · split at h
          · exact ⟨_, h.2.2, fun _ => ⟨h.1, h.2.1, IsV.mk⟩⟩
          · exact ⟨_, h.2.2, fun _ => ⟨h.1, h.2.1, IsV.mk⟩⟩
          · exact h.elim
        · exact h.elim
      · exact h.elim
    · exact h.elim
  case index t x i =>
    simp only [vcOp] at h ⊢
    split at h
    · split at h
      · obtain ⟨h1, h2, h3⟩ := h; exact ⟨_, h3, fun _ => ⟨h1, h2, IsV.mk⟩⟩
      · split at h
        · obtain ⟨h1, h2, h3, c, h4, h5⟩ := h; exact ⟨_, h5, fun _ => ⟨h1, h2, h3, c, h4, IsV.mk⟩⟩
        · exact h.elim
      · exact h.elim
    · exact h.elim
  case extract x i =>
    simp only [vcOp] at h ⊢
    split at h
    · obtain ⟨c, h1, h2⟩ := h; exact ⟨_, h2, fun _ => ⟨c, h1, IsV.mk⟩⟩
    · exact h.elim
/-- A load has one value, and has it where more is held. -/
theorem load_exact {o : Op} {ev : Operand → CV} {K : CV → Hp → Prop} (hc : clsO o = .load) (h : vcOp T o ev H K) : ∃ c, K c H ∧ ∀ H', (∀ r ob, H r = some ob → H' r = some ob) → vcOp T o ev H' (IsV c H') := by
  cases o <;> simp only [clsO, reduceCtorEq] at hc
  case call => split at hc <;> cases hc
  case load t a =>
    simp only [vcOp] at h ⊢
    split at h
    · split at h
      · obtain ⟨cs, h1, h2⟩ := h
        obtain ⟨c, h3, h4⟩ := vcLoad_exact h2
        exact ⟨c, h3, fun H' hle => ⟨cs, hle _ _ h1, vcLoad_mono h4 fun c' e => by subst e; exact IsV.mk⟩⟩
      · obtain ⟨c, h3, h4⟩ := vcLoad_exact h
        exact ⟨c, h3, fun H' hle => vcLoad_mono h4 fun c' e => by subst e; exact IsV.mk⟩
      · exact h.elim
    · exact h.elim
end
end Go.Cl
