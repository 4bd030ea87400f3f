/- DERIVED HERE. The law's within: a way within a list of blocks. -/
import Derived.Test.YtoophlkbngagcaaDoorHBx
set_option linter.unusedSimpArgs false
set_option linter.unusedVariables false
namespace Go.Cl.Gd
open Go.Proofs
variable {W : World} {G : Nat → CV}
set_option maxRecDepth 8000
set_option maxHeartbeats 1000000
/-- The ways from a block go to blocks of the list that are met, and not to the end. -/
def WCl (N : Nat → List Nat) (In : List Nat) (to : Nat) (s : Nat → Bool) (l : List Nat) : Prop := ∀ k ∈ l, k ≠ to ∧ (k ∈ In → s k = true)
structure WI (N : Nat → List Nat) (In : List Nat) (a to n : Nat) (s : Nat → Bool) (todo : List Nat) : Prop where
  lt : ∀ x, s x = true → x < n
  tod : ∀ x ∈ todo, x = a ∨ s x = true
  cl : ∀ x, (x = a ∨ s x = true) → x ∈ todo ∨ WCl N In to s (N x)
structure WJ (N : Nat → List Nat) (In : List Nat) (a to n b i : Nat) (s : Nat → Bool) (todo : List Nat) : Prop where
  lt : ∀ x, s x = true → x < n
  tod : ∀ x ∈ todo, x = a ∨ s x = true
  cl : ∀ x, (x = a ∨ s x = true) → x ∈ todo ∨ (x = b ∧ WCl N In to s ((N b).take i)) ∨ WCl N In to s (N x)
section
variable {N : Nat → List Nat} {In : List Nat} {a to n b i k : Nat} {s : Nat → Bool} {todo : List Nat}
theorem WI.start : WI N In a to n (fun _ => false) [a] := ⟨fun x h => (by cases h), fun x h => .inl (by simpa using h), fun x h => .inl (by simpa using h)⟩
theorem WI.pop (h : WI N In a to n s (b :: todo)) : WJ N In a to n b 0 s todo :=
  ⟨h.lt, fun x hx => h.tod x (List.mem_cons_of_mem _ hx), fun x hx => by
    rcases h.cl x hx with k | k
    · rcases List.mem_cons.1 k with rfl | k
      · exact .inr (.inl ⟨rfl, fun k hk => by simp at hk⟩)
      · exact .inl k
    · exact .inr (.inr k)⟩
theorem WJ.done (h : WJ N In a to n b i s todo) (hi : (N b).length ≤ i) : WI N In a to n s todo :=
  ⟨h.lt, h.tod, fun x hx => by
    rcases h.cl x hx with k | ⟨rfl, k⟩ | k
    · exact .inl k
    · rw [List.take_of_length_le hi] at k; exact .inr k
    · exact .inr k⟩
theorem wtake (hk : (N b)[i]? = some k) : (N b).take (i + 1) = (N b).take i ++ [k] := by
  obtain ⟨hi, he⟩ := List.getElem?_eq_some_iff.1 hk
  rw [List.take_succ_eq_append_getElem hi, he]
theorem WJ.skip (h : WJ N In a to n b i s todo) (hk : (N b)[i]? = some k) (hto : k ≠ to) (hs : k ∈ In → s k = true) : WJ N In a to n b (i + 1) s todo := by
  refine ⟨h.lt, h.tod, fun x hx => ?_⟩
  rcases h.cl x hx with q | ⟨rfl, q⟩ | q
  · exact .inl q
  · refine .inr (.inl ⟨rfl, fun y hy => ?_⟩)
    rw [wtake hk] at hy
    rcases List.mem_append.1 hy with hy | hy
    · exact q y hy
    · simp at hy; subst hy; exact ⟨hto, hs⟩
  · exact .inr (.inr q)
theorem WJ.add (h : WJ N In a to n b i s todo) (hk : (N b)[i]? = some k) (hkn : k < n) (hto : k ≠ to) : WJ N In a to n b (i + 1) (fun x => s x || x == k) (todo ++ [k]) := by
  have up : ∀ l, WCl N In to s l → WCl N In to (fun x => s x || x == k) l := fun l q y hy => ⟨(q y hy).1, fun hin => by simp [(q y hy).2 hin]⟩
  refine ⟨fun x hx => ?_, fun x hx => ?_, fun x hx => ?_⟩
  · simp at hx
    rcases hx with hx | rfl
    · exact h.lt x hx
    · exact hkn
  · rcases List.mem_append.1 hx with hx | hx
    · rcases h.tod x hx with q | q
      · exact .inl q
      · exact .inr (by simp [q])
    · simp at hx; exact .inr (by simp [hx])
  · by_cases hxk : x = k
    · subst hxk; exact .inl (by simp)
    · have hx' : x = a ∨ s x = true := by
        rcases hx with hx | hx
        · exact .inl hx
        · simp [hxk] at hx; exact .inr hx
      rcases h.cl x hx' with q | ⟨rfl, q⟩ | q
      · exact .inl (by simp [q])
      · refine .inr (.inl ⟨rfl, fun y hy => ?_⟩)
        rw [wtake hk] at hy
        rcases List.mem_append.1 hy with hy | hy
        · exact up _ q y hy
        · simp at hy; subst hy; exact ⟨hto, fun _ => by simp⟩
      · exact .inr (.inr (up _ q))
end
structure wiI (B : Hp) (vn vi : CV) (rs n : Nat) (N : Nat → List Nat) (In : List Nat) (a to : Nat) (m : Nat) (s' : CA) (H' : Hp) : Prop where
  ex : ∃ (s : Nat → Bool) (todo : List Nat) (v : CV), m = cnt n s + todo.length ∧ cnt n s + todo.length ≤ n + 1 ∧ s'.env 0 = vn ∧ s'.env 1 = vi ∧ s'.env 3 = .int .i64 to ∧ s'.env 9 = .ref rs 0 n n ∧ s'.env 10 = v ∧ s'.ds = [] ∧ WI N In a to n s todo ∧ QO (B.set rs (.cells (boolC n s))) H' v (natL todo)
structure wiJ (B : Hp) (vn vi : CV) (rs n b M : Nat) (N : Nat → List Nat) (In : List Nat) (a to : Nat) (d : Nat) (m : Nat) (s' : CA) (H' : Hp) : Prop where
  ex : ∃ (i i12 : Nat) (s : Nat → Bool) (todo : List Nat) (v : CV), m = (N b).length - i ∧ i ≤ (N b).length ∧ i12 + d = i ∧ cnt n s + todo.length + 1 ≤ M ∧ s'.env 0 = vn ∧ s'.env 1 = vi ∧ s'.env 3 = .int .i64 to ∧ s'.env 9 = .ref rs 0 n n ∧ s'.env 10 = v ∧ s'.env 11 = .int .i64 b ∧ s'.env 12 = .int .i64 i12 ∧ s'.ds = [] ∧ WJ N In a to n b i s todo ∧ QO (B.set rs (.cells (boolC n s))) H' v (natL todo)
structure wiX (H : Hp) (n : Nat) (N : Nat → List Nat) (In : List Nat) (a to : Nat) (s' : CA) (H' : Hp) : Prop where
  ex : ∃ (s : Nat → Bool), s'.ds = [] ∧ WI N In a to n s [] ∧ Le H H'
theorem within_c (hX : CxOk (cx W G)) {n : Nat} {N : Nat → List Nat} {In : List Nat} {a to : Nat} (h0 : a < n) (hn : n ≤ 100000) (hN : ∀ b, b < n → ∀ k ∈ N b, k < n) (hNl : ∀ b, b < n → (N b).length ≤ 100000) {H : Hp} {rn cn : Nat} {ns : List CV} {vi : CV} (hcn : n ≤ cn) (mn : H rn = some (.cells ns)) (hnn : ∀ b, b < n → ∃ v, ns[b]? = some v ∧ SlF H v (natL (N b))) (hvi : SlF H vi (natL In)) (hil : In.length ≤ 100000) :
    CC Tryd.prog W 14 [.ref rn 0 n cn, vi, .int .i64 a, .int .i64 to] H fun x H' => (∃ r, x = .ret (.bool r) ∧ (r = false → ∃ s, WI N In a to n s [])) ∧ H' = H := by
  refine CC.shrink ?_
  refine CC.of_cw hX Tryd.func14 rfl rfl (Nat.le_of_ble_eq_true rfl) ?_
  refine CW.walk hX mixed d14 rfl ?_
  simp
  refine CW.walk hX mixed d14 rfl ?_
  simp
  refine ⟨by omega, by omega, fun rs hrs => ?_⟩
  have hz : List.map (fun i => [CV.bool false][i % 1]?.getD CV.any) (List.range n) = boolC n fun _ => false := by simp [boolC, Nat.mod_one]
  rw [hz]
  have hrsn : rs ≠ rn := fun e => by rw [e, mn] at hrs; cases hrs
  refine CW.walk hX mixed d14 rfl ?_
  simp [cfill]
  intro rt r1 r2 hrt0
  have hrt : (H.set rs (.cells (boolC n fun _ => false))) rt = none := by rw [hset_none_iff]; exact ⟨r1, hrt0⟩
  have hcn0 : cnt n (fun _ => false) = n := by
    simp only [cnt]
    rw [show (List.range n).filter (fun _ => !false) = List.range n from List.filter_eq_self.2 (fun _ _ => rfl), List.length_range]
  have hq0 : QO (H.set rs (.cells (boolC n fun _ => false))) ((H.set rs (.cells (boolC n fun _ => false))).set rt (.cells [.int .i64 a])) (.ref rt 0 1 1) (natL [a]) := by
    refine ⟨Le.set_new hrt, rt, 0, 1, _, rfl, hrt, set_at, fun k x hk => ?_, by simp, by simp [natL]⟩
    rcases k with _|k
    · simp [natL] at hk; subst hk; rfl
    · simp [natL] at hk
  generalize (H.set rs _).set rt _ = H1 at hq0 ⊢
  clear hrt hrt0 r1 r2
  refine CW.cut (wiX H n N In a to) ?_ ?_
  · refine CW.block ?_
    refine CW.loop (wiI H (.ref rn 0 n cn) vi rs n N In a to) ?_ (m := n + 1) ⟨_, [a], _, by simp [hcn0], by simp [hcn0], by simp, by simp, by simp, by simp, rfl, rfl, WI.start, by simpa using hq0⟩
    clear hq0
    clear H1
    rintro m ⟨e, ds⟩ H1 ⟨s, todo, v, rfl, hle1, e0, e1, e3, e9, e10, rfl, hFI, hq⟩
    dsimp only at e0 e1 e3 e9 e10
    obtain ⟨hql, r, o, c, cs, rfl, hq1, hq2, hq4, hq5, hq6⟩ := hq
    have hq : QO (H.set rs (.cells (boolC n s))) H1 (.ref r o (natL todo).length c) (natL todo) := ⟨hql, r, o, c, cs, rfl, hq1, hq2, hq4, hq5, hq6⟩
    rw [natL_len] at e10 hq6
    cases todo with
    | nil =>
      refine CW.walk hX mixed d14 rfl ?_
      simp [e10]
      exact ⟨s, rfl, hFI, (Le.set_new hrs).trans hql⟩
    | cons b todo =>
      have hbn : b < n := by
        rcases hFI.tod b (by simp) with q | q
        · omega
        · exact hFI.lt b q
      simp only [List.length_cons] at e10 hq6 hle1
      have g0 : cs[o]? = some (ci (b : Int)) := by have := hq4 0 b (by simp [natL]); simpa using this
      refine CW.walk hX mixed d14 rfl ?_
      simp [e10, show (0 : Int) < (todo.length : Int) + 1 by omega]
      refine CW.block ?_
      refine CW.walk hX mixed d14 rfl ?_
      simp [e10, hq2, g0]
      refine CW.walk hX mixed d14 rfl ?_
      simp [e10]
      refine ⟨by omega, ?_⟩
      have hqp : QO (H.set rs (.cells (boolC n s))) H1 (.ref r (if c = 1 then o else o + 1) (natL todo).length (c - 1)) (natL todo) := QO.pop (y := (b : Int)) hq
      rw [natL_len] at hqp
      have hFJ := hFI.pop
      refine CW.walk hX mixed d14 rfl ?_
      simp
      refine CW.block ?_
      refine CW.loop (wiJ H (.ref rn 0 n cn) vi rs n b (cnt n s + (todo.length + 1)) N In a to 0) ?_ (m := (N b).length) ⟨0, 0, s, todo, _, rfl, by omega, rfl, by omega, by simp [e0], by simp [e1], by simp [e3], by simp [e9], by simp, by simp, by simp, rfl, hFJ, hqp⟩
      clear hq hqp hql hq1 hq2 hq4 hq5 hq6 g0 e0 e1 e3 e9 e10 hFJ hFI
      obtain ⟨M, hM⟩ : ∃ M, cnt n s + (todo.length + 1) = M := ⟨_, rfl⟩
      rw [hM] at hle1 ⊢
      clear hM
      clear e H1 s todo r o c cs
      rintro m ⟨e, ds⟩ H1 ⟨i, i12, s, todo, v, rfl, hi, hi12, hms, e0, e1, e3, e9, e10, e11, e12, rfl, hFJ, hq⟩
      obtain rfl : i12 = i := by omega
      dsimp only at e0 e1 e3 e9 e10 e11 e12
      obtain ⟨vb, hvb, hsb⟩ := hnn b hbn
      have hlen : (vb = .nilsl ∧ (N b).length = 0) ∨ ∃ r c, vb = .ref r 0 (N b).length c := by
        rcases hsb with ⟨h1, h2⟩ | ⟨r, c, cs, h1, _⟩
        · exact .inl ⟨h1, by simpa [natL] using congrArg List.length h2⟩
        · exact .inr ⟨r, _, by simpa [natL] using h1⟩
      have kn := hq.1 rn _ (by rw [hset_ne (Ne.symm hrsn)]; exact mn)
      have ks := hq.1 rs _ set_at
      have hin : SlF H1 vi (natL In) := SlF.to hvi fun r n c o e ho => hq.1 r _ (by rw [hset_ne (fun e2 => by subst e2; rw [hrs] at ho; cases ho)]; exact ho)
      refine CW.cut (fun s' H' => H' = H1 ∧ s'.env 0 = .ref rn 0 n cn ∧ s'.env 1 = vi ∧ s'.env 3 = .int .i64 to ∧ s'.env 9 = .ref rs 0 n n ∧ s'.env 10 = v ∧ s'.env 11 = .int .i64 b ∧ s'.env 12 = .int .i64 i12 ∧ s'.ds = [] ∧ i12 < (N b).length) ?_ ?_
      · refine CW.walk hX mixed d14 rfl ?_
        simp [e0, e11, e12, kn, hbn, hvb]
        refine lenK_of hlen ?_
        simp
        refine CW.walk1 hX mixed d14 rfl ?_
        by_cases hil2 : i12 < (N b).length
        · simp [hil2, e0, e1, e3, e9, e10, e11, e12]
        · simp [hil2]
          exact ⟨cnt n s + todo.length, by omega, s, todo, v, rfl, by omega, by simp [e0], by simp [e1], by simp [e3], by simp [e9], by simp [e10], rfl, hFJ.done (by omega), hq⟩
      clear e0 e1 e3 e9 e10 e11 e12
      clear e
      rintro ⟨e, ds⟩ H2 ⟨rfl, e0, e1, e3, e9, e10, e11, e12, rfl, hil2⟩
      dsimp only at e0 e1 e3 e9 e10 e11 e12
      obtain ⟨k, hk⟩ : ∃ k, (N b)[i12]? = some k := ⟨_, List.getElem?_eq_getElem hil2⟩
      have hkn := hN b hbn k (List.mem_of_getElem? hk)
      rcases hsb with ⟨_, h2⟩ | ⟨rv, cv, csv, hvr, mvB, hcs⟩
      · have := congrArg List.length h2
        simp [natL] at this
        rw [this] at hil2
        simp at hil2
      rw [natL_len] at hvr
      subst hvr
      have gk : csv[i12]? = some (ci (k : Int)) := hcs i12 _ (by rw [natL, List.getElem?_map, hk]; rfl)
      have hrsv : rs ≠ rv := fun e => by rw [e, mvB] at hrs; cases hrs
      have kv := hq.1 rv _ (by rw [hset_ne (Ne.symm hrsv)]; exact mvB)
      refine CW.cut (wiJ H (.ref rn 0 n cn) vi rs n b M N In a to 1 ((N b).length - (i12 + 1))) ?_ ?_
      · refine CW.block ?_
        refine CW.walk hX mixed d14 rfl ?_
        simp [e0, e11, e12, kn, hbn, hvb, hil2, kv, gk]
        have gs := boolC_get (p := s) hkn
        by_cases hkt : k = to
        · refine CW.walk hX mixed d14 rfl ?_
          simp [e3, hkt]
          exact (Le.set_new hrs).trans hq.1
        have hkti : ¬ (k : Int) = (to : Int) := by omega
        refine CW.walk hX mixed d14 rfl ?_
        simp [e3, hkti]
        refine CW.walk hX mixed d14 rfl ?_
        cases hsk : s k with
        | true =>
          simp [e9, ks, hkn, gs, hsk]
          refine CW.condE hX (b := false) (by simp) (fun h => by cases h) (fun _ => ?_)
          refine CW.walk1 hX mixed d14 rfl ?_
          simp
          exact ⟨i12 + 1, i12, s, todo, v, rfl, by omega, rfl, hms, by simp [e0], by simp [e1], by simp [e3], by simp [e9], by simp [e10], by simp [e11], by simp [e12], rfl, hFJ.skip hk hkt fun _ => hsk, hq⟩
        | false =>
          simp [e1, e9, ks, hkn, gs, hsk]
          refine (hasQ_f hX (k : Int) hin (by rw [natL_len]; omega)).k ?_
          rintro x H3 ⟨rfl, rfl⟩
          have hdec : decide ((k : Int) ∈ natL In) = decide (k ∈ In) := by rw [decide_eq_decide]; exact natL_mem
          rw [hdec]
          by_cases hki : k ∈ In
          rotate_left
          · simp [hki]
            refine CW.condE hX (b := false) (by simp) (fun h => by cases h) (fun _ => ?_)
            refine CW.walk1 hX mixed d14 rfl ?_
            simp
            exact ⟨i12 + 1, i12, s, todo, v, rfl, by omega, rfl, hms, by simp [e0], by simp [e1], by simp [e3], by simp [e9], by simp [e10], by simp [e11], by simp [e12], rfl, hFJ.skip hk hkt fun h => absurd h hki, hq⟩
          simp [hki]
          have hcl := cnt_lt hkn hsk
          refine CW.condE hX (b := true) (by simp) (fun _ => ?_) (fun h => by cases h)
          refine CW.walk hX mixed d14 rfl ?_
          simp [e9, ks, hkn, boolC_len]
          refine ⟨by omega, ?_⟩
          rw [boolC_set hkn]
          have hq2 := hq.setBase (q := rs) (ob := .cells (boolC n fun r => s r || r == k)) (by rw [set_at]; simp)
          rw [set_set] at hq2
          generalize H3.set rs _ = H4 at hq2 ⊢
          refine CW.walk1 hX mixed d14 rfl ?_
          simp [e10, cfill, -vcAppend]
          intro q hq0
          have hq3 := hq2.mono (Le.set_new (o := .cells [ci (k : Int)]) hq0)
          refine QO.push (y := (k : Int)) rfl rfl hq3 (by rw [natL_len]; omega) set_at fun v' H5 hq4 => ?_
          simp
          exact ⟨i12 + 1, i12, _, todo ++ [k], v', rfl, by omega, rfl, by simp; omega, by simp [e0], by simp [e1], by simp [e3], by simp [e9], by simp, by simp [e11], by simp [e12], rfl, hFJ.add hk hkn hkt, by rw [natL_snoc]; exact hq4⟩
      · clear e0 e1 e3 e9 e10 e11 e12 hq kn ks kv hFJ hms hin
        clear e H2 s todo v
        rintro ⟨e, ds⟩ H2 ⟨i2, i12', s, todo, v, hm, hi2, hi12, hms, e0, e1, e3, e9, e10, e11, e12, rfl, hFJ, hq⟩
        dsimp only at e0 e1 e3 e9 e10 e11 e12
        obtain rfl : i2 = i12 + 1 := by omega
        obtain rfl : i12' = i12 := by omega
        have := hNl b hbn
        refine CW.walk1 hX mixed d14 rfl ?_
        simp [e12]
        exact ⟨(N b).length - (i12' + 1), by omega, i12' + 1, i12' + 1, s, todo, v, rfl, hi2, rfl, hms, by simp [e0], by simp [e1], by simp [e3], by simp [e9], by simp [e10], by simp [e11], by simp; rw [wrapI (by omega) (by omega)], rfl, hFJ, hq⟩
  rintro ⟨e, ds⟩ H1 ⟨s, rfl, hR, hl⟩
  refine CW.walk hX mixed d14 rfl ?_
  simp
  refine CW.walk1 hX mixed d14 rfl ?_
  simp
  exact ⟨hl, s, hR⟩
end Go.Cl.Gd
