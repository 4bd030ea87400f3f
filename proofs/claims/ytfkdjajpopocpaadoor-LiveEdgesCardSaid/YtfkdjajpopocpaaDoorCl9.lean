/- DERIVED HERE. The clean layer: code, walked by computing ('vc'). -/
import Derived.Test.YtfkdjajpopocpaaDoorCl8
set_option linter.unusedSimpArgs false
set_option linter.unusedVariables false
namespace Go.Cl
open Go.RowKit
/-- What a piece of code asks: loops, ranges over functions, scopes and regions that draw stay as they are ('CW'). -/
def vc (X : Cx) (N : Nat) (ρ : Option Nat) : Code → CP → CA → Hp → Prop
  | .skip, Q, s, H => Q .normal s H
  | .label _, Q, s, H => Q .normal s H
  | .exit id, Q, s, H => Q (.exit id) s H
  | .goto l, Q, s, H => Q (.goto l) s H
  | .ret, Q, s, H => Q .ret s H
  | .seq a b, Q, s, H => vc X N ρ a (thenX (fun s H => vc X N ρ b Q s H) Q) s H
  | .block id c, Q, s, H => vc X N ρ c (inBlockX id Q) s H
  | .cond c a b, Q, s, H => match evC X N s.env c with
    | .bool t => splitB t fun t => match t with | true => vc X N ρ a Q s H | false => vc X N ρ b Q s H
    | _ => False
  | .region id ops draw, Q, s, H => match draw with
    | false => vcL X N ops Q ops.toList s H
    | true => CW X.P X.W N ρ (.region id ops true) Q s H
  | c, Q, s, H => CW X.P X.W N ρ c Q s H
theorem vc_sound {X : Cx} (hX : CxOk X) {N : Nat} {ρ : Option Nat} : ∀ (c : Code) (Q : CP) (s : CA) (H : Hp), vc X N ρ c Q s H → CW X.P X.W N ρ c Q s H
  | .skip, Q, s, H, h => CW.skip h
  | .label _, Q, s, H, h => CW.label h
  | .exit id, Q, s, H, h => CW.exit h
  | .goto l, Q, s, H, h => CW.goto h
  | .ret, Q, s, H, h => CW.ret h
  | .seq a b, Q, s, H, h => CW.seq ((vc_sound hX a _ s H h).mono fun x s H hx => by
      cases x <;> first | exact vc_sound hX b Q s H hx | exact hx)
  | .block id c, Q, s, H, h => CW.block (vc_sound hX c _ s H h)
  | .cond c a b, Q, s, H, h => by
    simp only [vc] at h
    split at h
    · rename_i t he
      have h := splitB_elim h
      refine CW.cond (b := t) (fun a hr => ?_) (fun ht => ?_) (fun ht => ?_)
      · have := ev_rep hX hr c
        rw [he] at this
        exact rep_bool this
      · subst ht; exact vc_sound hX a Q s H h
      · subst ht; exact vc_sound hX b Q s H h
    · exact h.elim
  | .region id ops draw, Q, s, H, h => by
    cases draw with
    | false => exact CW.region (by rw [List.range_eq_range']; exact CO.of_vcL hX ops.size 0 s H (by omega) (by simpa [vc] using h))
    | true => exact h
  | .loop _, Q, s, H, h => h
  | .rangeFunc _ _ _ _, Q, s, H, h => h
  | .scope _, Q, s, H, h => h
  | .refuse _, Q, s, H, h => h
/-- **A call's contract, by computing its body.** -/
theorem CC.of_vc {X : Cx} (hX : CxOk X) {H : Hp} {f : FuncId} {fn : Func} {c : Code} {args : List CV} {R : CE → Hp → Prop} (hf : X.P.funcs[f]? = some fn) (hb : fn.body = some c) (hnm : (fn.name == "runtime.NumGoroutine") = false) (hl : (args.length ≤ fn.ntmps) )
    (h : vc X fn.ntmps none c (bodyQ X fn.ntmps fn.results.toList R) ⟨env0 args, []⟩ H) : CC X.P X.W f args H R := CC.of_body hX hf hb hnm hl (vc_sound hX c _ _ _ h)
theorem wrap_i64 {n : Int} (h1 : -9223372036854775808 ≤ n) (h2 : n ≤ 9223372036854775807) : IntKind.i64.wrap n = n := by
  simp [IntKind.wrap, IntKind.bits, IntKind.signed]; omega
end Go.Cl
