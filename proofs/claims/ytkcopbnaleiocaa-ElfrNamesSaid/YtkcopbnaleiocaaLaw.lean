/- From the evaluator's answer to a law's run: it returns true, and what was there is as it was. -/
import Derived.Test.YtkcopbnaleiocaaRun
namespace Go.Proofs.Ytkcopbnaleiocaa.Ev
open Go
set_option linter.unusedVariables false
set_option linter.unusedSimpArgs false
/-- Nobody writes anywhere. -/
def gNone : Gh := ⟨fun _ => .free, fun _ => none⟩
theorem law {P : Program} {I : Info} (hok : InfoOk P I) (hext : ExtOk P I) {n f : Nat} {vs : List V} {w : World} {cargs : Array Value} {v : Value} (h : call I n f vs [] = some (.val v, [])) (hl : cargs.size = vs.length)
    (ha : ∀ (i : Nat) (v : V), vs[i]? = some v → ∃ c, cargs[i]? = some c ∧ VRel gNone w (.tmp i) v c) : Calls P f cargs w fun e w' => e = .returned v ∧ Go.RowKit.Below w.heap.size w w' := by
  refine (call_contract hok hext h gNone w cargs ⟨hl, ha, fun i cs hi => by simp at hi, fun _ _ => rfl, fun _ => rfl, fun _ => rfl, fun _ => rfl, fun i b hb => (nomatch hb), fun b r l _ ho => (nomatch ho)⟩).mono fun e w' ⟨c, g', he, q1, q2, q3, q4, q5, q6⟩ => ?_
  have := val_inv q1
  subst this
  exact ⟨he, q5.os, q5.tape, q5.output, q5.size, fun k hk => (q5.free k hk rfl).1⟩
end Go.Proofs.Ytkcopbnaleiocaa.Ev
