/- An object is read back: that it answers true. -/
import Derived.Test.YtkcopbnaleiocaaEsC
namespace Go.Proofs.Ytkcopbnaleiocaa.Ev
open Go
set_option maxRecDepth 100000 in
theorem alr_eval : call es3 200000 36 [] [] = some (.val (.bool true), []) := by kernel_rfl
theorem con_alr : ∀ vs v, gAlv vs = some v → Contract Try.prog 36 vs [] (v, []) := by
  intro vs v h
  unfold gAlv at h
  split at h <;> cases h
  exact call_contract (el_info le3) (el_ext le3_ok) alr_eval
noncomputable def le4 : List (Nat × ExtF) := (36, exN [] gAlv) :: le3
theorem le4_ok : ExtAll Try.prog le4 := .norm con_alr le3_ok
noncomputable def et4 : Info := infoL Try.prog le4 ent keepOf
end Go.Proofs.Ytkcopbnaleiocaa.Ev
