/- The laws of chapter 12: their contracts' list. -/
import Derived.Test.YtkcopbnaleiocaaEqD
import Derived.Test.YtkcopbnaleiocaaLsD
namespace Go.Proofs.Ytkcopbnaleiocaa.Ev
open Go
set_option linter.unusedVariables false
noncomputable def lk1 : List (Nat × ExtF) := (29, exP nObj2 pSame gSame) :: (30, exP nObj pTwn gTwn) :: (26, exN nObj gGrt) :: lc7
noncomputable def lk1i : Info := infoL Try.prog lk1 ent keepOf
end Go.Proofs.Ytkcopbnaleiocaa.Ev
