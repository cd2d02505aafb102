/- The laws of chapter 13: their contracts' list. -/
import Derived.Test.YtkcopbnaleiocaaRqD
import Derived.Test.YtkcopbnaleiocaaLsD
namespace Go.Proofs.Ytkcopbnaleiocaa.Ev
open Go
set_option linter.unusedVariables false
noncomputable def lu1 : List (Nat × ExtF) := (36, exN [] gAlv) :: (29, exP nObj2 pSame gSame) :: (26, exN nObj gGrt) :: le6
noncomputable def lu1i : Info := infoL Try.prog lu1 ent keepOf
end Go.Proofs.Ytkcopbnaleiocaa.Ev
