/- ElfrNames: that it answers true. -/
import Derived.Test.YtkcopbnaleiocaaEtC
namespace Go.Proofs.Ytkcopbnaleiocaa.Ev
open Go
set_option maxRecDepth 100000 in
theorem elr_eval : call et4 200000 10 [] [] = some (.val (.bool true), []) := by kernel_rfl
theorem elr_holds : Contract Try.prog 10 [] [] (.val (.bool true), []) := call_contract (el_info le4) (el_ext le4_ok) elr_eval
end Go.Proofs.Ytkcopbnaleiocaa.Ev
