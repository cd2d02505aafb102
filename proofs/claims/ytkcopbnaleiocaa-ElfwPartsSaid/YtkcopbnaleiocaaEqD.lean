/- A file's first bytes. -/
import Derived.Test.YtkcopbnaleiocaaEpC
namespace Go.Proofs.Ytkcopbnaleiocaa.Ev
open Go
set_option linter.unusedVariables false
def gAlv : List V → Option V
  | [] => some (.val (.bool true))
  | _ => none
def sF : ByteArray := ⟨#[102]⟩
def txtS : List (List D) := [[.str sTxt, .int 4, .arr (zeros 8), .int 0]]
def txtY : List (List D) := [[.str sF, .int 1, .bool false, .int 0, .int 0, .int 0]]
def gTxt : List V → Option V
  | [.arr [.int .i64, .int .i64, .int .u8, .int .i64, .int .i64] l] => some (.agg [.arr secC txtS, .arr symC txtY, .arr relC l, .val nilSlice])
  | _ => none
noncomputable def lc7 : List (Nat × ExtF) := (25, exN [] gAlv) :: (23, exN [.sl relC] gTxt) :: lc6
noncomputable def eq7 : Info := infoL Try.prog lc7 ent keepOf
end Go.Proofs.Ytkcopbnaleiocaa.Ev
