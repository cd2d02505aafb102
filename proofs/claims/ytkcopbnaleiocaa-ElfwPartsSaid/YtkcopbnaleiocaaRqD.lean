/- An object is read: what the function computes, in plain words. -/
import Derived.Test.YtkcopbnaleiocaaRpD
namespace Go.Proofs.Ytkcopbnaleiocaa.Ev
open Go
set_option linter.unusedVariables false
def rd0 (b : List (List D)) : Rd := ⟨b, [], [], [], [], [], 0⟩
def hdRow (e : List D) : Hd := ⟨rI e 0, rI e 1, rI e 2, rI e 3, rI e 4, rI e 5, rI e 6, rI e 7, rI e 8, rI e 9⟩
def partsGo : Nat → Nat → Rd → Rd
  | 0, _, r => r
  | d + 1, i, r => if i < r.h.length ∧ r.e = 0 then partsGo d (i + 1) (partR r (hdRow (r.h.getD i []))) else r
def readF (b : List (List D)) : Rd := partsGo (allF (rd0 b)).h.length 1 (allF (rd0 b))
noncomputable def readE (b : List (List D)) : Int :=
  if 65536 < b.length then 8 else if (readF b).e ≠ 0 then 8 else if wrE (readF b).s (readF b).y (readF b).l (readF b).g ≠ 0 then 8
  else if sameB (wrV (readF b).s (readF b).y (readF b).l (readF b).g) b = true then 0 else 8
noncomputable def readO (b x : List (List D)) : List (List D) := if readE b = 0 then x else []
def pRead : List V → Bool
  | [.arr [.int .u8] b] => bytesIn b && decide (b.length ≤ 1048576)
  | _ => true
noncomputable def gRead : List V → Option V
  | [.arr [.int .u8] b] => some (.tup [.agg [.arr secC (readO b (readF b).s), .arr symC (readO b (readF b).y), .arr relC (readO b (readF b).l), .arr grpC (readO b (readF b).g)], .val (.int .i64 (readE b))])
  | _ => none
def sElf : List (List D) := [[.int 127], [.int 69], [.int 76], [.int 70]]
def gIs : List V → Option V
  | [.arr [.int .u8] b] => some (.val (.bool (hasPB b sElf)))
  | _ => none
noncomputable def le6 : List (Nat × ExtF) := (37, exP nB pRead gRead) :: (38, exN nB gIs) :: le5
noncomputable def es6 : Info := infoL Try.prog le6 ent keepOf
end Go.Proofs.Ytkcopbnaleiocaa.Ev
