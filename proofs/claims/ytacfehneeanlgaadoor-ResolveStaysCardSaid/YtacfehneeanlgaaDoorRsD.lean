/- Names (resolve): what the functions compute, in plain words. -/
import Derived.Test.YtacfehneeanlgaaDoorEpC
import Derived.Test.YtacfehneeanlgaaDoorLsC
namespace Go.Proofs.YtacfehneeanlgaaDoor.Ev
open Go
set_option linter.unusedVariables false
def gNan : List V → Option V
  | [.val (.int .i64 a)] => some (.val (.bool false))
  | _ => none
def cmpI (a b : Int) : Int := if a < b then -1 else if b < a then 1 else 0
def gCmi : List V → Option V
  | [.val (.int .i64 a), .val (.int .i64 b)] => some (.val (.int .i64 (cmpI a b)))
  | _ => none
/-- Three numbers against three. -/
def cmp3 (a b c d e f : Int) : Int := if cmpI a d ≠ 0 then cmpI a d else if cmpI b e ≠ 0 then cmpI b e else cmpI c f
abbrev bls : List CT := [.bool]
abbrev keptC : List CT := [.int .i64, .int .i64, .arr secC, .arr symC, .arr relC, .arr grpC, .arr [.bool]]
abbrev symV (nm : ByteArray) (bd : Int) (h : Bool) (wh va sz : Int) : V := .agg [.val (.string nm), .val (.int .u8 bd), .val (.bool h), .val (.int .i64 wh), .val (.int .i64 va), .val (.int .i64 sz)]
def goneB (b : List (List D)) (wh : Int) : Bool := decide (0 < wh) && !(cellB b (wh - 1).toNat 0)
def pGon : List V → Bool
  | [.agg [_, _, _, _, _, _, .arr [.bool] b], .agg [_, _, _, .val (.int .i64 wh), _, _]] => decide (wh ≤ b.length) && decide (b.length ≤ 1048576)
  | _ => true
def gGon : List V → Option V
  | [.agg [.val (.int .i64 _), .val (.int .i64 _), .arr [.str, .int .i64, .arr [.int .u8], .int .i64] _, .arr [.str, .int .u8, .bool, .int .i64, .int .i64, .int .i64] _, .arr [.int .i64, .int .i64, .int .u8, .int .i64, .int .i64] _, .arr [.str, .arr [.int .i64]] _, .arr [.bool] b], .agg [.val (.string _), .val (.int .u8 _), .val (.bool _), .val (.int .i64 wh), .val (.int .i64 _), .val (.int .i64 _)]] => some (.val (.bool (goneB b wh)))
  | _ => none
def boolsOf (x : List (List D)) : List Bool := x.map fun e => (e.getD 0 default).toBool
def gEqb : List V → Option V
  | [.arr [.bool] x, .arr [.bool] y] => some (.val (.bool (decide (boolsOf x = boolsOf y))))
  | _ => none
def pEqb : List V → Bool
  | [.arr [.bool] x, .arr [.bool] y] => decide (x.length ≤ 9223372036854775806)
  | _ => true
def lrA : List (Nat × ExtF) := [(67, exN [] gNan)]
def lrB : List (Nat × ExtF) := (51, exN [] gCmi) :: lrA
noncomputable def rs0 : Info := infoL Tryd.prog lrA ent keepOf
noncomputable def rs1 : Info := infoL Tryd.prog lrB ent keepOf
end Go.Proofs.YtacfehneeanlgaaDoor.Ev
