/- The laws' own functions: what they compute, in plain words. -/
import Derived.Test.YtacfehneeanlgaaDoorRtH
namespace Go.Proofs.YtacfehneeanlgaaDoor.Ev
open Go
set_option linter.unusedVariables false
set_option linter.unusedSimpArgs false
noncomputable def gBnd : List V → Option V
  | [.arr [.int .i64, .int .i64, .arr [.str, .int .i64, .arr [.int .u8], .int .i64], .arr [.str, .int .u8, .bool, .int .i64, .int .i64, .int .i64], .arr [.int .i64, .int .i64, .int .u8, .int .i64, .int .i64], .arr [.str, .arr [.int .i64]], .arr [.bool]] l] => some (.tup [.arr [.arr [.int .i64, .int .i64]] (if bindE l = 0 then bindD l else []), .val (.int .i64 (bindE l))])
  | _ => none
def thrB (b : List (List D)) (bd wh : Int) : Bool := decide (bd ≠ 0) && (decide (wh ≠ 0) && (decide (wh ≤ 0) || cellB b (wh - 1).toNat 0))
def pThr : List V → Bool
  | [.agg [_, _, _, _, _, _, .arr _ b], .agg [_, _, _, .val (.int _ wh), _, _]] => decide (wh ≤ b.length) && decide (b.length ≤ 1048576)
  | _ => true
def gThr : List V → Option V
  | [.agg [.val (.int .i64 _), .val (.int .i64 _), .arr [.str, .int .i64, .arr [.int .u8], .int .i64] s, .arr [.str, .int .u8, .bool, .int .i64, .int .i64, .int .i64] y, .arr [.int .i64, .int .i64, .int .u8, .int .i64, .int .i64] r, .arr [.str, .arr [.int .i64]] g, .arr [.bool] b], .agg [.val (.string _), .val (.int .u8 bd), .val (.bool _), .val (.int .i64 wh), .val (.int .i64 _), .val (.int .i64 _)]] => some (.val (.bool (thrB b bd wh)))
  | _ => none
def grtO (e : List D) : Bool := greatB (rA e 2) (rA e 3) (rA e 4) (rA e 5) || decide ((rA e 6).length > 40)
def grtL (l : List (List D)) : Bool := (l.take 20).any grtO || ((decide (l.length > 12) && decide (l.length ≤ 64)) || decide (l.length > 80))
def gGrl : List V → Option V
  | [.arr [.int .i64, .int .i64, .arr [.str, .int .i64, .arr [.int .u8], .int .i64], .arr [.str, .int .u8, .bool, .int .i64, .int .i64, .int .i64], .arr [.int .i64, .int .i64, .int .u8, .int .i64, .int .i64], .arr [.str, .arr [.int .i64]], .arr [.bool]] l] => some (.val (.bool (grtL l)))
  | _ => none
def nThr : List CK := [.ag [none, none, some secC, some symC, some relC, some grpC, some bls], .no]
noncomputable def lv0 : List (Nat × ExtF) := [(21, exN nObj gGrt)]
noncomputable def lv0i : Info := infoL Tryd.prog lv0 ent keepOf
noncomputable def lv1 : List (Nat × ExtF) := (10, exP [.sl keptC] pKck gBnd) :: (19, exP [.sl keptC] pKck gKck) :: (18, exP [.sl keptC] pLck gLck) :: (9, exN [.sl keptC] gGrl) :: (20, exP nThr pThr gThr) :: []
noncomputable def lv1i : Info := infoL Tryd.prog lv1 ent keepOf
/-- What the first symbol of the first object stands for. -/
noncomputable def gStd : List V → Option V
  | [.arr [.int .i64, .int .i64, .arr [.str, .int .i64, .arr [.int .u8], .int .i64], .arr [.str, .int .u8, .bool, .int .i64, .int .i64, .int .i64], .arr [.int .i64, .int .i64, .int .u8, .int .i64, .int .i64], .arr [.str, .arr [.int .i64]], .arr [.bool]] l] => if bindE l = 0 ∧ 0 < l.length ∧ 0 < (rA (l.getD 0 []) 3).length then some (.tup [.agg [.val (.int .i64 (bndOf l 0 0).1), .val (.int .i64 (bndOf l 0 0).2)], .val (.bool true)]) else some (.tup [.agg [.val (.int .i64 0), .val (.int .i64 0)], .val (.bool false)])
  | _ => none
end Go.Proofs.YtacfehneeanlgaaDoor.Ev
