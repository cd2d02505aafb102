/- Being the same, twins, great objects: what the functions compute, in plain words. -/
import Derived.Test.YtacfehneeanlgaaDoorEnD
namespace Go.Proofs.YtacfehneeanlgaaDoor.Ev
open Go
set_option linter.unusedVariables false
/-! ### Rows that are the same -/
def sameSec (a b : List D) : Bool := (rS a 0).toList == (rS b 0).toList && (rI a 1 == rI b 1 && ((rowBytes (rA a 2)).toList == (rowBytes (rA b 2)).toList && rI a 3 == rI b 3))
def sameSym (a b : List D) : Bool := rS a 0 == rS b 0 && (rI a 1 == rI b 1 && (rB a 2 == rB b 2 && (rI a 3 == rI b 3 && (rI a 4 == rI b 4 && (rI a 5 == rI b 5 && true)))))
def sameRel (a b : List D) : Bool := rI a 0 == rI b 0 && (rI a 1 == rI b 1 && (rI a 2 == rI b 2 && (rI a 3 == rI b 3 && (rI a 4 == rI b 4 && true))))
def sameInt (a b : List D) : Bool := rI a 0 == rI b 0
def eqAll (p : List D → List D → Bool) : List (List D) → List (List D) → Bool
  | [], [] => true
  | a :: s, b :: t => p a b && eqAll p s t
  | _, _ => false
def sameGrp (a b : List D) : Bool := (rS a 0).toList == (rS b 0).toList && eqAll sameInt (rA a 1) (rA b 1)
def sameO (S Y L G S' Y' L' G' : List (List D)) : Bool := eqAll sameSec S S' && eqAll sameSym Y Y' && eqAll sameRel L L' && eqAll sameGrp G G'
def nSec2 : List CK := [.ag [none, none, some u8s], .ag [none, none, some u8s]]
def gSsm : List V → Option V
  | [.agg [.val (.string s), .val (.int .i64 a), .arr [.int .u8] d, .val (.int .i64 z)], .agg [.val (.string s'), .val (.int .i64 a'), .arr [.int .u8] d', .val (.int .i64 z')]] => some (.val (.bool (sameSec [.str s, .int a, .arr d, .int z] [.str s', .int a', .arr d', .int z'])))
  | _ => none
def gEqY : List V → Option V
  | [.arr [.str, .int .u8, .bool, .int .i64, .int .i64, .int .i64] y, .arr [.str, .int .u8, .bool, .int .i64, .int .i64, .int .i64] y'] => some (.val (.bool (eqAll sameSym y y')))
  | _ => none
def gEqL : List V → Option V
  | [.arr [.int .i64, .int .i64, .int .u8, .int .i64, .int .i64] y, .arr [.int .i64, .int .i64, .int .u8, .int .i64, .int .i64] y'] => some (.val (.bool (eqAll sameRel y y')))
  | _ => none
def gEqI : List V → Option V
  | [.arr [.int .i64] y, .arr [.int .i64] y'] => some (.val (.bool (eqAll sameInt y y')))
  | _ => none
def nGrp2 : List CK := [.ag [none, some i64s], .ag [none, some i64s]]
def gSg1 : List V → Option V
  | [.agg [.val (.string s), .arr [.int .i64] x], .agg [.val (.string s'), .arr [.int .i64] x']] => some (.val (.bool (sameGrp [.str s, .arr x] [.str s', .arr x'])))
  | _ => none
def nObj2 : List CK := [.ag [some secC, some symC, some relC, some grpC], .ag [some secC, some symC, some relC, some grpC]]
def gSame : List V → Option V
  | [.agg [.arr [.str, .int .i64, .arr [.int .u8], .int .i64] s, .arr [.str, .int .u8, .bool, .int .i64, .int .i64, .int .i64] y, .arr [.int .i64, .int .i64, .int .u8, .int .i64, .int .i64] r, .arr [.str, .arr [.int .i64]] g], .agg [.arr [.str, .int .i64, .arr [.int .u8], .int .i64] s', .arr [.str, .int .u8, .bool, .int .i64, .int .i64, .int .i64] y', .arr [.int .i64, .int .i64, .int .u8, .int .i64, .int .i64] r', .arr [.str, .arr [.int .i64]] g']] => some (.val (.bool (sameO s y r g s' y' r' g')))
  | _ => none
/-! ### Great objects -/
def min5 (n : Int) : Int := if n < 100000 then n else 100000
def grS : List (List D) → Int → Int
  | [], n => n
  | e :: t, n => grS t (n + min5 (rA e 2).length + min5 (rS e 0).size)
def grY : List (List D) → Int → Int
  | [], n => n
  | e :: t, n => grY t (n + min5 (rS e 0).size)
def grG : List (List D) → Int → Int
  | [], n => n
  | e :: t, n => grG t (n + min5 (rS e 0).size + min5 (rA e 1).length)
def greatB (S Y L G : List (List D)) : Bool := decide (grG (G.take 40) (grY (Y.take 200) (grS (S.take 40) 0)) > 80000) || decide (S.length > 30) || decide (Y.length > 100) || decide (L.length > 300) || decide (G.length > 30)
def gGrt : List V → Option V
  | [.agg [.arr [.str, .int .i64, .arr [.int .u8], .int .i64] s, .arr [.str, .int .u8, .bool, .int .i64, .int .i64, .int .i64] y, .arr [.int .i64, .int .i64, .int .u8, .int .i64, .int .i64] r, .arr [.str, .arr [.int .i64]] g]] => some (.val (.bool (greatB s y r g)))
  | _ => none
/-! ### Twins -/
def twSec (e : List D) : List D := [.str (rS e 0), .int (rI e 1), .arr (rA e 2), .int (rI e 3)]
def twGrp (e : List D) : List D := [.str (rS e 0), .arr (rA e 1)]
def gTsc : List V → Option V
  | [.agg [.val (.string s), .val (.int .i64 a), .arr [.int .u8] d, .val (.int .i64 z)]] => some (.agg [.val (.string s), .val (.int .i64 a), .arr u8s d, .val (.int .i64 z)])
  | _ => none
def pTsc : List V → Bool
  | [.agg [_, _, .arr _ d, _]] => decide (d.length ≤ 1048576)
  | _ => true
def pCln : List V → Bool
  | [.arr _ x] => decide (x.length ≤ 1048576)
  | _ => true
def gClY : List V → Option V
  | [.arr [.str, .int .u8, .bool, .int .i64, .int .i64, .int .i64] x] => some (.own symC x)
  | _ => none
def gClL : List V → Option V
  | [.arr [.int .i64, .int .i64, .int .u8, .int .i64, .int .i64] x] => some (.own relC x)
  | _ => none
def gClI : List V → Option V
  | [.arr [.int .i64] x] => some (.own i64s x)
  | _ => none
def pTwn : List V → Bool
  | [.agg [.arr _ s, .arr _ y, .arr _ r, .arr _ g]] => decide (s.length ≤ 1024) && decide (y.length ≤ 1024) && decide (r.length ≤ 1024) && decide (g.length ≤ 1024) && lensOk 2 1048576 s && lensOk 1 1048576 g
  | _ => true
def gTwn : List V → Option V
  | [.agg [.arr [.str, .int .i64, .arr [.int .u8], .int .i64] s, .arr [.str, .int .u8, .bool, .int .i64, .int .i64, .int .i64] y, .arr [.int .i64, .int .i64, .int .u8, .int .i64, .int .i64] r, .arr [.str, .arr [.int .i64]] g]] => some (.agg [.arr secC (s.map twSec), .arr symC y, .arr relC r, .arr grpC (g.map twGrp)])
  | _ => none
def pEq : List V → Bool
  | .arr _ x :: _ => decide (x.length ≤ 1048576)
  | _ => true
def pSg1 : List V → Bool
  | [.agg [_, .arr _ x], _] => decide (x.length ≤ 1048576)
  | _ => true
def pEqG : List V → Bool
  | .arr _ x :: _ => decide (x.length ≤ 1048576) && lensOk 1 1048576 x
  | _ => true
def pSame : List V → Bool
  | [.agg [.arr _ s, .arr _ y, .arr _ r, .arr _ g], _] => decide (s.length ≤ 1048576) && decide (y.length ≤ 1048576) && decide (r.length ≤ 1048576) && (decide (g.length ≤ 1048576) && lensOk 1 1048576 g)
  | _ => true
def ld1 : List (Nat × ExtF) := (21, exN nObj gGrt) :: []

def ld2 : List (Nat × ExtF) := ld1

def ld3 : List (Nat × ExtF) := ld2

def ld4 : List (Nat × ExtF) := ld3

noncomputable def ld0i : Info := infoL Tryd.prog [] ent keepOf
noncomputable def ld1i : Info := infoL Tryd.prog ld1 ent keepOf
noncomputable def ld2i : Info := infoL Tryd.prog ld2 ent keepOf
noncomputable def ld3i : Info := infoL Tryd.prog ld3 ent keepOf
end Go.Proofs.YtacfehneeanlgaaDoor.Ev
