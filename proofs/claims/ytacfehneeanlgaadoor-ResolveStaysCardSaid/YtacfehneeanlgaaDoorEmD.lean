/- Symbols, relocations, tables of names: what the functions compute, in plain words. -/
import Derived.Test.YtacfehneeanlgaaDoorElD
namespace Go.Proofs.YtacfehneeanlgaaDoor.Ev
open Go
set_option linter.unusedVariables false
/-! ### Rows -/
abbrev strs : List CT := [.str]
abbrev secC : List CT := [.str, .int .i64, .arr u8s, .int .i64]
abbrev symC : List CT := [.str, .int .u8, .bool, .int .i64, .int .i64, .int .i64]
abbrev relC : List CT := [.int .i64, .int .i64, .int .u8, .int .i64, .int .i64]
abbrev grpC : List CT := [.str, .arr i64s]
abbrev hdC : List CT := List.replicate 10 (.int .i64)
/-! ### slices.Concat, le.Pad -/
def catA (xs : List (List D)) : List (List D) := (xs.map fun e => (e.getD 0 default).toArr).flatten
def pCat : List V → Bool
  | [.arr [.arr [.int .u8]] xs] => decide ((catA xs).length ≤ 4294967296) && decide (xs.length ≤ 4294967296)
  | _ => true
def gCat : List V → Option V
  | [.arr [.arr [.int .u8]] xs] => some (.uni u8s (catA xs))
  | _ => none
def zeros (n : Nat) : List (List D) := List.replicate n [D.int 0]
def padN (l m : Int) : Int := (m - l % m) % m
def padOk (m : Int) : Bool := decide (1 ≤ m) && decide (m ≤ 4096)
def padB (xs : List (List D)) (m : Int) : List (List D) := if padOk m then xs ++ zeros (padN xs.length m).toNat else []
def pPad : List V → Bool
  | [.arr [.int .u8] xs, .val (.int .i64 m)] => decide (xs.length ≤ 16777216)
  | _ => true
def gPad : List V → Option V
  | [.arr [.int .u8] xs, .val (.int .i64 m)] => some (.tup [.uni u8s (padB xs m), .val (.int .i64 (if padOk m then 0 else 2))])
  | _ => none
/-! ### sym -/
def inB (n a b : Int) : Bool := decide (a ≤ n) && decide (n ≤ b)
def gInn : List V → Option V
  | [.val (.int .i64 n), .val (.int .i64 a), .val (.int .i64 b)] => some (.val (.bool (inB n a b)))
  | _ => none
def namedB (s : ByteArray) : Bool := decide (0 < s.size) && decide (s.size ≤ 32) && graph s
def gNamed : List V → Option V
  | [.val (.string s)] => some (.val (.bool (namedB s)))
  | _ => none
def standsB (b : Int) (h : Bool) (w v z n : Int) : Bool :=
  if 2 < b ∨ (h = true ∧ b = 0) then false
  else if w = 0 then !(b == 0) && v == 0 && z == 0
  else if w = -1 then inB v (-2147483648) 4294967295 && z == 0
  else if w = -2 then alignOk v && inB z 1 4096 && b == 1
  else inB w 1 n && inB v 0 4096 && inB z 0 4096
def gStands : List V → Option V
  | [.agg [.val (.string s), .val (.int .u8 b), .val (.bool h), .val (.int .i64 w), .val (.int .i64 v), .val (.int .i64 z)], .val (.int .i64 n)] => some (.val (.bool (standsB b h w v z n)))
  | _ => none
def symE (s : ByteArray) (b : Int) (h : Bool) (w v z n : Int) : Int := if !inB n 0 16 then 2 else if namedB s && standsB b h w v z n then 0 else 8
def gSym : List V → Option V
  | [.agg [.val (.string s), .val (.int .u8 b), .val (.bool h), .val (.int .i64 w), .val (.int .i64 v), .val (.int .i64 z)], .val (.int .i64 n)] => some (.val (.int .i64 (symE s b h w v z n)))
  | _ => none
def whereN (w : Int) : Int := if w < 0 then 65520 - w else w
def symB (at_ b : Int) (h : Bool) (w v z : Int) : List (List D) := leB at_ 4 ++ [[.int (b * 16)], [.int (if h then 2 else 0)]] ++ leB (whereN w) 2 ++ leB v 8 ++ leB z 8
def symWok (s : ByteArray) (b : Int) (h : Bool) (w v z at_ : Int) : Bool := (symE s b h w v z 16 == 0) && inB at_ 0 65535
def symWE (s : ByteArray) (b : Int) (h : Bool) (w v z at_ : Int) : Int := if symE s b h w v z 16 = 0 then (if inB at_ 0 65535 then 0 else 2) else 8
def gSymW : List V → Option V
  | [.agg [.val (.string s), .val (.int .u8 b), .val (.bool h), .val (.int .i64 w), .val (.int .i64 v), .val (.int .i64 z)], .val (.int .i64 at_)] => some (.tup [.uni u8s (if symWok s b h w v z at_ then symB at_ b h w v z else []), .val (.int .i64 (symWE s b h w v z at_))])
  | _ => none
def pSymW : List V → Bool
  | [.agg [.val (.string s), .val (.int .u8 b), .val (.bool h), .val (.int .i64 w), .val (.int .i64 v), .val (.int .i64 z)], .val (.int .i64 at_)] => decide (0 ≤ b)
  | _ => true
/-! ### rela -/
def fieldN (k : Int) : Int :=
  if k = 33 ∨ k = 37 then 1 else if k = 34 ∨ k = 38 ∨ k = 44 ∨ k = 45 then 2
  else if k = 2 ∨ k = 36 ∨ k = 40 ∨ k = 18 then 8
  else if k = 1 ∨ k = 16 ∨ k = 17 ∨ k = 23 ∨ k = 24 ∨ k = 25 ∨ k = 26 ∨ k = 27 ∨ k = 28 ∨ k = 35 ∨ k = 39 then 4 else 0
def fieldE (k : Int) : Int := if fieldN k = 0 ∧ k ≠ 43 ∧ k ≠ 51 then 2 else 0
def gField : List V → Option V
  | [.val (.int .u8 k)] => some (.tup [.val (.int .i64 (fieldN k)), .val (.int .i64 (fieldE k))])
  | _ => none
def isData (k : Int) : Bool := k == 1 || k == 2 || k == 33 || k == 34 || k == 35 || k == 36 || k == 37 || k == 38 || k == 39 || k == 40
def isAlone (k : Int) : Bool := k == 43 || k == 51
def isNought (k : Int) : Bool := k == 51 || k == 24 || k == 25
def hasB (s k : Int) : Bool := if s = 2260595906707456 then isAlone k else if s = 2251799864016896 then isNought k else isData k
def pHasT : List V → Bool
  | [.val (.int .u64 s), .val (.int .u8 k)] => (s == 2260595906707456 || s == 2251799864016896 || s == 2190433320966) && decide (0 ≤ k) && decide (k ≤ 255)
  | _ => true
def gHasT : List V → Option V
  | [.val (.int .u64 s), .val (.int .u8 k)] => some (.val (.bool (hasB s k)))
  | _ => none
/-! ### strtab, as a list of names -/
def ixB (l : List UInt8) (c : Int) : Int := Lib.indexByte l c.toNat.toUInt8
def rowB (xs : List (List D)) : List UInt8 := Lib.bytesOf (bytesOfRow xs)
def gIxS : List V → Option V
  | [.val (.string s), .val (.int .u8 c)] => some (.val (.int .i64 (ixB s.data.toList c)))
  | _ => none
def gIxB : List V → Option V
  | [.arr [.int .u8] xs, .val (.int .u8 c)] => some (.val (.int .i64 (ixB (rowB xs) c)))
  | _ => none
def chkR (xs : List (List D)) : Int := if xs.length = 0 ∨ 65536 < xs.length ∨ cellI xs 0 0 ≠ 0 ∨ cellI xs (xs.length - 1) 0 ≠ 0 then 8 else 0
def gChk : List V → Option V
  | [.arr [.int .u8] xs] => some (.val (.int .i64 (chkR xs)))
  | _ => none
def getS (xs : List (List D)) (at_ : Int) : ByteArray := if chkR xs ≠ 0 ∨ at_ < 0 ∨ (xs.length : Int) ≤ at_ then .empty else rowBytes (cut xs at_ (at_ + ixB (rowB (cut xs at_ xs.length)) 0))
def getSE (xs : List (List D)) (at_ : Int) : Int := if chkR xs ≠ 0 ∨ at_ < 0 ∨ (xs.length : Int) ≤ at_ then 8 else 0
def gGetS : List V → Option V
  | [.arr [.int .u8] xs, .val (.int .i64 at_)] => some (.tup [.val (.string (getS xs at_)), .val (.int .i64 (getSE xs at_))])
  | _ => none
structure Bld where
  t : List (List D)
  p : List (List D)
  e : Int
def bldGo : List ByteArray → List (List D) → List (List D) → List (List D) → Bld
  | [], t, m, p => if 65536 < t.length then ⟨[], [], 9⟩ else ⟨t, p, 0⟩
  | s :: r, t, m, p => if 64 < s.size ∨ 0 ≤ ixB s.data.toList 0 then ⟨[], [], 3⟩
    else if hasD .str (.string s) m then bldGo r t m (p ++ [[.int (lookD .str (.string s) (.int 0) m).toInt]])
    else bldGo r (t ++ bytesRow s ++ [[.int 0]]) (setRow .str (.string s) [.str s, .int t.length] m) (p ++ [[.int t.length]])
def namesOf (xs : List (List D)) : List ByteArray := xs.map fun e => (e.getD 0 default).toStr
def bldR (xs : List (List D)) : Bld := if 1024 < xs.length then ⟨[], [], 4⟩ else bldGo (namesOf xs) [[.int 0]] [[.str .empty, .int 0]] []
def gBld : List V → Option V
  | [.arr [.str] xs] => some (.tup [.own u8s (bldR xs).t, .own i64s (bldR xs).p, .val (.int .i64 (bldR xs).e)])
  | _ => none
/-! ### elfw.nums -/
def numsB (k : Int) (l : List (List D)) : List (List D) := (l.map fun e => putB (e.getD 0 default).toInt k).flatten
def pNums : List V → Bool
  | [.own [.int .u8] xs, .val (.int .i64 k), .arr [.int .i64] l] => decide (xs.length ≤ 16777216) && decide (l.length ≤ 1048576)
  | [.val (.slice none 0 0), .val (.int .i64 k), .arr [.int .i64] l] => decide (l.length ≤ 1048576)
  | _ => true
def gNums : List V → Option V
  | [.own [.int .u8] xs, .val (.int .i64 k), .arr [.int .i64] l] => some (.own u8s (xs ++ numsB k l))
  | [.val (.slice none 0 0), .val (.int .i64 k), .arr [.int .i64] l] => some (.own u8s (numsB k l))
  | _ => none
def nNums : List CK := [.no, .no, .sl i64s]
def gSize : List V → Option V
  | [.agg [.val (.string s), .val (.int .i64 a), .arr [.int .u8] d, .val (.int .i64 z)]] => some (.val (.int .i64 (IntKind.wrap .i64 (d.length + z))))
  | _ => none
def lb1 : List (Nat × ExtF) := (60, exN [] gInn) :: (61, exN [] gNamed) :: (81, exN [] gField) :: (82, exP [] pHasT gHasT) :: (45, exN nSec gSize) :: la6

def lb2 : List (Nat × ExtF) := (62, exN [] gStands) :: lb1

def lb3 : List (Nat × ExtF) := (44, exN [] gSym) :: lb2

def lb4 : List (Nat × ExtF) := lb3

noncomputable def em1 : Info := infoL Tryd.prog lb1 ent keepOf
noncomputable def em2 : Info := infoL Tryd.prog lb2 ent keepOf
noncomputable def em3 : Info := infoL Tryd.prog lb3 ent keepOf
noncomputable def em4 : Info := infoL Tryd.prog lb4 ent keepOf
end Go.Proofs.YtacfehneeanlgaaDoor.Ev
