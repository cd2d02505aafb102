/- Numbers as bytes, sections: what the functions compute, in plain words. -/
import Derived.Test.YtacfehneeanlgaaDoorNrm
namespace Go.Proofs.YtacfehneeanlgaaDoor.Ev
open Go
set_option linter.unusedVariables false
/-! ### Short names for printed texts -/
abbrev hdT : List CT := [.int .i64, .int .i64, .int .i64, .int .i64, .int .i64, .int .i64, .int .i64, .int .i64, .int .i64, .int .i64]
abbrev z0 : V := .val (.int .i64 0)
/-! ### le -/
def siz (n : Int) : Bool := n == 1 || n == 2 || n == 4 || n == 8
def putOk (n k : Int) : Bool := siz k && (k == 8 || (decide (0 ≤ n) && decide (n < 256 ^ k.toNat)))
/-- A number's bytes, the lowest first. -/
def leB (n : Int) (k : Nat) : List (List D) := (List.range k).map fun i => [.int (n / 256 ^ i % 256)]
def gSiz : List V → Option V
  | [.val (.int .i64 n)] => some (.val (.bool (siz n)))
  | _ => none
def putB (n k : Int) : List (List D) := if putOk n k then leB n k.toNat else []
def putE (n k : Int) : Int := if putOk n k then 0 else 2
def gPut : List V → Option V
  | [.val (.int .i64 n), .val (.int .i64 k)] => some (.tup [.uni u8s (putB n k), .val (.int .i64 (putE n k))])
  | _ => none
/-- All are bytes. -/
def bytesIn (xs : List (List D)) : Bool := xs.all fun e => decide (0 ≤ (e.getD 0 default).toInt) && decide ((e.getD 0 default).toInt < 256)
/-- The number that bytes are. -/
def leN : List (List D) → Int
  | [] => 0
  | e :: r => (e.getD 0 default).toInt + 256 * leN r
def getE (xs : List (List D)) (at_ k : Int) : Int := if !siz k then 2 else if at_ < 0 ∨ (xs.length : Int) - k < at_ then 8 else 0
def getV (xs : List (List D)) (at_ k : Int) : Int := if getE xs at_ k = 0 then IntKind.i64.wrap (leN (cut xs at_ (at_ + k))) else 0
def pGet : List V → Bool
  | [.arr [.int .u8] xs, .val (.int .i64 at_), .val (.int .i64 k)] => bytesIn xs && decide (xs.length ≤ 140737488351232)
  | _ => true
def gGet : List V → Option V
  | [.arr [.int .u8] xs, .val (.int .i64 at_), .val (.int .i64 k)] => some (.tup [.val (.int .i64 (getV xs at_ k)), .val (.int .i64 (getE xs at_ k))])
  | _ => none
/-! ### strings -/
def okCh (b : UInt8) : Bool := decide (33 ≤ b.toNat) && decide (b.toNat ≤ 126)
def graph (s : ByteArray) : Bool := s.data.toList.all okCh
def ixG (s : ByteArray) : Int := match s.data.toList.findIdx? (fun b => !okCh b) with | some i => (i : Int) | none => -1
def gKnd1 : List V → Option V
  | [.val (.int .i32 n)] => some (.val (.bool (decide (n < 33) || decide (n > 126))))
  | _ => none
def gIxf : List V → Option V
  | [.val (.string s), .val (.func (.func 56) ⟨[]⟩ ⟨[]⟩), .val (.bool true)] => some (.val (.int .i64 (ixG s)))
  | _ => none
def gIxf2 : List V → Option V
  | [.val (.string s), .val (.func (.func 56) ⟨[]⟩ ⟨[]⟩)] => some (.val (.int .i64 (ixG s)))
  | _ => none
def gCtn : List V → Option V
  | [.val (.string s), .val (.func (.func 56) ⟨[]⟩ ⟨[]⟩)] => some (.val (.bool (!graph s)))
  | _ => none
def hasP (s p : ByteArray) : Bool := decide (p.size ≤ s.size) && (s.extract 0 p.size == p)
def gHas : List V → Option V
  | [.val (.string s), .val (.string p)] => some (.val (.bool (hasP s p)))
  | _ => none
def cutP (s p : ByteArray) : ByteArray := if hasP s p then s.extract p.size s.size else s
def gCut : List V → Option V
  | [.val (.string s), .val (.string p)] => some (.tup [.val (.string (cutP s p)), .val (.bool (hasP s p))])
  | _ => none
/-! ### math/bits -/
/-- How many ones a number of one to 64 has. -/
def ones (n : Int) : Int := (List.range 7).foldl (fun r i => r + n / 2 ^ i % 2) 0
def pOne : List V → Bool
  | [.val (.int .u64 n)] => decide (1 ≤ n) && decide (n ≤ 64)
  | _ => true
def gOne : List V → Option V
  | [.val (.int .u64 n)] => some (.val (.int .i64 (ones n)))
  | _ => none
/-! ### sect -/
def sTxt : ByteArray := ⟨#[46, 116, 101, 120, 116]⟩
def sRod : ByteArray := ⟨#[46, 114, 111, 100, 97, 116, 97]⟩
def sDat : ByteArray := ⟨#[46, 100, 97, 116, 97]⟩
def sBss : ByteArray := ⟨#[46, 98, 115, 115]⟩
def isK (s p : ByteArray) : Bool := hasP s p && ((s.extract p.size s.size).size == 0 || byteAt (s.extract p.size s.size) 0 == 46)
def kindV (s : ByteArray) : Int := if s.size ≤ 32 ∧ graph s then (if isK s sTxt then 1 else if isK s sRod then 2 else if isK s sDat then 3 else if isK s sBss then 4 else 0) else 0
def kindE (s : ByteArray) : Int := if kindV s = 0 then 3 else 0
def gKnd : List V → Option V
  | [.val (.string s)] => some (.tup [.val (.int .u8 (kindV s)), .val (.int .i64 (kindE s))])
  | _ => none
def alignOk (a : Int) : Bool := decide (0 < a) && decide (a ≤ 64) && (ones a == 1)
def secOk (s : ByteArray) (a : Int) (dl : Int) (z : Int) : Bool := decide (kindV s ≠ 0) && alignOk a && (if kindV s = 4 then decide (dl = 0) && decide (0 ≤ z) && decide (z ≤ 4096) else decide (z = 0) && decide (dl ≤ 4096))
def secE (s : ByteArray) (a : Int) (dl : Int) (z : Int) : Int := if secOk s a dl z then 0 else 8
def nSec : List CK := [.ag [none, none, some u8s]]
def gSec : List V → Option V
  | [.agg [.val (.string s), .val (.int .i64 a), .arr [.int .u8] d, .val (.int .i64 z)]] => some (.val (.int .i64 (secE s a d.length z)))
  | _ => none
def fieldsV : V := .sarr 2 [[.ptr (.out 0) 0, .val (.int .i64 4)], [.ptr (.out 0) 1, .val (.int .i64 4)], [.ptr (.out 0) 2, .val (.int .i64 8)], [.ptr (.out 0) 3, .val (.int .i64 8)], [.ptr (.out 0) 4, .val (.int .i64 8)], [.ptr (.out 0) 5, .val (.int .i64 8)], [.ptr (.out 0) 6, .val (.int .i64 4)], [.ptr (.out 0) 7, .val (.int .i64 4)], [.ptr (.out 0) 8, .val (.int .i64 8)], [.ptr (.out 0) 9, .val (.int .i64 8)]]
def eFld : Ext
  | [.ptr (.out 0) 0], [[.val (.int .i64 a), .val (.int .i64 b), .val (.int .i64 c), .val (.int .i64 d), .val (.int .i64 e), .val (.int .i64 f), .val (.int .i64 g), .val (.int .i64 h), .val (.int .i64 i), .val (.int .i64 j)]] => some (fieldsV, [[.val (.int .i64 a), .val (.int .i64 b), .val (.int .i64 c), .val (.int .i64 d), .val (.int .i64 e), .val (.int .i64 f), .val (.int .i64 g), .val (.int .i64 h), .val (.int .i64 i), .val (.int .i64 j)]])
  | _, _ => none
/-- A head. -/
structure Hd where
  name : Int
  type : Int
  flags : Int
  addr : Int
  offset : Int
  size : Int
  link : Int
  info : Int
  align : Int
  entry : Int
def Hd.v (h : Hd) : V := .agg [.val (.int .i64 h.name), .val (.int .i64 h.type), .val (.int .i64 h.flags), .val (.int .i64 h.addr), .val (.int .i64 h.offset), .val (.int .i64 h.size), .val (.int .i64 h.link), .val (.int .i64 h.info), .val (.int .i64 h.align), .val (.int .i64 h.entry)]
def f4 (n : Int) : Bool := decide (0 ≤ n) && decide (n < 4294967296)
def f8 (n : Int) : Bool := decide (0 ≤ n)
def Hd.ok (h : Hd) : Bool := f4 h.name && f4 h.type && f8 h.flags && f8 h.addr && f8 h.offset && f8 h.size && f4 h.link && f4 h.info && f8 h.align && f8 h.entry
def Hd.b (h : Hd) : List (List D) := leB h.name 4 ++ leB h.type 4 ++ leB h.flags 8 ++ leB h.addr 8 ++ leB h.offset 8 ++ leB h.size 8 ++ leB h.link 4 ++ leB h.info 4 ++ leB h.align 8 ++ leB h.entry 8
def hdW (h : Hd) : V := .tup [.own u8s (if h.ok then h.b else []), .val (.int .i64 (if h.ok then 0 else 2))]
def gHdW : List V → Option V
  | [.agg [.val (.int .i64 a), .val (.int .i64 b), .val (.int .i64 c), .val (.int .i64 d), .val (.int .i64 e), .val (.int .i64 f), .val (.int .i64 g), .val (.int .i64 h), .val (.int .i64 i), .val (.int .i64 j)]] => some (hdW ⟨a, b, c, d, e, f, g, h, i, j⟩)
  | _ => none
def hdN (xs : List (List D)) : Hd := ⟨getV xs 0 4, getV xs 4 4, getV xs 8 8, getV xs 16 8, getV xs 24 8, getV xs 32 8, getV xs 40 4, getV xs 44 4, getV xs 48 8, getV xs 56 8⟩
def hd0 : Hd := ⟨0, 0, 0, 0, 0, 0, 0, 0, 0, 0⟩
def Hd.ok8 (h : Hd) : Bool := decide (0 ≤ h.name) && decide (0 ≤ h.type) && decide (0 ≤ h.flags) && decide (0 ≤ h.addr) && decide (0 ≤ h.offset) && decide (0 ≤ h.size) && decide (0 ≤ h.link) && decide (0 ≤ h.info) && decide (0 ≤ h.align) && decide (0 ≤ h.entry)
def hdRok (xs : List (List D)) : Bool := decide (xs.length = 64) && (hdN xs).ok8
def hdRV (xs : List (List D)) : Hd := if hdRok xs then hdN xs else hd0
def hdRE (xs : List (List D)) : Int := if xs.length = 64 then (if (hdN xs).ok8 then 0 else 8) else 3
def pHdR : List V → Bool
  | [.arr [.int .u8] xs] => bytesIn xs
  | _ => true
def gHdR : List V → Option V
  | [.arr [.int .u8] xs] => some (.tup [(hdRV xs).v, .val (.int .i64 (hdRE xs))])
  | _ => none
def ent (f : Nat) : Option (List V → Option Value) := none

def nB : List CK := [.sl u8s]
def la1 : List (Nat × ExtF) := [(56, exN [] gKnd1), (91, exN [] gHas), (59, exP [] pOne gOne)]

def la2 : List (Nat × ExtF) := (90, exN [] gIxf) :: (80, exN [] gCut) :: (43, exP [] pOne gOne) :: la1

def la3 : List (Nat × ExtF) := (79, exN [] gIxf2) :: (57, exN [] gCut) :: la2

def la4 : List (Nat × ExtF) := (55, exN [] gCtn) :: la3

def la5 : List (Nat × ExtF) := (42, exN [] gKnd) :: la4

def la6 : List (Nat × ExtF) := (33, exN nSec gSec) :: la5

noncomputable def el0 : Info := infoL Tryd.prog [] ent keepOf
noncomputable def el1 : Info := infoL Tryd.prog la1 ent keepOf
noncomputable def el2 : Info := infoL Tryd.prog la2 ent keepOf
noncomputable def el3 : Info := infoL Tryd.prog la3 ent keepOf
noncomputable def el4 : Info := infoL Tryd.prog la4 ent keepOf
noncomputable def el5 : Info := infoL Tryd.prog la5 ent keepOf
noncomputable def el6 : Info := infoL Tryd.prog la6 ent keepOf
end Go.Proofs.YtacfehneeanlgaaDoor.Ev
