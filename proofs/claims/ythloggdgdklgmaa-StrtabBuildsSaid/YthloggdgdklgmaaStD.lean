/- Strtab: what the functions compute, in plain words, and the contracts' shapes. -/
import Derived.Test.YthloggdgdklgmaaSym
namespace Go.Proofs.Ythloggdgdklgmaa.Ev
open Go
set_option linter.unusedVariables false
abbrev u8s : List CT := [.int .u8]
abbrev i64s : List CT := [.int .i64]
/-- Where a byte is first. -/
def ixB (l : List UInt8) (c : Int) : Int := Lib.indexByte l c.toNat.toUInt8
def rowB (xs : List (List D)) : List UInt8 := Lib.bytesOf (bytesOfRow xs)
def strE (g : ByteArray → Int → Option R) : Ext
  | [.val (.string s), .val (.int .u8 c)], [] => g s c
  | _, _ => none
def eIxS : Ext := strE fun s c => some (.val (.int .i64 (ixB s.data.toList c)), [])
def eIxB : Ext := fun vs outs => match castArgs [some u8s] vs, outs with
  | [.arr cts xs, .val (.int .u8 c)], [] => match sameCTs cts u8s with
    | true => some (.val (.int .i64 (ixB (rowB xs) c)), [])
    | false => none
  | _, _ => none
/-- strtab.Check -/
def chkR (xs : List (List D)) : Int := if xs.length = 0 ∨ 65536 < xs.length ∨ cellI xs 0 0 ≠ 0 ∨ cellI xs (xs.length - 1) 0 ≠ 0 then 8 else 0
def eChk : Ext := fun vs outs => match castArgs [some u8s] vs, outs with
  | [.arr cts xs], [] => match sameCTs cts u8s with
    | true => some (.val (.int .i64 (chkR xs)), [])
    | false => none
  | _, _ => none
/-- strtab.Get -/
def getS (xs : List (List D)) (at_ : Int) : ByteArray := if chkR xs ≠ 0 ∨ at_ < 0 ∨ (xs.length : Int) ≤ at_ then .empty else rowBytes (cut xs at_ (at_ + ixB (rowB (cut xs at_ xs.length)) 0))
def getE (xs : List (List D)) (at_ : Int) : Int := if chkR xs ≠ 0 ∨ at_ < 0 ∨ (xs.length : Int) ≤ at_ then 8 else 0
def eGet : Ext := fun vs outs => match castArgs [some u8s] vs, outs with
  | [.arr cts xs, .val (.int .i64 at_)], [] => match sameCTs cts u8s with
    | true => some (.tup [.val (.string (getS xs at_)), .val (.int .i64 (getE xs at_))], [])
    | false => none
  | _, _ => none
/-- strtab.Build -/
structure Bld where
  t : List (List D)
  p : List (List D)
  e : Int
def bldGo : List ByteArray → List (List D) → List (List D) → List (List D) → Bld
  | [], t, m, p => if 65536 < t.length then ⟨[], [], 9⟩ else ⟨t, p, 0⟩
  | s :: r, t, m, p => if 64 < s.size ∨ 0 ≤ ixB s.data.toList 0 then ⟨[], [], 3⟩
    else if hasD .str (.string s) m then bldGo r t m (p ++ [[.int (lookD .str (.string s) (.int 0) m).toInt]])
    else bldGo r (t ++ bytesRow s ++ [[.int 0]]) (setRow .str (.string s) [.str s, .int t.length] m) (p ++ [[.int t.length]])
def namesOf (xs : List (List D)) : List ByteArray := xs.map fun e => (e.getD 0 default).toStr
def bldR (xs : List (List D)) : Bld := if 1024 < xs.length then ⟨[], [], 4⟩ else bldGo (namesOf xs) [[.int 0]] [[.str .empty, .int 0]] []
def eBld : Ext := fun vs outs => match castArgs [some [.str]] vs, outs with
  | [.arr cts xs], [] => match sameCTs cts [.str] with
    | true => some (.tup [.own u8s (bldR xs).t, .own i64s (bldR xs).p, .val (.int .i64 (bldR xs).e)], [])
    | false => none
  | _, _ => none
def eTrue : Ext
  | [], [] => some (.val (.bool true), [])
  | _, _ => none
/-- quoinref08.Great -/
def grtGo : List ByteArray → Nat → Int → Int
  | [], _, n => n
  | _ :: _, 0, n => n
  | s :: r, k + 1, n => grtGo r k (n + min (s.size : Int) 100000)
def grtR (xs : List (List D)) : Bool := (decide (200 < xs.length) && decide (xs.length ≤ 1024)) || decide (2000 < xs.length) || decide (50000 < grtGo (namesOf xs) 2000 0)
def eGrt : Ext := fun vs outs => match castArgs [some [.str]] vs, outs with
  | [.arr cts xs], [] => match sameCTs cts [.str] with
    | true => some (.val (.bool (grtR xs)), [])
    | false => none
  | _, _ => none
def ent (f : Nat) : Option (List V → Option Value) := if f = 28 ∨ f = 30 then some indexByteE else none
def l1 : List (Nat × ExtF) := [(12, ex eTrue), (15, ex eChk), (23, ex eIxB), (27, ex eIxS)]
def l2 : List (Nat × ExtF) := (16, ex eGet) :: (22, ex eIxS) :: l1
def l3 : List (Nat × ExtF) := (14, ex eBld) :: (13, ex eGrt) :: l2
noncomputable def st0 : Info := infoL Try.prog [] ent keepOf
noncomputable def st1 : Info := infoL Try.prog l1 ent keepOf
noncomputable def st2 : Info := infoL Try.prog l2 ent keepOf
noncomputable def st3 : Info := infoL Try.prog l3 ent keepOf
end Go.Proofs.Ythloggdgdklgmaa.Ev
