/- Strtab, the document's answer: what its functions compute, and the contracts' shapes. -/
import Derived.Test.YthloggdgdklgmaaStB
namespace Go.Proofs.Ythloggdgdklgmaa.Ev
open Go
set_option linter.unusedVariables false
def small (n : Nat) : Bool := decide (n ≤ 281474976710656)
def mayR (s : ByteArray) : Bool := !bad s
def eMay : ExtF where
  pre := fun vs _ => match vs with | [.val (.string s)] => small s.size | _ => false
  ans := fun vs outs => match vs, outs with
    | [.val (.string s)], [] => some (.val (.bool (mayR s)), [])
    | _, _ => none
def fstR (xs : List (List D)) (i : Int) : Bool := !((namesOf xs).take i.toNat).any (fun n => decide (n = cellS xs i.toNat 0)) && !decide (cellS xs i.toNat 0 = .empty)
def eFst : ExtF where
  pre := fun vs _ => match castArgs [some [.str]] vs with | [.arr cts xs, .val (.int .i64 i)] => decide (0 ≤ i) && decide (i < (xs.length : Int)) && small xs.length | _ => false
  ans := fun vs outs => match castArgs [some [.str]] vs, outs with
    | [.arr cts xs, .val (.int .i64 i)], [] => match sameCTs cts [.str] with
      | true => some (.val (.bool (fstR xs i)), [])
      | false => none
    | _, _ => none
def zeroAt : List (List D) → Option Nat
  | [] => none
  | e :: r => if (e.getD 0 default).toInt = 0 then some 0 else (zeroAt r).map (· + 1)
def txtK (xs : List (List D)) (at_ : Int) : Option Nat := if at_ < 0 ∨ (xs.length : Int) ≤ at_ then none else zeroAt (xs.drop at_.toNat)
def txtS (xs : List (List D)) (at_ : Int) : ByteArray := match txtK xs at_ with | some k => rowBytes (cut xs at_ (at_ + k)) | none => .empty
def txtB (xs : List (List D)) (at_ : Int) : Bool := (txtK xs at_).isSome
def eTxt : ExtF where
  pre := fun vs _ => match castArgs [some u8s] vs with | [.arr cts xs, .val (.int .i64 i)] => small xs.length | _ => false
  ans := fun vs outs => match castArgs [some u8s] vs, outs with
    | [.arr cts xs, .val (.int .i64 i)], [] => match sameCTs cts u8s with
      | true => some (.tup [.val (.string (txtS xs i)), .val (.bool (txtB xs i))], [])
      | false => none
    | _, _ => none
def sameR (a b : List (List D)) : Bool := decide (a.length = b.length) && (List.range a.length).all fun i => decide (cellI a i 0 = cellI b i 0)
def eSam : ExtF where
  pre := fun vs _ => match castArgs [some i64s, some i64s] vs with | [.arr _ a, .arr _ b] => small a.length | _ => false
  ans := fun vs outs => match castArgs [some i64s, some i64s] vs, outs with
    | [.arr c1 a, .arr c2 b], [] => match sameCTs c1 i64s && sameCTs c2 i64s with
      | true => some (.val (.bool (sameR a b)), [])
      | false => none
    | _, _ => none
def rgetS (xs : List (List D)) (at_ : Int) : ByteArray := if chkR xs ≠ 0 ∨ at_ < 0 ∨ (xs.length : Int) ≤ at_ then .empty else txtS xs at_
def eRget : Ext := fun vs outs => match castArgs [some u8s] vs, outs with
  | [.arr cts xs, .val (.int .i64 at_)], [] => match sameCTs cts u8s with
    | true => some (.tup [.val (.string (rgetS xs at_)), .val (.int .i64 (getE xs at_))], [])
    | false => none
  | _, _ => none
def eTab : ExtF where
  pre := fun vs _ => match castArgs [some [.str]] vs with | [.arr cts xs] => decide (xs.length ≤ 1024) && (namesOf xs).all (fun s => decide (s.size ≤ 64)) | _ => false
  ans := fun vs outs => match castArgs [some [.str]] vs, outs with
    | [.arr cts xs], [] => match sameCTs cts [.str] with
      | true => some (.tup [.own u8s (tabOf (uqs xs)), .own i64s ((namesOf xs).map fun s => [.int (plc (uqs xs) s)])], [])
      | false => none
    | _, _ => none
def eRbld : ExtF where
  pre := fun vs _ => match castArgs [some [.str]] vs with | [.arr cts xs] => (namesOf xs).all (fun s => small s.size) | _ => false
  ans := eBld
def l4 : List (Nat × ExtF) := (19, eSam) :: (26, eTxt) :: (29, eFst) :: (24, eMay) :: (20, ex eChk) :: l3
def l5 : List (Nat × ExtF) := (25, eTab) :: (18, ex eRget) :: l4
def l6 : List (Nat × ExtF) := (17, eRbld) :: l5
noncomputable def st4 : Info := infoL Try.prog l4 ent keepOf
noncomputable def st5 : Info := infoL Try.prog l5 ent keepOf
noncomputable def st6 : Info := infoL Try.prog l6 ent keepOf
end Go.Proofs.Ythloggdgdklgmaa.Ev
