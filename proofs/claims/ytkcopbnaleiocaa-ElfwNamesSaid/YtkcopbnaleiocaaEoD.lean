/- What may be, and a file's bytes: what the functions compute, in plain words. -/
import Derived.Test.YtkcopbnaleiocaaEnC
namespace Go.Proofs.Ytkcopbnaleiocaa.Ev
open Go
set_option linter.unusedVariables false
/-! ### rela.may, as its tree tells it -/
noncomputable def mayB (b k c d : Int) (nm : ByteArray) (x : List (List D)) (n : Int) : Bool := (mayt0 b k c d nm x n).okB.getD false
def pMay : List V → Bool
  | [.agg [_, _, .val (.int .u8 k), _, _], _, _] => decide (0 ≤ k) && decide (k ≤ 255)
  | _ => true
noncomputable def gMay : List V → Option V
  | [.agg [.val (.int .i64 a), .val (.int .i64 b), .val (.int .u8 k), .val (.int .i64 c), .val (.int .i64 d)], .agg [.val (.string nm), .val (.int .i64 al), .arr [.int .u8] x, .val (.int .i64 z)], .val (.int .i64 n)] => some (.val (.bool (mayB b k c d nm x n)))
  | _ => none
def nMay : List CK := [.no, .ag [none, none, some u8s], .no]
/-! ### apart -/
def apartB (b k d b' k' d' : Int) : Bool := (b == spanTo b k d) || (b' == spanTo b' k' d') || decide (spanTo b k d ≤ b') || decide (spanTo b' k' d' ≤ b) || ((b == b') && sumsB k k')
def gApt : List V → Option V
  | [.agg [.val (.int .i64 a), .val (.int .i64 b), .val (.int .u8 k), .val (.int .i64 c), .val (.int .i64 d)], .agg [.val (.int .i64 a'), .val (.int .i64 b'), .val (.int .u8 k'), .val (.int .i64 c'), .val (.int .i64 d')]] => some (.val (.bool (apartB b k d b' k' d')))
  | _ => none
/-! ### filled -/
def nopW : List (List D) → Bool
  | [] => true
  | a :: b :: c :: d :: r => (rI a 0 == 19) && (rI b 0 == 0) && (rI c 0 == 0) && (rI d 0 == 0) && nopW r
  | _ => false
def fillB (xs : List (List D)) : Bool := if xs.length % 4 = 2 then (rI (xs.getD 0 []) 0 == 1) && (rI (xs.getD 1 []) 0 == 0) && nopW (xs.drop 2) else nopW xs
def gFil : List V → Option V
  | [.arr [.int .u8] xs] => some (.val (.bool (fillB xs)))
  | _ => none
def pFil : List V → Bool
  | _ => false
/-! ### bySection -/
def relRow (e : List D) : List (List D) := if relWok (rI e 1) (rI e 2) (rI e 3) (rI e 4) then relB (rI e 1) (rI e 2) (rI e 3) (rI e 4) else []
def relsOf (s : Nat) (L : List (List D)) : List (List D) := ((L.filter fun e => rI e 0 == (s : Int)).map relRow).flatten
def byS (n : Nat) (L : List (List D)) : List (List D) := (List.range n).map fun i => [D.arr (relsOf (i + 1) L)]
def bysOk (S L : List (List D)) : Bool := decide (S.length ≤ 16) && decide (L.length ≤ 0)
def pBys : List V → Bool
  | [.agg [.arr _ s, .arr _ y, .arr _ r, .arr _ g]] => bysOk s r
  | _ => true
def gBys : List V → Option V
  | [.agg [.arr [.str, .int .i64, .arr [.int .u8], .int .i64] s, .arr [.str, .int .u8, .bool, .int .i64, .int .i64, .int .i64] y, .arr [.int .i64, .int .i64, .int .u8, .int .i64, .int .i64] r, .arr [.str, .arr [.int .i64]] g]] => some (.uni [.arr u8s] (byS s.length r))
  | _ => none
/-! ### sections -/
def grpOne (g m : List (List D)) : List (List D) := g.foldl (fun m e => setRow (.int .i64) (.int .i64 (rI e 0)) [.int (rI e 0), .int 512] m) m
def grpMap (G m : List (List D)) : List (List D) := G.foldl (fun m e => grpOne (rA e 1) m) m
def secHd (m : List (List D)) (i : Nat) (e : List D) : Hd :=
  ⟨0, if kindV (rS e 0) = 4 then 8 else 1, IntKind.wrap .i64 (List.getD [0, 6, 2, 3, 3] (kindV (rS e 0)).toNat 0 + (lookD (.int .i64) (.int .i64 ((i + 1 : Nat) : Int)) (.int 0) m).toInt), 0, 0, if kindV (rS e 0) = 4 then rI e 3 else 0, 0, 0, rI e 1, 0⟩
def secsF (m : List (List D)) : List (List D) → Nat → Fl → Fl
  | [], _, f => f
  | e :: t, i, f => secsF m t (i + 1) (partF f (rS e 0) (secHd m i e) (rA e 2))
def pScs : List V → List V → Bool
  | [_, .agg [.arr _ s, .arr _ y, .arr _ r, .arr _ g]], os => match flOf os with
    | some f => decide (f.b.length ≤ 64) && decide (f.heads.length ≤ 0) && decide (f.names.length ≤ 0) && decide (s.length ≤ 16) && lensOk 2 4096 s && decide (g.length ≤ 1048576) && lensOk 1 1048576 g
    | none => true
  | _, _ => true
def gScs : List V → List V → Option (V × List V)
  | [.ptr (.out 0) 0, .agg [.arr [.str, .int .i64, .arr [.int .u8], .int .i64] s, .arr [.str, .int .u8, .bool, .int .i64, .int .i64, .int .i64] y, .arr [.int .i64, .int .i64, .int .u8, .int .i64, .int .i64] r, .arr [.str, .arr [.int .i64]] g]], os => match flOf os with
    | some f => some (.tup [], (secsF (grpMap g []) s 0 f).cells)
    | none => none
  | _, _ => none
def nFl : List CK := [.no, .ag [some secC, some symC, some relC, some grpC]]
noncomputable def lc2 : List (Nat × ExtF) := (161, exP nMay pMay gMay) :: (121, exP nB pFil gFil) :: (123, exP nObj pBys gBys) :: (59, exB nFl flC pScs gScs) :: (122, exN [] gApt) :: lc1
/-! ### rela.Check -/
def secAll (S : List (List D)) : Bool := S.all fun e => secOk (rS e 0) (rI e 1) (rA e 2).length (rI e 3)
noncomputable def relCk (a b k c d : Int) (S : List (List D)) (n : Int) : Int :=
  if 16 < S.length then 4 else if n < 0 ∨ 64 < n then 2 else if secAll S = false then 8 else if a < 1 ∨ (S.length : Int) < a then 8 else if mayB b k c d (rS (S.getD (a - 1).toNat []) 0) (rA (S.getD (a - 1).toNat []) 2) n = true then 0 else 8
noncomputable def gRck : List V → Option V
  | [.agg [.val (.int .i64 a), .val (.int .i64 b), .val (.int .u8 k), .val (.int .i64 c), .val (.int .i64 d)], .arr [.str, .int .i64, .arr [.int .u8], .int .i64] S, .val (.int .i64 n)] => some (.val (.int .i64 (relCk a b k c d S n)))
  | _ => none
def pRck : List V → Bool
  | [.agg [_, _, .val (.int .u8 k), _, _], _, _] => decide (0 ≤ k) && decide (k ≤ 255)
  | _ => true
def nRck : List CK := [.no, .sl secC, .no]
/-! ### rest -/
def sGrp : ByteArray := ⟨#[46, 103, 114, 111, 117, 112, 46]⟩
def sRel : ByteArray := ⟨#[46, 114, 101, 108, 97]⟩
def sSym : ByteArray := ⟨#[46, 115, 121, 109, 116, 97, 98]⟩
def sStr : ByteArray := ⟨#[46, 115, 116, 114, 116, 97, 98]⟩
def sShs : ByteArray := ⟨#[46, 115, 104, 115, 116, 114, 116, 97, 98]⟩
def full (by_ : List (List D)) : Nat := (by_.filter fun e => decide (0 < (rA e 0).length)).length
def symFirst (S L G : List (List D)) : Nat := 1 + S.length + G.length + full (byS S.length L)
def grpsF (first : Int) (G : List (List D)) (f : Fl) : Fl := G.foldl (fun f e => partF f (sGrp ++ rS e 0) ⟨0, 17, 0, 0, 0, 0, first, 0, 4, 4⟩ (numsB 4 [[.int 1]] ++ numsB 4 (rA e 1))) f
def relsF (first : Int) (S : List (List D)) : List (List D) → Nat → Fl → Fl
  | [], _, f => f
  | e :: t, i, f => relsF first S t (i + 1) (if 0 < (rA e 0).length then partF f (sRel ++ rS (S.getD i []) 0) ⟨0, 4, 64, 0, 0, 0, first, ((i + 1 : Nat) : Int), 8, 24⟩ (rA e 0) else f)
def namesY (Y : List (List D)) : List (List D) := Y.map fun e => [.str (rS e 0)]
def locals (Y : List (List D)) : Nat := (Y.filter fun e => decide (rI e 1 = 0)).length
def symRow (e : List D) (at_ : Int) : List (List D) := if symWok (rS e 0) (rI e 1) (rB e 2) (rI e 3) (rI e 4) (rI e 5) at_ then symB at_ (rI e 1) (rB e 2) (rI e 3) (rI e 4) (rI e 5) else []
def symsF (P : List (List D)) : List (List D) → Nat → List (List D)
  | [], _ => []
  | e :: t, i => symRow e (cellI P i 0) ++ symsF P t (i + 1)
def restF (S Y L G : List (List D)) (f : Fl) : Fl :=
  partF (partF (relsF (symFirst S L G) S (byS S.length L) 0 (grpsF (symFirst S L G) G f)) sSym ⟨0, 2, 0, 0, 0, 0, ((symFirst S L G + 1 : Nat) : Int), ((locals Y + 1 : Nat) : Int), 8, 24⟩ (zeros 24 ++ symsF (bldR (namesY Y)).p Y 0)) sStr ⟨0, 3, 0, 0, 0, 0, 0, 0, 1, 0⟩ (bldR (namesY Y)).t
def strsOk (j n : Nat) (G : List (List D)) : Bool := G.all fun e => decide ((rS e j).size ≤ n)
def posOk (j : Nat) (G : List (List D)) : Bool := G.all fun e => decide (0 ≤ rI e j)
def pRst : List V → List V → Bool
  | [_, .agg [.arr _ s, .arr _ y, .arr _ r, .arr _ g]], os => match flOf os with
    | some f => decide (f.b.length ≤ 131136) && decide (f.heads.length ≤ 16) && decide (f.names.length ≤ 16) && bysOk s r && decide (g.length ≤ 16) && lensOk 1 16 g && strsOk 0 4096 g && strsOk 0 4096 s && decide (y.length ≤ 64) && posOk 1 y && decide ((bldR (namesY y)).p.length = y.length) && decide ((bldR (namesY y)).t.length ≤ 65536)
    | none => true
  | _, _ => true
def gRst : List V → List V → Option (V × List V)
  | [.ptr (.out 0) 0, .agg [.arr [.str, .int .i64, .arr [.int .u8], .int .i64] s, .arr [.str, .int .u8, .bool, .int .i64, .int .i64, .int .i64] y, .arr [.int .i64, .int .i64, .int .u8, .int .i64, .int .i64] r, .arr [.str, .arr [.int .i64]] g]], os => match flOf os with
    | some f => some (.tup [], (restF s y r g f).cells)
    | none => none
  | _, _ => none
noncomputable def lc3 : List (Nat × ExtF) := (120, exP nRck pRck gRck) :: (60, exB nFl flC pRst gRst) :: lc2
noncomputable def eo1 : Info := infoL Try.prog lc1 ent keepOf
noncomputable def eo2 : Info := infoL Try.prog lc2 ent keepOf
noncomputable def eo3 : Info := infoL Try.prog lc3 ent keepOf
end Go.Proofs.Ytkcopbnaleiocaa.Ev
