/- A part of the proof: what the statement needs, and nothing else. -/
import Derived.Test.YtkcopbnaleiocaaZb24
namespace Go.Proofs.Ytkcopbnaleiocaa.Ev
open Go
set_option linter.unusedVariables false
def sameSec (a b : List D) : Bool := (rS a 0).toList == (rS b 0).toList && (rI a 1 == rI b 1 && ((rowBytes (rA a 2)).toList == (rowBytes (rA b 2)).toList && rI a 3 == rI b 3))
def sameSym (a b : List D) : Bool := rS a 0 == rS b 0 && (rI a 1 == rI b 1 && (rB a 2 == rB b 2 && (rI a 3 == rI b 3 && (rI a 4 == rI b 4 && (rI a 5 == rI b 5 && true)))))
def sameRel (a b : List D) : Bool := rI a 0 == rI b 0 && (rI a 1 == rI b 1 && (rI a 2 == rI b 2 && (rI a 3 == rI b 3 && (rI a 4 == rI b 4 && true))))
def sameInt (a b : List D) : Bool := rI a 0 == rI b 0
def eqAll (p : List D → List D → Bool) : List (List D) → List (List D) → Bool
  | [], [] => true
  | a :: s, b :: t => p a b && eqAll p s t
  | _, _ => false
def sameGrp (a b : List D) : Bool := (rS a 0).toList == (rS b 0).toList && eqAll sameInt (rA a 1) (rA b 1)
def sameO (S Y L G S' Y' L' G' : List (List D)) : Bool := eqAll sameSec S S' && eqAll sameSym Y Y' && eqAll sameRel L L' && eqAll sameGrp G G'
def nSec2 : List CK := [.ag [none, none, some u8s], .ag [none, none, some u8s]]
def gSsm : List V → Option V
  | [.agg [.val (.string s), .val (.int .i64 a), .arr [.int .u8] d, .val (.int .i64 z)], .agg [.val (.string s'), .val (.int .i64 a'), .arr [.int .u8] d', .val (.int .i64 z')]] => some (.val (.bool (sameSec [.str s, .int a, .arr d, .int z] [.str s', .int a', .arr d', .int z'])))
  | _ => none
def gEqY : List V → Option V
  | [.arr [.str, .int .u8, .bool, .int .i64, .int .i64, .int .i64] y, .arr [.str, .int .u8, .bool, .int .i64, .int .i64, .int .i64] y'] => some (.val (.bool (eqAll sameSym y y')))
  | _ => none
def gEqL : List V → Option V
  | [.arr [.int .i64, .int .i64, .int .u8, .int .i64, .int .i64] y, .arr [.int .i64, .int .i64, .int .u8, .int .i64, .int .i64] y'] => some (.val (.bool (eqAll sameRel y y')))
  | _ => none
def gEqI : List V → Option V
  | [.arr [.int .i64] y, .arr [.int .i64] y'] => some (.val (.bool (eqAll sameInt y y')))
  | _ => none
def gEqS : List V → Option V
  | [.arr [.str, .int .i64, .arr [.int .u8], .int .i64] y, .arr [.str, .int .i64, .arr [.int .u8], .int .i64] y', .val (.func (.func 70) ⟨[]⟩ ⟨[]⟩)] => some (.val (.bool (eqAll sameSec y y')))
  | _ => none
def gEqG : List V → Option V
  | [.arr [.str, .arr [.int .i64]] y, .arr [.str, .arr [.int .i64]] y', .val (.func (.func 74) ⟨[]⟩ ⟨[]⟩)] => some (.val (.bool (eqAll sameGrp y y')))
  | _ => none
def nGrp2 : List CK := [.ag [none, some i64s], .ag [none, some i64s]]
def gSg1 : List V → Option V
  | [.agg [.val (.string s), .arr [.int .i64] x], .agg [.val (.string s'), .arr [.int .i64] x']] => some (.val (.bool (sameGrp [.str s, .arr x] [.str s', .arr x'])))
  | _ => none
def nObj2 : List CK := [.ag [some secC, some symC, some relC, some grpC], .ag [some secC, some symC, some relC, some grpC]]
def gSame : List V → Option V
  | [.agg [.arr [.str, .int .i64, .arr [.int .u8], .int .i64] s, .arr [.str, .int .u8, .bool, .int .i64, .int .i64, .int .i64] y, .arr [.int .i64, .int .i64, .int .u8, .int .i64, .int .i64] r, .arr [.str, .arr [.int .i64]] g], .agg [.arr [.str, .int .i64, .arr [.int .u8], .int .i64] s', .arr [.str, .int .u8, .bool, .int .i64, .int .i64, .int .i64] y', .arr [.int .i64, .int .i64, .int .u8, .int .i64, .int .i64] r', .arr [.str, .arr [.int .i64]] g']] => some (.val (.bool (sameO s y r g s' y' r' g')))
  | _ => none
def min5 (n : Int) : Int := if n < 100000 then n else 100000
def grS : List (List D) → Int → Int
  | [], n => n
  | e :: t, n => grS t (n + min5 (rA e 2).length + min5 (rS e 0).size)
def grY : List (List D) → Int → Int
  | [], n => n
  | e :: t, n => grY t (n + min5 (rS e 0).size)
def grG : List (List D) → Int → Int
  | [], n => n
  | e :: t, n => grG t (n + min5 (rS e 0).size + min5 (rA e 1).length)
def greatB (S Y L G : List (List D)) : Bool := decide (grG (G.take 40) (grY (Y.take 200) (grS (S.take 40) 0)) > 80000) || decide (S.length > 30) || decide (Y.length > 100) || decide (L.length > 300) || decide (G.length > 30)
def gGrt : List V → Option V
  | [.agg [.arr [.str, .int .i64, .arr [.int .u8], .int .i64] s, .arr [.str, .int .u8, .bool, .int .i64, .int .i64, .int .i64] y, .arr [.int .i64, .int .i64, .int .u8, .int .i64, .int .i64] r, .arr [.str, .arr [.int .i64]] g]] => some (.val (.bool (greatB s y r g)))
  | _ => none
def twSec (e : List D) : List D := [.str (rS e 0), .int (rI e 1), .arr (rA e 2), .int (rI e 3)]
def twGrp (e : List D) : List D := [.str (rS e 0), .arr (rA e 1)]
def gTsc : List V → Option V
  | [.agg [.val (.string s), .val (.int .i64 a), .arr [.int .u8] d, .val (.int .i64 z)]] => some (.agg [.val (.string s), .val (.int .i64 a), .arr u8s d, .val (.int .i64 z)])
  | _ => none
def pTsc : List V → Bool
  | [.agg [_, _, .arr _ d, _]] => decide (d.length ≤ 1048576)
  | _ => true
def pCln : List V → Bool
  | [.arr _ x] => decide (x.length ≤ 1048576)
  | _ => true
def gClY : List V → Option V
  | [.arr [.str, .int .u8, .bool, .int .i64, .int .i64, .int .i64] x] => some (.own symC x)
  | _ => none
def gClL : List V → Option V
  | [.arr [.int .i64, .int .i64, .int .u8, .int .i64, .int .i64] x] => some (.own relC x)
  | _ => none
def gClI : List V → Option V
  | [.arr [.int .i64] x] => some (.own i64s x)
  | _ => none
def pTwn : List V → Bool
  | [.agg [.arr _ s, .arr _ y, .arr _ r, .arr _ g]] => decide (s.length ≤ 1024) && decide (y.length ≤ 1024) && decide (r.length ≤ 1024) && decide (g.length ≤ 1024) && lensOk 2 1048576 s && lensOk 1 1048576 g
  | _ => true
def gTwn : List V → Option V
  | [.agg [.arr [.str, .int .i64, .arr [.int .u8], .int .i64] s, .arr [.str, .int .u8, .bool, .int .i64, .int .i64, .int .i64] y, .arr [.int .i64, .int .i64, .int .u8, .int .i64, .int .i64] r, .arr [.str, .arr [.int .i64]] g]] => some (.agg [.arr secC (s.map twSec), .arr symC y, .arr relC r, .arr grpC (g.map twGrp)])
  | _ => none
def pEq : List V → Bool
  | .arr _ x :: _ => decide (x.length ≤ 1048576)
  | _ => true
def pSg1 : List V → Bool
  | [.agg [_, .arr _ x], _] => decide (x.length ≤ 1048576)
  | _ => true
def pEqG : List V → Bool
  | .arr _ x :: _ => decide (x.length ≤ 1048576) && lensOk 1 1048576 x
  | _ => true
def pSame : List V → Bool
  | [.agg [.arr _ s, .arr _ y, .arr _ r, .arr _ g], _] => decide (s.length ≤ 1048576) && decide (y.length ≤ 1048576) && decide (r.length ≤ 1048576) && (decide (g.length ≤ 1048576) && lensOk 1 1048576 g)
  | _ => true
def ld1 : List (Nat × ExtF) := (70, exN nSec2 gSsm) :: (71, exP [.sl symC, .sl symC] pEq gEqY) :: (72, exP [.sl relC, .sl relC] pEq gEqL) :: (75, exP [.sl i64s, .sl i64s] pEq gEqI) ::
  (26, exN nObj gGrt) :: (78, exP nSec pTsc gTsc) :: (76, exP [.sl symC] pCln gClY) :: (77, exP [.sl relC] pCln gClL) :: (79, exP [.sl i64s] pCln gClI) :: []
def ld2 : List (Nat × ExtF) := (74, exP nGrp2 pSg1 gSg1) :: (69, exP [.sl secC, .sl secC, .no] pEq gEqS) :: (30, exP nObj pTwn gTwn) :: ld1
def ld3 : List (Nat × ExtF) := (73, exP [.sl grpC, .sl grpC, .no] pEqG gEqG) :: ld2
noncomputable def ld0i : Info := infoL Try.prog [] ent keepOf
noncomputable def ld1i : Info := infoL Try.prog ld1 ent keepOf
noncomputable def ld2i : Info := infoL Try.prog ld2 ent keepOf
noncomputable def ld3i : Info := infoL Try.prog ld3 ent keepOf
end Go.Proofs.Ytkcopbnaleiocaa.Ev
namespace Go.Proofs.Ytkcopbnaleiocaa.Ev
open Go
set_option linter.unusedVariables false
noncomputable def ssmk0 : List T := [.code (sub (bodyOf Try.f70) [])]
def ssms0 (t0_0 : ByteArray) (t0_1 : Int) (t0_2 : List (List D)) (t0_3 : Int) (t1_0 : ByteArray) (t1_1 : Int) (t1_2 : List (List D)) (t1_3 : Int) : St := ⟨[(0, .agg [.val (.string t0_0), .val (.int .i64 t0_1), .arr u8s t0_2, .val (.int .i64 t0_3)]), (1, .agg [.val (.string t1_0), .val (.int .i64 t1_1), .arr u8s t1_2, .val (.int .i64 t1_3)])], []⟩
noncomputable def ssmt0 (t0_0 : ByteArray) (t0_1 : Int) (t0_2 : List (List D)) (t0_3 : Int) (t1_0 : ByteArray) (t1_1 : Int) (t1_2 : List (List D)) (t1_3 : Int) : Tr := (.ask (ByteArray.toList t0_0 == ByteArray.toList t1_0)
  (.ask (t0_1 == t1_1)
  (.ask (ByteArray.toList (rowBytes t0_2) == ByteArray.toList (rowBytes t1_2))
  (.ret (.val (.bool (t0_3 == t1_3)), []))
  (.ret (.val (.bool (false)), [])))
  (.ret (.val (.bool (false)), [])))
  (.ret (.val (.bool (false)), [])))
set_option maxRecDepth 100000 in
theorem ssmp0 (n : Nat) (t0_0 : ByteArray) (t0_1 : Int) (t0_2 : List (List D)) (t0_3 : Int) (t1_0 : ByteArray) (t1_1 : Int) (t1_2 : List (List D)) (t1_3 : Int) : exec ld0i (n + 39) (70, Try.f70, 0) ssmk0 (ssms0 t0_0 t0_1 t0_2 t0_3 t1_0 t1_1 t1_2 t1_3) = Tr.val ld0i (70, Try.f70, 0) n (ssmt0 t0_0 t0_1 t0_2 t0_3 t1_0 t1_1 t1_2 t1_3) := by kernel_rfl
noncomputable def eqyk0 : List T := [.code (sub (bodyOf Try.f71) [])]
def eqys0 (t0 t1 : List (List D)) : St := ⟨[(0, .arr symC t0), (1, .arr symC t1)], []⟩
noncomputable def eqyk1 : List T := [.code (sub (bodyOf Try.f71) [1, 1, 0, 1, 0, 0]), .lp (sub (bodyOf Try.f71) [1, 1, 0, 1, 0, 0]), .blk 0, .code (sub (bodyOf Try.f71) [1, 1, 1])]
def eqys1 (t0 t1 : List (List D)) (t12 t13 : Int) : St := ⟨[(0, .arr symC t0), (1, .arr symC t1), (12, .val (.int .i64 t12)), (13, .val (.int .i64 t13))], []⟩
noncomputable def eqyt0 (t0 t1 : List (List D)) : Tr := (.ask ((↑(List.length t0) : Int) != (↑(List.length t1) : Int))
  (.ret (.val (.bool (false)), []))
  (.go 0 eqyk1 (eqys1 (t0) (t1) ((↑(List.length t0) : Int)) ((0 : Int)))))
set_option maxRecDepth 100000 in
theorem eqyp0 (n : Nat) (t0 t1 : List (List D)) : exec ld0i (n + 24) (71, Try.f71, 0) eqyk0 (eqys0 t0 t1) = Tr.val ld0i (71, Try.f71, 0) n (eqyt0 t0 t1) := by kernel_rfl
noncomputable def eqyt1 (t0 t1 : List (List D)) (t12 t13 : Int) : Tr := (.ask (decide (t13 < t12))
  (.ask (decide ((0 : Int) ≤ t13) && decide (t13 < (↑(List.length t0) : Int)))
  (.ask (decide ((0 : Int) ≤ t13) && decide (t13 < (↑(List.length t1) : Int)))
  (.ask (!(cellS t0 (Int.toNat t13) (0 : Nat) == cellS t1 (Int.toNat t13) (0 : Nat) && (cellI t0 (Int.toNat t13) (1 : Nat) == cellI t1 (Int.toNat t13) (1 : Nat) && (cellB t0 (Int.toNat t13) (2 : Nat) == cellB t1 (Int.toNat t13) (2 : Nat) && (cellI t0 (Int.toNat t13) (3 : Nat) == cellI t1 (Int.toNat t13) (3 : Nat) && (cellI t0 (Int.toNat t13) (4 : Nat) == cellI t1 (Int.toNat t13) (4 : Nat) && (cellI t0 (Int.toNat t13) (5 : Nat) == cellI t1 (Int.toNat t13) (5 : Nat) && true)))))))
  (.ret (.val (.bool (false)), []))
  (.go 0 eqyk1 (eqys1 (t0) (t1) (t12) (IntKind.wrap .i64 (t13 + (1 : Int))))))
  .fail)
  .fail)
  (.ret (.val (.bool (true)), [])))
set_option maxRecDepth 100000 in
theorem eqyp1 (n : Nat) (t0 t1 : List (List D)) (t12 t13 : Int) : exec ld0i (n + 34) (71, Try.f71, 0) eqyk1 (eqys1 t0 t1 t12 t13) = Tr.val ld0i (71, Try.f71, 0) n (eqyt1 t0 t1 t12 t13) := by kernel_rfl
noncomputable def eqlk0 : List T := [.code (sub (bodyOf Try.f72) [])]
def eqls0 (t0 t1 : List (List D)) : St := ⟨[(0, .arr relC t0), (1, .arr relC t1)], []⟩
noncomputable def eqlk1 : List T := [.code (sub (bodyOf Try.f72) [1, 1, 0, 1, 0, 0]), .lp (sub (bodyOf Try.f72) [1, 1, 0, 1, 0, 0]), .blk 0, .code (sub (bodyOf Try.f72) [1, 1, 1])]
def eqls1 (t0 t1 : List (List D)) (t12 t13 : Int) : St := ⟨[(0, .arr relC t0), (1, .arr relC t1), (12, .val (.int .i64 t12)), (13, .val (.int .i64 t13))], []⟩
noncomputable def eqlt0 (t0 t1 : List (List D)) : Tr := (.ask ((↑(List.length t0) : Int) != (↑(List.length t1) : Int))
  (.ret (.val (.bool (false)), []))
  (.go 0 eqlk1 (eqls1 (t0) (t1) ((↑(List.length t0) : Int)) ((0 : Int)))))
set_option maxRecDepth 100000 in
theorem eqlp0 (n : Nat) (t0 t1 : List (List D)) : exec ld0i (n + 24) (72, Try.f72, 0) eqlk0 (eqls0 t0 t1) = Tr.val ld0i (72, Try.f72, 0) n (eqlt0 t0 t1) := by kernel_rfl
noncomputable def eqlt1 (t0 t1 : List (List D)) (t12 t13 : Int) : Tr := (.ask (decide (t13 < t12))
  (.ask (decide ((0 : Int) ≤ t13) && decide (t13 < (↑(List.length t0) : Int)))
  (.ask (decide ((0 : Int) ≤ t13) && decide (t13 < (↑(List.length t1) : Int)))
  (.ask (!(cellI t0 (Int.toNat t13) (0 : Nat) == cellI t1 (Int.toNat t13) (0 : Nat) && (cellI t0 (Int.toNat t13) (1 : Nat) == cellI t1 (Int.toNat t13) (1 : Nat) && (cellI t0 (Int.toNat t13) (2 : Nat) == cellI t1 (Int.toNat t13) (2 : Nat) && (cellI t0 (Int.toNat t13) (3 : Nat) == cellI t1 (Int.toNat t13) (3 : Nat) && (cellI t0 (Int.toNat t13) (4 : Nat) == cellI t1 (Int.toNat t13) (4 : Nat) && true))))))
  (.ret (.val (.bool (false)), []))
  (.go 0 eqlk1 (eqls1 (t0) (t1) (t12) (IntKind.wrap .i64 (t13 + (1 : Int))))))
  .fail)
  .fail)
  (.ret (.val (.bool (true)), [])))
set_option maxRecDepth 100000 in
theorem eqlp1 (n : Nat) (t0 t1 : List (List D)) (t12 t13 : Int) : exec ld0i (n + 34) (72, Try.f72, 0) eqlk1 (eqls1 t0 t1 t12 t13) = Tr.val ld0i (72, Try.f72, 0) n (eqlt1 t0 t1 t12 t13) := by kernel_rfl
noncomputable def eqik0 : List T := [.code (sub (bodyOf Try.f75) [])]
def eqis0 (t0 t1 : List (List D)) : St := ⟨[(0, .arr i64s t0), (1, .arr i64s t1)], []⟩
noncomputable def eqik1 : List T := [.code (sub (bodyOf Try.f75) [1, 1, 0, 1, 0, 0]), .lp (sub (bodyOf Try.f75) [1, 1, 0, 1, 0, 0]), .blk 0, .code (sub (bodyOf Try.f75) [1, 1, 1])]
def eqis1 (t0 t1 : List (List D)) (t12 t13 : Int) : St := ⟨[(0, .arr i64s t0), (1, .arr i64s t1), (12, .val (.int .i64 t12)), (13, .val (.int .i64 t13))], []⟩
noncomputable def eqit0 (t0 t1 : List (List D)) : Tr := (.ask ((↑(List.length t0) : Int) != (↑(List.length t1) : Int))
  (.ret (.val (.bool (false)), []))
  (.go 0 eqik1 (eqis1 (t0) (t1) ((↑(List.length t0) : Int)) ((0 : Int)))))
set_option maxRecDepth 100000 in
theorem eqip0 (n : Nat) (t0 t1 : List (List D)) : exec ld0i (n + 24) (75, Try.f75, 0) eqik0 (eqis0 t0 t1) = Tr.val ld0i (75, Try.f75, 0) n (eqit0 t0 t1) := by kernel_rfl
noncomputable def eqit1 (t0 t1 : List (List D)) (t12 t13 : Int) : Tr := (.ask (decide (t13 < t12))
  (.ask (decide ((0 : Int) ≤ t13) && decide (t13 < (↑(List.length t0) : Int)))
  (.ask (decide ((0 : Int) ≤ t13) && decide (t13 < (↑(List.length t1) : Int)))
  (.ask (cellI t0 (Int.toNat t13) (0 : Nat) != cellI t1 (Int.toNat t13) (0 : Nat))
  (.ret (.val (.bool (false)), []))
  (.go 0 eqik1 (eqis1 (t0) (t1) (t12) (IntKind.wrap .i64 (t13 + (1 : Int))))))
  .fail)
  .fail)
  (.ret (.val (.bool (true)), [])))
set_option maxRecDepth 100000 in
theorem eqip1 (n : Nat) (t0 t1 : List (List D)) (t12 t13 : Int) : exec ld0i (n + 34) (75, Try.f75, 0) eqik1 (eqis1 t0 t1 t12 t13) = Tr.val ld0i (75, Try.f75, 0) n (eqit1 t0 t1 t12 t13) := by kernel_rfl
noncomputable def grtk0 : List T := [.code (sub (bodyOf Try.f26) [])]
def grts0 (t0_0 t0_1 t0_2 t0_3 : List (List D)) : St := ⟨[(0, .agg [.arr secC t0_0, .arr symC t0_1, .arr relC t0_2, .arr grpC t0_3])], []⟩
noncomputable def grtk1 : List T := [.code (sub (bodyOf Try.f26) [1, 1, 0, 1, 0, 0]), .lp (sub (bodyOf Try.f26) [1, 1, 0, 1, 0, 0]), .blk 0, .code (sub (bodyOf Try.f26) [1, 1, 1])]
def grts1 (t3 t4 : Int) (b1_0 b1_1 b1_2 b1_3 : List (List D)) : St := ⟨[(1, .ptr (.loc 1) 0), (3, .val (.int .i64 t3)), (4, .val (.int .i64 t4))], [(.loc 1, [.arr secC b1_0, .arr symC b1_1, .arr relC b1_2, .arr grpC b1_3])]⟩
noncomputable def grtk2 : List T := [.code (sub (bodyOf Try.f26) [1, 1, 1, 0, 1, 0, 0]), .lp (sub (bodyOf Try.f26) [1, 1, 1, 0, 1, 0, 0]), .blk 2, .code (sub (bodyOf Try.f26) [1, 1, 1, 1])]
def grts2 (t3 t5 : Int) (b1_0 b1_1 b1_2 b1_3 : List (List D)) : St := ⟨[(1, .ptr (.loc 1) 0), (3, .val (.int .i64 t3)), (5, .val (.int .i64 t5))], [(.loc 1, [.arr secC b1_0, .arr symC b1_1, .arr relC b1_2, .arr grpC b1_3])]⟩
noncomputable def grtk3 : List T := [.code (sub (bodyOf Try.f26) [1, 1, 1, 1, 0, 1, 0, 0]), .lp (sub (bodyOf Try.f26) [1, 1, 1, 1, 0, 1, 0, 0]), .blk 4, .code (sub (bodyOf Try.f26) [1, 1, 1, 1, 1])]
def grts3 (t3 t6 : Int) (b1_0 b1_1 b1_2 b1_3 : List (List D)) : St := ⟨[(1, .ptr (.loc 1) 0), (3, .val (.int .i64 t3)), (6, .val (.int .i64 t6))], [(.loc 1, [.arr secC b1_0, .arr symC b1_1, .arr relC b1_2, .arr grpC b1_3])]⟩
noncomputable def grtt0 (t0_0 t0_1 t0_2 t0_3 : List (List D)) : Tr := (.go 0 grtk1 (grts1 ((0 : Int)) ((0 : Int)) (t0_0) (t0_1) (t0_2) (t0_3)))
set_option maxRecDepth 100000 in
theorem grtp0 (n : Nat) (t0_0 t0_1 t0_2 t0_3 : List (List D)) : exec ld0i (n + 16) (26, Try.f26, 0) grtk0 (grts0 t0_0 t0_1 t0_2 t0_3) = Tr.val ld0i (26, Try.f26, 0) n (grtt0 t0_0 t0_1 t0_2 t0_3) := by kernel_rfl
noncomputable def grtt1 (t3 t4 : Int) (b1_0 b1_1 b1_2 b1_3 : List (List D)) : Tr := (.ask (decide (t4 < (↑(List.length b1_0) : Int)))
  (.ask (decide (t4 < (40 : Int)))
  (.ask (decide ((0 : Int) ≤ t4) && decide (t4 < (↑(List.length b1_0) : Int)))
  (.ask (decide ((0 : Int) ≤ t4) && decide (t4 < (↑(List.length b1_0) : Int)))
  (.go 0 grtk1 (grts1 (IntKind.wrap .i64 (IntKind.wrap .i64 (t3 + if (100000 : Int) < (↑(List.length (cellA b1_0 (Int.toNat t4) (2 : Nat))) : Int) then (100000 : Int) else (↑(List.length (cellA b1_0 (Int.toNat t4) (2 : Nat))) : Int)) + if (100000 : Int) < (↑(ByteArray.size (cellS b1_0 (Int.toNat t4) (0 : Nat))) : Int) then (100000 : Int) else (↑(ByteArray.size (cellS b1_0 (Int.toNat t4) (0 : Nat))) : Int))) (IntKind.wrap .i64 (t4 + (1 : Int))) (b1_0) (b1_1) (b1_2) (b1_3)))
  .fail)
  .fail)
  (.go 24 grtk2 (grts2 (t3) ((0 : Int)) (b1_0) (b1_1) (b1_2) (b1_3))))
  (.go 24 grtk2 (grts2 (t3) ((0 : Int)) (b1_0) (b1_1) (b1_2) (b1_3))))
set_option maxRecDepth 100000 in
theorem grtp1 (n : Nat) (t3 t4 : Int) (b1_0 b1_1 b1_2 b1_3 : List (List D)) : exec ld0i (n + 46) (26, Try.f26, 0) grtk1 (grts1 t3 t4 b1_0 b1_1 b1_2 b1_3) = Tr.val ld0i (26, Try.f26, 0) n (grtt1 t3 t4 b1_0 b1_1 b1_2 b1_3) := by kernel_rfl
noncomputable def grtt2 (t3 t5 : Int) (b1_0 b1_1 b1_2 b1_3 : List (List D)) : Tr := (.ask (decide (t5 < (↑(List.length b1_1) : Int)))
  (.ask (decide (t5 < (200 : Int)))
  (.ask (decide ((0 : Int) ≤ t5) && decide (t5 < (↑(List.length b1_1) : Int)))
  (.go 0 grtk2 (grts2 (IntKind.wrap .i64 (t3 + if (100000 : Int) < (↑(ByteArray.size (cellS b1_1 (Int.toNat t5) (0 : Nat))) : Int) then (100000 : Int) else (↑(ByteArray.size (cellS b1_1 (Int.toNat t5) (0 : Nat))) : Int))) (IntKind.wrap .i64 (t5 + (1 : Int))) (b1_0) (b1_1) (b1_2) (b1_3)))
  .fail)
  (.go 15 grtk3 (grts3 (t3) ((0 : Int)) (b1_0) (b1_1) (b1_2) (b1_3))))
  (.go 15 grtk3 (grts3 (t3) ((0 : Int)) (b1_0) (b1_1) (b1_2) (b1_3))))
set_option maxRecDepth 100000 in
theorem grtp2 (n : Nat) (t3 t5 : Int) (b1_0 b1_1 b1_2 b1_3 : List (List D)) : exec ld0i (n + 37) (26, Try.f26, 0) grtk2 (grts2 t3 t5 b1_0 b1_1 b1_2 b1_3) = Tr.val ld0i (26, Try.f26, 0) n (grtt2 t3 t5 b1_0 b1_1 b1_2 b1_3) := by kernel_rfl
noncomputable def grtt3 (t3 t6 : Int) (b1_0 b1_1 b1_2 b1_3 : List (List D)) : Tr := (.ask (decide (t6 < (↑(List.length b1_3) : Int)))
  (.ask (decide (t6 < (40 : Int)))
  (.ask (decide ((0 : Int) ≤ t6) && decide (t6 < (↑(List.length b1_3) : Int)))
  (.ask (decide ((0 : Int) ≤ t6) && decide (t6 < (↑(List.length b1_3) : Int)))
  (.go 0 grtk3 (grts3 (IntKind.wrap .i64 (IntKind.wrap .i64 (t3 + if (100000 : Int) < (↑(ByteArray.size (cellS b1_3 (Int.toNat t6) (0 : Nat))) : Int) then (100000 : Int) else (↑(ByteArray.size (cellS b1_3 (Int.toNat t6) (0 : Nat))) : Int)) + if (100000 : Int) < (↑(List.length (cellA b1_3 (Int.toNat t6) (1 : Nat))) : Int) then (100000 : Int) else (↑(List.length (cellA b1_3 (Int.toNat t6) (1 : Nat))) : Int))) (IntKind.wrap .i64 (t6 + (1 : Int))) (b1_0) (b1_1) (b1_2) (b1_3)))
  .fail)
  .fail)
  (.ask (decide (t3 > (80000 : Int)))
  (.ret (.val (.bool (true)), []))
  (.ask (decide ((↑(List.length b1_0) : Int) > (30 : Int)))
  (.ret (.val (.bool (true)), []))
  (.ask (decide ((↑(List.length b1_1) : Int) > (100 : Int)))
  (.ret (.val (.bool (true)), []))
  (.ask (decide ((↑(List.length b1_2) : Int) > (300 : Int)))
  (.ret (.val (.bool (true)), []))
  (.ret (.val (.bool (decide ((↑(List.length b1_3) : Int) > (30 : Int)))), [])))))))
  (.ask (decide (t3 > (80000 : Int)))
  (.ret (.val (.bool (true)), []))
  (.ask (decide ((↑(List.length b1_0) : Int) > (30 : Int)))
  (.ret (.val (.bool (true)), []))
  (.ask (decide ((↑(List.length b1_1) : Int) > (100 : Int)))
  (.ret (.val (.bool (true)), []))
  (.ask (decide ((↑(List.length b1_2) : Int) > (300 : Int)))
  (.ret (.val (.bool (true)), []))
  (.ret (.val (.bool (decide ((↑(List.length b1_3) : Int) > (30 : Int)))), [])))))))
set_option maxRecDepth 100000 in
theorem grtp3 (n : Nat) (t3 t6 : Int) (b1_0 b1_1 b1_2 b1_3 : List (List D)) : exec ld0i (n + 46) (26, Try.f26, 0) grtk3 (grts3 t3 t6 b1_0 b1_1 b1_2 b1_3) = Tr.val ld0i (26, Try.f26, 0) n (grtt3 t3 t6 b1_0 b1_1 b1_2 b1_3) := by kernel_rfl
noncomputable def tsck0 : List T := [.code (sub (bodyOf Try.f78) [])]
def tscs0 (t0_0 : ByteArray) (t0_1 : Int) (t0_2 : List (List D)) (t0_3 : Int) : St := ⟨[(0, .agg [.val (.string t0_0), .val (.int .i64 t0_1), .arr u8s t0_2, .val (.int .i64 t0_3)])], []⟩
noncomputable def tsct0 (t0_0 : ByteArray) (t0_1 : Int) (t0_2 : List (List D)) (t0_3 : Int) : Tr := (.ask (decide (List.length t0_2 * (1 : Nat) ≤ (70368744177664 : Nat)) && decide (List.length t0_2 ≤ (70368744177664 : Nat)))
  (.ret (.agg [.val (.string (t0_0)), .val (.int .i64 (t0_1)), .arr u8s (t0_2), .val (.int .i64 (t0_3))], []))
  .fail)
set_option maxRecDepth 100000 in
theorem tscp0 (n : Nat) (t0_0 : ByteArray) (t0_1 : Int) (t0_2 : List (List D)) (t0_3 : Int) : exec ld0i (n + 19) (78, Try.f78, 0) tsck0 (tscs0 t0_0 t0_1 t0_2 t0_3) = Tr.val ld0i (78, Try.f78, 0) n (tsct0 t0_0 t0_1 t0_2 t0_3) := by kernel_rfl
noncomputable def clyk0 : List T := [.code (sub (bodyOf Try.f76) [])]
def clys0 (t0 : List (List D)) : St := ⟨[(0, .arr symC t0)], []⟩
noncomputable def clyt0 (t0 : List (List D)) : Tr := (.ask (decide ((0 : Nat) < List.length t0))
  (.ask (decide (((0 : Nat) + List.length t0) * (48 : Nat) ≤ (70368744177664 : Nat)) && decide ((0 : Nat) + List.length t0 ≤ (70368744177664 : Nat)))
  (.ret (.own symC (t0), []))
  .fail)
  .fail)
set_option maxRecDepth 100000 in
theorem clyp0 (n : Nat) (t0 : List (List D)) : exec ld0i (n + 20) (76, Try.f76, 0) clyk0 (clys0 t0) = Tr.val ld0i (76, Try.f76, 0) n (clyt0 t0) := by kernel_rfl
noncomputable def cllk0 : List T := [.code (sub (bodyOf Try.f77) [])]
def clls0 (t0 : List (List D)) : St := ⟨[(0, .arr relC t0)], []⟩
noncomputable def cllt0 (t0 : List (List D)) : Tr := (.ask (decide ((0 : Nat) < List.length t0))
  (.ask (decide (((0 : Nat) + List.length t0) * (40 : Nat) ≤ (70368744177664 : Nat)) && decide ((0 : Nat) + List.length t0 ≤ (70368744177664 : Nat)))
  (.ret (.own relC (t0), []))
  .fail)
  .fail)
set_option maxRecDepth 100000 in
theorem cllp0 (n : Nat) (t0 : List (List D)) : exec ld0i (n + 20) (77, Try.f77, 0) cllk0 (clls0 t0) = Tr.val ld0i (77, Try.f77, 0) n (cllt0 t0) := by kernel_rfl
noncomputable def clik0 : List T := [.code (sub (bodyOf Try.f79) [])]
def clis0 (t0 : List (List D)) : St := ⟨[(0, .arr i64s t0)], []⟩
noncomputable def clit0 (t0 : List (List D)) : Tr := (.ask (decide ((0 : Nat) < List.length t0))
  (.ask (decide (((0 : Nat) + List.length t0) * (8 : Nat) ≤ (70368744177664 : Nat)) && decide ((0 : Nat) + List.length t0 ≤ (70368744177664 : Nat)))
  (.ret (.own i64s (t0), []))
  .fail)
  .fail)
set_option maxRecDepth 100000 in
theorem clip0 (n : Nat) (t0 : List (List D)) : exec ld0i (n + 20) (79, Try.f79, 0) clik0 (clis0 t0) = Tr.val ld0i (79, Try.f79, 0) n (clit0 t0) := by kernel_rfl
noncomputable def sg1k0 : List T := [.code (sub (bodyOf Try.f74) [])]
def sg1s0 (t0_0 : ByteArray) (t0_1 : List (List D)) (t1_0 : ByteArray) (t1_1 : List (List D)) : St := ⟨[(0, .agg [.val (.string t0_0), .arr i64s t0_1]), (1, .agg [.val (.string t1_0), .arr i64s t1_1])], []⟩
noncomputable def sg1t0 (t0_0 : ByteArray) (t0_1 : List (List D)) (t1_0 : ByteArray) (t1_1 : List (List D)) : Tr := (.ask (ByteArray.toList t0_0 == ByteArray.toList t1_0)
  (.ask (Info.pre ld1i (75 : Nat) [handed [] (.arr i64s t0_1), handed [] (.arr i64s t1_1)] [])
  (.ret (.val (.bool (eqAll sameInt t0_1 t1_1)), []))
  .fail)
  (.ret (.val (.bool (false)), [])))
set_option maxRecDepth 100000 in
theorem sg1p0 (n : Nat) (t0_0 : ByteArray) (t0_1 : List (List D)) (t1_0 : ByteArray) (t1_1 : List (List D)) : exec ld1i (n + 23) (74, Try.f74, 0) sg1k0 (sg1s0 t0_0 t0_1 t1_0 t1_1) = Tr.val ld1i (74, Try.f74, 0) n (sg1t0 t0_0 t0_1 t1_0 t1_1) := by kernel_rfl
noncomputable def eqsk0 : List T := [.code (sub (bodyOf Try.f69) [])]
def eqss0 (t0 t1 : List (List D)) : St := ⟨[(0, .arr secC t0), (1, .arr secC t1), (2, .val (Value.func (Fn.func (70 : Nat)) { toList := [] } { toList := [] }))], []⟩
noncomputable def eqsk1 : List T := [.code (sub (bodyOf Try.f69) [1, 1, 0, 1, 0, 0]), .lp (sub (bodyOf Try.f69) [1, 1, 0, 1, 0, 0]), .blk 0, .code (sub (bodyOf Try.f69) [1, 1, 1])]
def eqss1 (t1 t15 : List (List D)) (t16 t17 : Int) : St := ⟨[(1, .arr secC t1), (2, .val (Value.func (Fn.func (70 : Nat)) { toList := [] } { toList := [] })), (15, .arr secC t15), (16, .val (.int .i64 t16)), (17, .val (.int .i64 t17))], []⟩
noncomputable def eqst0 (t0 t1 : List (List D)) : Tr := (.ask ((↑(List.length t0) : Int) != (↑(List.length t1) : Int))
  (.ret (.val (.bool (false)), []))
  (.go 0 eqsk1 (eqss1 (t1) (t0) ((↑(List.length t0) : Int)) ((0 : Int)))))
set_option maxRecDepth 100000 in
theorem eqsp0 (n : Nat) (t0 t1 : List (List D)) : exec ld1i (n + 24) (69, Try.f69, 0) eqsk0 (eqss0 t0 t1) = Tr.val ld1i (69, Try.f69, 0) n (eqst0 t0 t1) := by kernel_rfl
noncomputable def eqst1 (t1 t15 : List (List D)) (t16 t17 : Int) : Tr := (.ask (decide (t17 < t16))
  (.ask (decide ((0 : Int) ≤ t17) && decide (t17 < (↑(List.length t15) : Int)))
  (.ask (decide ((0 : Int) ≤ t17) && decide (t17 < (↑(List.length t1) : Int)))
  (.ask (!sameSec [D.str (cellS t15 (Int.toNat t17) (0 : Nat)), D.int (cellI t15 (Int.toNat t17) (1 : Nat)), D.arr (cellA t15 (Int.toNat t17) (2 : Nat)), D.int (cellI t15 (Int.toNat t17) (3 : Nat))] [D.str (cellS t1 (Int.toNat t17) (0 : Nat)), D.int (cellI t1 (Int.toNat t17) (1 : Nat)), D.arr (cellA t1 (Int.toNat t17) (2 : Nat)), D.int (cellI t1 (Int.toNat t17) (3 : Nat))])
  (.ret (.val (.bool (false)), []))
  (.go 0 eqsk1 (eqss1 (t1) (t15) (t16) (IntKind.wrap .i64 (t17 + (1 : Int))))))
  .fail)
  .fail)
  (.ret (.val (.bool (true)), [])))
set_option maxRecDepth 100000 in
theorem eqsp1 (n : Nat) (t1 t15 : List (List D)) (t16 t17 : Int) : exec ld1i (n + 43) (69, Try.f69, 0) eqsk1 (eqss1 t1 t15 t16 t17) = Tr.val ld1i (69, Try.f69, 0) n (eqst1 t1 t15 t16 t17) := by kernel_rfl
noncomputable def twnk0 : List T := [.code (sub (bodyOf Try.f30) [])]
def twns0 (t0_0 t0_1 t0_2 t0_3 : List (List D)) : St := ⟨[(0, .agg [.arr secC t0_0, .arr symC t0_1, .arr relC t0_2, .arr grpC t0_3])], []⟩
noncomputable def twnk1 : List T := [.code (sub (bodyOf Try.f30) [1, 1, 0, 1, 0, 0]), .lp (sub (bodyOf Try.f30) [1, 1, 0, 1, 0, 0]), .blk 0, .code (sub (bodyOf Try.f30) [1, 1, 1])]
def twns1 (t16 : List (List D)) (t17 t18 : Int) (b1_0 b1_1 b1_2 b1_3 b3_1 b3_2 : List (List D)) : St := ⟨[(1, .ptr (.loc 1) 0), (2, .ptr (.loc 2) 0), (3, .ptr (.loc 3) 0), (16, .arr secC t16), (17, .val (.int .i64 t17)), (18, .val (.int .i64 t18))], [(.loc 1, [.arr secC b1_0, .arr symC b1_1, .arr relC b1_2, .arr grpC b1_3]), (.loc 2, [.val nilSlice, .val nilSlice, .val nilSlice, .val nilSlice]), (.loc 3, [.val nilSlice, .arr symC b3_1, .arr relC b3_2, .val nilSlice])]⟩
noncomputable def twnk2 : List T := [.code (sub (bodyOf Try.f30) [1, 1, 0, 1, 0, 0]), .lp (sub (bodyOf Try.f30) [1, 1, 0, 1, 0, 0]), .blk 0, .code (sub (bodyOf Try.f30) [1, 1, 1])]
def twns2 (t16 : List (List D)) (t17 t18 : Int) (b1_0 b1_1 b1_2 b1_3 b3_0 b3_1 b3_2 : List (List D)) : St := ⟨[(1, .ptr (.loc 1) 0), (2, .ptr (.loc 2) 0), (3, .ptr (.loc 3) 0), (16, .arr secC t16), (17, .val (.int .i64 t17)), (18, .val (.int .i64 t18))], [(.loc 1, [.arr secC b1_0, .arr symC b1_1, .arr relC b1_2, .arr grpC b1_3]), (.loc 2, [.val nilSlice, .val nilSlice, .val nilSlice, .val nilSlice]), (.loc 3, [.own secC b3_0, .arr symC b3_1, .arr relC b3_2, .val nilSlice])]⟩
noncomputable def twnk3 : List T := [.code (sub (bodyOf Try.f30) [1, 1, 1, 0, 1, 0, 0]), .lp (sub (bodyOf Try.f30) [1, 1, 1, 0, 1, 0, 0]), .blk 2, .code (sub (bodyOf Try.f30) [1, 1, 1, 1])]
def twns3 (t31 : List (List D)) (t32 t33 : Int) (b3_1 b3_2 : List (List D)) : St := ⟨[(2, .ptr (.loc 2) 0), (3, .ptr (.loc 3) 0), (31, .arr grpC t31), (32, .val (.int .i64 t32)), (33, .val (.int .i64 t33))], [(.loc 2, [.val nilSlice, .val nilSlice, .val nilSlice, .val nilSlice]), (.loc 3, [.val nilSlice, .arr symC b3_1, .arr relC b3_2, .val nilSlice])]⟩
noncomputable def twnk4 : List T := [.code (sub (bodyOf Try.f30) [1, 1, 1, 0, 1, 0, 0]), .lp (sub (bodyOf Try.f30) [1, 1, 1, 0, 1, 0, 0]), .blk 2, .code (sub (bodyOf Try.f30) [1, 1, 1, 1])]
def twns4 (t31 : List (List D)) (t32 t33 : Int) (b3_0 b3_1 b3_2 : List (List D)) : St := ⟨[(2, .ptr (.loc 2) 0), (3, .ptr (.loc 3) 0), (31, .arr grpC t31), (32, .val (.int .i64 t32)), (33, .val (.int .i64 t33))], [(.loc 2, [.val nilSlice, .val nilSlice, .val nilSlice, .val nilSlice]), (.loc 3, [.own secC b3_0, .arr symC b3_1, .arr relC b3_2, .val nilSlice])]⟩
noncomputable def twnk5 : List T := [.code (sub (bodyOf Try.f30) [1, 1, 1, 0, 1, 0, 0]), .lp (sub (bodyOf Try.f30) [1, 1, 1, 0, 1, 0, 0]), .blk 2, .code (sub (bodyOf Try.f30) [1, 1, 1, 1])]
def twns5 (t31 : List (List D)) (t32 t33 : Int) (b3_1 b3_2 b3_3 : List (List D)) : St := ⟨[(2, .ptr (.loc 2) 0), (3, .ptr (.loc 3) 0), (31, .arr grpC t31), (32, .val (.int .i64 t32)), (33, .val (.int .i64 t33))], [(.loc 2, [.val nilSlice, .val nilSlice, .val nilSlice, .val nilSlice]), (.loc 3, [.val nilSlice, .arr symC b3_1, .arr relC b3_2, .own grpC b3_3])]⟩
noncomputable def twnk6 : List T := [.code (sub (bodyOf Try.f30) [1, 1, 1, 0, 1, 0, 0]), .lp (sub (bodyOf Try.f30) [1, 1, 1, 0, 1, 0, 0]), .blk 2, .code (sub (bodyOf Try.f30) [1, 1, 1, 1])]
def twns6 (t31 : List (List D)) (t32 t33 : Int) (b3_0 b3_1 b3_2 b3_3 : List (List D)) : St := ⟨[(2, .ptr (.loc 2) 0), (3, .ptr (.loc 3) 0), (31, .arr grpC t31), (32, .val (.int .i64 t32)), (33, .val (.int .i64 t33))], [(.loc 2, [.val nilSlice, .val nilSlice, .val nilSlice, .val nilSlice]), (.loc 3, [.own secC b3_0, .arr symC b3_1, .arr relC b3_2, .own grpC b3_3])]⟩
noncomputable def twnt0 (t0_0 t0_1 t0_2 t0_3 : List (List D)) : Tr := (.ask (Info.pre ld1i (76 : Nat) [handed [] (.arr symC t0_1)] [])
  (.ask (Info.pre ld1i (77 : Nat) [handed [] (.arr relC t0_2)] [])
  (.go 0 twnk1 (twns1 (t0_0) ((↑(List.length t0_0) : Int)) ((0 : Int)) (t0_0) (t0_1) (t0_2) (t0_3) (t0_1) (t0_2)))
  .fail)
  .fail)
set_option maxRecDepth 100000 in
theorem twnp0 (n : Nat) (t0_0 t0_1 t0_2 t0_3 : List (List D)) : exec ld1i (n + 27) (30, Try.f30, 0) twnk0 (twns0 t0_0 t0_1 t0_2 t0_3) = Tr.val ld1i (30, Try.f30, 0) n (twnt0 t0_0 t0_1 t0_2 t0_3) := by kernel_rfl
noncomputable def twnt1 (t16 : List (List D)) (t17 t18 : Int) (b1_0 b1_1 b1_2 b1_3 b3_1 b3_2 : List (List D)) : Tr := (.ask (decide (t18 < t17))
  (.ask (decide ((0 : Int) ≤ t18) && decide (t18 < (↑(List.length t16) : Int)))
  (.ask (Info.pre ld1i (78 : Nat) [handed [] (.agg [V.val (Value.string (cellS t16 (Int.toNat t18) (0 : Nat))), V.val (.int .i64 (cellI t16 (Int.toNat t18) (1 : Nat))), V.arr u8s (cellA t16 (Int.toNat t18) (2 : Nat)), V.val (.int .i64 (cellI t16 (Int.toNat t18) (3 : Nat)))])] [])
  (.go 0 twnk2 (twns2 (t16) (t17) (IntKind.wrap .i64 (t18 + (1 : Int))) (b1_0) (b1_1) (b1_2) (b1_3) ([[D.str (cellS t16 (Int.toNat t18) (0 : Nat)), D.int (cellI t16 (Int.toNat t18) (1 : Nat)), D.arr (cellA t16 (Int.toNat t18) (2 : Nat)), D.int (cellI t16 (Int.toNat t18) (3 : Nat))]]) (b3_1) (b3_2)))
  .fail)
  .fail)
  (.go 15 twnk3 (twns3 (b1_3) ((↑(List.length b1_3) : Int)) ((0 : Int)) (b3_1) (b3_2))))
set_option maxRecDepth 100000 in
theorem twnp1 (n : Nat) (t16 : List (List D)) (t17 t18 : Int) (b1_0 b1_1 b1_2 b1_3 b3_1 b3_2 : List (List D)) : exec ld1i (n + 32) (30, Try.f30, 0) twnk1 (twns1 t16 t17 t18 b1_0 b1_1 b1_2 b1_3 b3_1 b3_2) = Tr.val ld1i (30, Try.f30, 0) n (twnt1 t16 t17 t18 b1_0 b1_1 b1_2 b1_3 b3_1 b3_2) := by kernel_rfl
noncomputable def twnt2 (t16 : List (List D)) (t17 t18 : Int) (b1_0 b1_1 b1_2 b1_3 b3_0 b3_1 b3_2 : List (List D)) : Tr := (.ask (decide (t18 < t17))
  (.ask (decide ((0 : Int) ≤ t18) && decide (t18 < (↑(List.length t16) : Int)))
  (.ask (Info.pre ld1i (78 : Nat) [handed [] (.agg [V.val (Value.string (cellS t16 (Int.toNat t18) (0 : Nat))), V.val (.int .i64 (cellI t16 (Int.toNat t18) (1 : Nat))), V.arr u8s (cellA t16 (Int.toNat t18) (2 : Nat)), V.val (.int .i64 (cellI t16 (Int.toNat t18) (3 : Nat)))])] [])
  (.ask (decide ((List.length b3_0 + List.length [[D.str (cellS t16 (Int.toNat t18) (0 : Nat)), D.int (cellI t16 (Int.toNat t18) (1 : Nat)), D.arr (cellA t16 (Int.toNat t18) (2 : Nat)), D.int (cellI t16 (Int.toNat t18) (3 : Nat))]]) * (56 : Nat) ≤ (70368744177664 : Nat)) && decide (List.length b3_0 + List.length [[D.str (cellS t16 (Int.toNat t18) (0 : Nat)), D.int (cellI t16 (Int.toNat t18) (1 : Nat)), D.arr (cellA t16 (Int.toNat t18) (2 : Nat)), D.int (cellI t16 (Int.toNat t18) (3 : Nat))]] ≤ (70368744177664 : Nat)))
  (.go 0 twnk2 (twns2 (t16) (t17) (IntKind.wrap .i64 (t18 + (1 : Int))) (b1_0) (b1_1) (b1_2) (b1_3) (b3_0 ++ [[D.str (cellS t16 (Int.toNat t18) (0 : Nat)), D.int (cellI t16 (Int.toNat t18) (1 : Nat)), D.arr (cellA t16 (Int.toNat t18) (2 : Nat)), D.int (cellI t16 (Int.toNat t18) (3 : Nat))]]) (b3_1) (b3_2)))
  .fail)
  .fail)
  .fail)
  (.go 15 twnk4 (twns4 (b1_3) ((↑(List.length b1_3) : Int)) ((0 : Int)) (b3_0) (b3_1) (b3_2))))
set_option maxRecDepth 100000 in
theorem twnp2 (n : Nat) (t16 : List (List D)) (t17 t18 : Int) (b1_0 b1_1 b1_2 b1_3 b3_0 b3_1 b3_2 : List (List D)) : exec ld1i (n + 32) (30, Try.f30, 0) twnk2 (twns2 t16 t17 t18 b1_0 b1_1 b1_2 b1_3 b3_0 b3_1 b3_2) = Tr.val ld1i (30, Try.f30, 0) n (twnt2 t16 t17 t18 b1_0 b1_1 b1_2 b1_3 b3_0 b3_1 b3_2) := by kernel_rfl
noncomputable def twnt3 (t31 : List (List D)) (t32 t33 : Int) (b3_1 b3_2 : List (List D)) : Tr := (.ask (decide (t33 < t32))
  (.ask (decide ((0 : Int) ≤ t33) && decide (t33 < (↑(List.length t31) : Int)))
  (.ask (Info.pre ld1i (79 : Nat) [handed [] (.arr i64s (cellA t31 (Int.toNat t33) (1 : Nat)))] [])
  (.go 0 twnk5 (twns5 (t31) (t32) (IntKind.wrap .i64 (t33 + (1 : Int))) (b3_1) (b3_2) ([[D.str (cellS t31 (Int.toNat t33) (0 : Nat)), D.arr (cellA t31 (Int.toNat t33) (1 : Nat))]])))
  .fail)
  .fail)
  (.ret (.agg [.val nilSlice, .arr symC (b3_1), .arr relC (b3_2), .val nilSlice], [])))
set_option maxRecDepth 100000 in
theorem twnp3 (n : Nat) (t31 : List (List D)) (t32 t33 : Int) (b3_1 b3_2 : List (List D)) : exec ld1i (n + 36) (30, Try.f30, 0) twnk3 (twns3 t31 t32 t33 b3_1 b3_2) = Tr.val ld1i (30, Try.f30, 0) n (twnt3 t31 t32 t33 b3_1 b3_2) := by kernel_rfl
noncomputable def twnt4 (t31 : List (List D)) (t32 t33 : Int) (b3_0 b3_1 b3_2 : List (List D)) : Tr := (.ask (decide (t33 < t32))
  (.ask (decide ((0 : Int) ≤ t33) && decide (t33 < (↑(List.length t31) : Int)))
  (.ask (Info.pre ld1i (79 : Nat) [handed [] (.arr i64s (cellA t31 (Int.toNat t33) (1 : Nat)))] [])
  (.go 0 twnk6 (twns6 (t31) (t32) (IntKind.wrap .i64 (t33 + (1 : Int))) (b3_0) (b3_1) (b3_2) ([[D.str (cellS t31 (Int.toNat t33) (0 : Nat)), D.arr (cellA t31 (Int.toNat t33) (1 : Nat))]])))
  .fail)
  .fail)
  (.ret (.agg [.arr secC (b3_0), .arr symC (b3_1), .arr relC (b3_2), .val nilSlice], [])))
set_option maxRecDepth 100000 in
theorem twnp4 (n : Nat) (t31 : List (List D)) (t32 t33 : Int) (b3_0 b3_1 b3_2 : List (List D)) : exec ld1i (n + 36) (30, Try.f30, 0) twnk4 (twns4 t31 t32 t33 b3_0 b3_1 b3_2) = Tr.val ld1i (30, Try.f30, 0) n (twnt4 t31 t32 t33 b3_0 b3_1 b3_2) := by kernel_rfl
noncomputable def twnt5 (t31 : List (List D)) (t32 t33 : Int) (b3_1 b3_2 b3_3 : List (List D)) : Tr := (.ask (decide (t33 < t32))
  (.ask (decide ((0 : Int) ≤ t33) && decide (t33 < (↑(List.length t31) : Int)))
  (.ask (Info.pre ld1i (79 : Nat) [handed [] (.arr i64s (cellA t31 (Int.toNat t33) (1 : Nat)))] [])
  (.ask (decide ((List.length b3_3 + List.length [[D.str (cellS t31 (Int.toNat t33) (0 : Nat)), D.arr (cellA t31 (Int.toNat t33) (1 : Nat))]]) * (40 : Nat) ≤ (70368744177664 : Nat)) && decide (List.length b3_3 + List.length [[D.str (cellS t31 (Int.toNat t33) (0 : Nat)), D.arr (cellA t31 (Int.toNat t33) (1 : Nat))]] ≤ (70368744177664 : Nat)))
  (.go 0 twnk5 (twns5 (t31) (t32) (IntKind.wrap .i64 (t33 + (1 : Int))) (b3_1) (b3_2) (b3_3 ++ [[D.str (cellS t31 (Int.toNat t33) (0 : Nat)), D.arr (cellA t31 (Int.toNat t33) (1 : Nat))]])))
  .fail)
  .fail)
  .fail)
  (.ret (.agg [.val nilSlice, .arr symC (b3_1), .arr relC (b3_2), .arr grpC (b3_3)], [])))
set_option maxRecDepth 100000 in
theorem twnp5 (n : Nat) (t31 : List (List D)) (t32 t33 : Int) (b3_1 b3_2 b3_3 : List (List D)) : exec ld1i (n + 36) (30, Try.f30, 0) twnk5 (twns5 t31 t32 t33 b3_1 b3_2 b3_3) = Tr.val ld1i (30, Try.f30, 0) n (twnt5 t31 t32 t33 b3_1 b3_2 b3_3) := by kernel_rfl
noncomputable def twnt6 (t31 : List (List D)) (t32 t33 : Int) (b3_0 b3_1 b3_2 b3_3 : List (List D)) : Tr := (.ask (decide (t33 < t32))
  (.ask (decide ((0 : Int) ≤ t33) && decide (t33 < (↑(List.length t31) : Int)))
  (.ask (Info.pre ld1i (79 : Nat) [handed [] (.arr i64s (cellA t31 (Int.toNat t33) (1 : Nat)))] [])
  (.ask (decide ((List.length b3_3 + List.length [[D.str (cellS t31 (Int.toNat t33) (0 : Nat)), D.arr (cellA t31 (Int.toNat t33) (1 : Nat))]]) * (40 : Nat) ≤ (70368744177664 : Nat)) && decide (List.length b3_3 + List.length [[D.str (cellS t31 (Int.toNat t33) (0 : Nat)), D.arr (cellA t31 (Int.toNat t33) (1 : Nat))]] ≤ (70368744177664 : Nat)))
  (.go 0 twnk6 (twns6 (t31) (t32) (IntKind.wrap .i64 (t33 + (1 : Int))) (b3_0) (b3_1) (b3_2) (b3_3 ++ [[D.str (cellS t31 (Int.toNat t33) (0 : Nat)), D.arr (cellA t31 (Int.toNat t33) (1 : Nat))]])))
  .fail)
  .fail)
  .fail)
  (.ret (.agg [.arr secC (b3_0), .arr symC (b3_1), .arr relC (b3_2), .arr grpC (b3_3)], [])))
set_option maxRecDepth 100000 in
theorem twnp6 (n : Nat) (t31 : List (List D)) (t32 t33 : Int) (b3_0 b3_1 b3_2 b3_3 : List (List D)) : exec ld1i (n + 36) (30, Try.f30, 0) twnk6 (twns6 t31 t32 t33 b3_0 b3_1 b3_2 b3_3) = Tr.val ld1i (30, Try.f30, 0) n (twnt6 t31 t32 t33 b3_0 b3_1 b3_2 b3_3) := by kernel_rfl
noncomputable def eqgk0 : List T := [.code (sub (bodyOf Try.f73) [])]
def eqgs0 (t0 t1 : List (List D)) : St := ⟨[(0, .arr grpC t0), (1, .arr grpC t1), (2, .val (Value.func (Fn.func (74 : Nat)) { toList := [] } { toList := [] }))], []⟩
noncomputable def eqgk1 : List T := [.code (sub (bodyOf Try.f73) [1, 1, 0, 1, 0, 0]), .lp (sub (bodyOf Try.f73) [1, 1, 0, 1, 0, 0]), .blk 0, .code (sub (bodyOf Try.f73) [1, 1, 1])]
def eqgs1 (t1 t15 : List (List D)) (t16 t17 : Int) : St := ⟨[(1, .arr grpC t1), (2, .val (Value.func (Fn.func (74 : Nat)) { toList := [] } { toList := [] })), (15, .arr grpC t15), (16, .val (.int .i64 t16)), (17, .val (.int .i64 t17))], []⟩
noncomputable def eqgt0 (t0 t1 : List (List D)) : Tr := (.ask ((↑(List.length t0) : Int) != (↑(List.length t1) : Int))
  (.ret (.val (.bool (false)), []))
  (.go 0 eqgk1 (eqgs1 (t1) (t0) ((↑(List.length t0) : Int)) ((0 : Int)))))
set_option maxRecDepth 100000 in
theorem eqgp0 (n : Nat) (t0 t1 : List (List D)) : exec ld2i (n + 24) (73, Try.f73, 0) eqgk0 (eqgs0 t0 t1) = Tr.val ld2i (73, Try.f73, 0) n (eqgt0 t0 t1) := by kernel_rfl
noncomputable def eqgt1 (t1 t15 : List (List D)) (t16 t17 : Int) : Tr := (.ask (decide (t17 < t16))
  (.ask (decide ((0 : Int) ≤ t17) && decide (t17 < (↑(List.length t15) : Int)))
  (.ask (decide ((0 : Int) ≤ t17) && decide (t17 < (↑(List.length t1) : Int)))
  (.ask (Info.pre ld2i (74 : Nat) [handed [] (.agg [V.val (Value.string (cellS t15 (Int.toNat t17) (0 : Nat))), V.arr i64s (cellA t15 (Int.toNat t17) (1 : Nat))]), handed [] (.agg [V.val (Value.string (cellS t1 (Int.toNat t17) (0 : Nat))), V.arr i64s (cellA t1 (Int.toNat t17) (1 : Nat))])] [])
  (.ask (!sameGrp [D.str (cellS t15 (Int.toNat t17) (0 : Nat)), D.arr (cellA t15 (Int.toNat t17) (1 : Nat))] [D.str (cellS t1 (Int.toNat t17) (0 : Nat)), D.arr (cellA t1 (Int.toNat t17) (1 : Nat))])
  (.ret (.val (.bool (false)), []))
  (.go 0 eqgk1 (eqgs1 (t1) (t15) (t16) (IntKind.wrap .i64 (t17 + (1 : Int))))))
  .fail)
  .fail)
  .fail)
  (.ret (.val (.bool (true)), [])))
set_option maxRecDepth 100000 in
theorem eqgp1 (n : Nat) (t1 t15 : List (List D)) (t16 t17 : Int) : exec ld2i (n + 43) (73, Try.f73, 0) eqgk1 (eqgs1 t1 t15 t16 t17) = Tr.val ld2i (73, Try.f73, 0) n (eqgt1 t1 t15 t16 t17) := by kernel_rfl
noncomputable def samk0 : List T := [.code (sub (bodyOf Try.f29) [])]
def sams0 (t0_0 t0_1 t0_2 t0_3 t1_0 t1_1 t1_2 t1_3 : List (List D)) : St := ⟨[(0, .agg [.arr secC t0_0, .arr symC t0_1, .arr relC t0_2, .arr grpC t0_3]), (1, .agg [.arr secC t1_0, .arr symC t1_1, .arr relC t1_2, .arr grpC t1_3])], []⟩
noncomputable def samt0 (t0_0 t0_1 t0_2 t0_3 t1_0 t1_1 t1_2 t1_3 : List (List D)) : Tr := (.ask (Info.pre ld3i (69 : Nat) [handed [] (.arr secC t0_0), handed [] (.arr secC t1_0), handed [] (.val (Value.func (Fn.func (70 : Nat)) #[] #[]))] [])
  (.ask (eqAll sameSec t0_0 t1_0)
  (.ask (Info.pre ld3i (71 : Nat) [handed [] (.arr symC t0_1), handed [] (.arr symC t1_1)] [])
  (.ask (eqAll sameSym t0_1 t1_1)
  (.ask (Info.pre ld3i (72 : Nat) [handed [] (.arr relC t0_2), handed [] (.arr relC t1_2)] [])
  (.ask (eqAll sameRel t0_2 t1_2)
  (.ask (Info.pre ld3i (73 : Nat) [handed [] (.arr grpC t0_3), handed [] (.arr grpC t1_3), handed [] (.val (Value.func (Fn.func (74 : Nat)) #[] #[]))] [])
  (.ret (.val (.bool (eqAll sameGrp t0_3 t1_3)), []))
  .fail)
  (.ret (.val (.bool (false)), [])))
  .fail)
  (.ret (.val (.bool (false)), [])))
  .fail)
  (.ret (.val (.bool (false)), [])))
  .fail)
set_option maxRecDepth 100000 in
theorem samp0 (n : Nat) (t0_0 t0_1 t0_2 t0_3 t1_0 t1_1 t1_2 t1_3 : List (List D)) : exec ld3i (n + 37) (29, Try.f29, 0) samk0 (sams0 t0_0 t0_1 t0_2 t0_3 t1_0 t1_1 t1_2 t1_3) = Tr.val ld3i (29, Try.f29, 0) n (samt0 t0_0 t0_1 t0_2 t0_3 t1_0 t1_1 t1_2 t1_3) := by kernel_rfl
noncomputable def cynk0 : List T := [.code (sub (bodyOf Try.f76) [])]
def cyns0  : St := ⟨[(0, .val nilSlice)], []⟩
noncomputable def cynt0  : Tr := (.ret (.val nilSlice, []))
set_option maxRecDepth 100000 in
theorem cynp0 (n : Nat)  : exec ld0i (n + 16) (76, Try.f76, 0) cynk0 (cyns0 ) = Tr.val ld0i (76, Try.f76, 0) n (cynt0 ) := by kernel_rfl
noncomputable def cysk0 : List T := [.code (sub (bodyOf Try.f76) [])]
def cyss0 (p : Addr) (c : Nat) : St := ⟨[(0, .val (Value.slice (some p) (0 : Nat) c))], []⟩
noncomputable def cyst0  : Tr := (.ret (.own symC ([]), []))
set_option maxRecDepth 100000 in
theorem cysp0 (n : Nat) (p : Addr) (c : Nat) : exec ld0i (n + 20) (76, Try.f76, 0) cysk0 (cyss0 p c) = Tr.val ld0i (76, Try.f76, 0) n (cyst0 ) := by kernel_rfl
noncomputable def cznk0 : List T := [.code (sub (bodyOf Try.f77) [])]
def czns0  : St := ⟨[(0, .val nilSlice)], []⟩
noncomputable def cznt0  : Tr := (.ret (.val nilSlice, []))
set_option maxRecDepth 100000 in
theorem cznp0 (n : Nat)  : exec ld0i (n + 16) (77, Try.f77, 0) cznk0 (czns0 ) = Tr.val ld0i (77, Try.f77, 0) n (cznt0 ) := by kernel_rfl
noncomputable def czsk0 : List T := [.code (sub (bodyOf Try.f77) [])]
def czss0 (p : Addr) (c : Nat) : St := ⟨[(0, .val (Value.slice (some p) (0 : Nat) c))], []⟩
noncomputable def czst0  : Tr := (.ret (.own relC ([]), []))
set_option maxRecDepth 100000 in
theorem czsp0 (n : Nat) (p : Addr) (c : Nat) : exec ld0i (n + 20) (77, Try.f77, 0) czsk0 (czss0 p c) = Tr.val ld0i (77, Try.f77, 0) n (czst0 ) := by kernel_rfl
noncomputable def cink0 : List T := [.code (sub (bodyOf Try.f79) [])]
def cins0  : St := ⟨[(0, .val nilSlice)], []⟩
noncomputable def cint0  : Tr := (.ret (.val nilSlice, []))
set_option maxRecDepth 100000 in
theorem cinp0 (n : Nat)  : exec ld0i (n + 16) (79, Try.f79, 0) cink0 (cins0 ) = Tr.val ld0i (79, Try.f79, 0) n (cint0 ) := by kernel_rfl
noncomputable def cisk0 : List T := [.code (sub (bodyOf Try.f79) [])]
def ciss0 (p : Addr) (c : Nat) : St := ⟨[(0, .val (Value.slice (some p) (0 : Nat) c))], []⟩
noncomputable def cist0  : Tr := (.ret (.own i64s ([]), []))
set_option maxRecDepth 100000 in
theorem cisp0 (n : Nat) (p : Addr) (c : Nat) : exec ld0i (n + 20) (79, Try.f79, 0) cisk0 (ciss0 p c) = Tr.val ld0i (79, Try.f79, 0) n (cist0 ) := by kernel_rfl
end Go.Proofs.Ytkcopbnaleiocaa.Ev
