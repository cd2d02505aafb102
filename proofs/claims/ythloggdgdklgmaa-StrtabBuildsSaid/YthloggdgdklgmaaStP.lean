/- What the pieces of the runs come to, as a program printed it: each is checked by the kernel. -/
import Derived.Test.YthloggdgdklgmaaStD
namespace Go.Proofs.Ythloggdgdklgmaa.Ev
open Go
set_option linter.unusedVariables false
noncomputable def ixSk0 : List T := [.code (sub (bodyOf Try.f27) [])]
def ixSs0 (t0 : ByteArray) (t1 : Int) : St := ⟨[(0, .val (.string t0)), (1, .val (.int .u8 t1))], []⟩
set_option maxRecDepth 100000 in
theorem ixSp0 (n : Nat) (t0 : ByteArray) (t1 : Int) : exec st0 (n + 12) (27, Try.f27, 0) ixSk0 (ixSs0 t0 t1) = Tr.val st0 (27, Try.f27, 0) n (.ret (.val (.int .i64 (Lib.indexByte (Array.toList (ByteArray.data t0)) (Nat.toUInt8 (Int.toNat t1)))), [])) := by kernel_rfl
noncomputable def ixBk0 : List T := [.code (sub (bodyOf Try.f23) [])]
def ixBs0 (t0 : List (List D)) (t1 : Int) : St := ⟨[(0, .arr [CT.int IntKind.u8] t0), (1, .val (.int .u8 t1))], []⟩
set_option maxRecDepth 100000 in
theorem ixBp0 (n : Nat) (t0 : List (List D)) (t1 : Int) : exec st0 (n + 12) (23, Try.f23, 0) ixBk0 (ixBs0 t0 t1) = Tr.val st0 (23, Try.f23, 0) n (.ret (.val (.int .i64 (Lib.indexByte (Lib.bytesOf (bytesOfRow t0)) (Nat.toUInt8 (Int.toNat t1)))), [])) := by kernel_rfl
noncomputable def chkk0 : List T := [.code (sub (bodyOf Try.f15) [])]
def chks0 (t0 : List (List D)) : St := ⟨[(0, .arr [CT.int IntKind.u8] t0)], []⟩
set_option maxRecDepth 100000 in
theorem chkp0 (n : Nat) (t0 : List (List D)) : exec st0 (n + 41) (15, Try.f15, 0) chkk0 (chks0 t0) = Tr.val st0 (15, Try.f15, 0) n (.ask ((↑(List.length t0) : Int) == (0 : Int))
  (.ret (.val (.int .i64 ((8 : Int))), []))
  (.ask (decide ((↑(List.length t0) : Int) > (65536 : Int)))
  (.ret (.val (.int .i64 ((8 : Int))), []))
  (.ask (decide ((0 : Int) < (↑(List.length t0) : Int)))
  (.ask (cellI t0 (0 : Nat) (0 : Nat) != (0 : Int))
  (.ret (.val (.int .i64 ((8 : Int))), []))
  (.ask (decide ((0 : Int) ≤ IntKind.wrap IntKind.i64 ((↑(List.length t0) : Int) - (1 : Int))) && decide (IntKind.wrap IntKind.i64 ((↑(List.length t0) : Int) - (1 : Int)) < (↑(List.length t0) : Int)))
  (.ask (cellI t0 (Int.toNat (IntKind.wrap IntKind.i64 ((↑(List.length t0) : Int) - (1 : Int)))) (0 : Nat) != (0 : Int))
  (.ret (.val (.int .i64 ((8 : Int))), []))
  (.ret (.val (.int .i64 ((0 : Int))), [])))
  .fail))
  .fail))) := by kernel_rfl
noncomputable def sIxk0 : List T := [.code (sub (bodyOf Try.f22) [])]
def sIxs0 (t0 : ByteArray) (t1 : Int) : St := ⟨[(0, .val (.string t0)), (1, .val (.int .u8 t1))], []⟩
set_option maxRecDepth 100000 in
theorem sIxp0 (n : Nat) (t0 : ByteArray) (t1 : Int) : exec st1 (n + 12) (22, Try.f22, 0) sIxk0 (sIxs0 t0 t1) = Tr.val st1 (22, Try.f22, 0) n (.ret (.val (.int .i64 (ixB (Array.toList (ByteArray.data t0)) t1)), [])) := by kernel_rfl
noncomputable def getk0 : List T := [.code (sub (bodyOf Try.f16) [])]
def gets0 (t0 : List (List D)) (t1 : Int) : St := ⟨[(0, .arr [CT.int IntKind.u8] t0), (1, .val (.int .i64 t1))], []⟩
set_option maxRecDepth 100000 in
theorem getp0 (n : Nat) (t0 : List (List D)) (t1 : Int) : exec st1 (n + 49) (16, Try.f16, 0) getk0 (gets0 t0 t1) = Tr.val st1 (16, Try.f16, 0) n (.ask (chkR t0 != (0 : Int))
  (.ret (.tup [.val (.string ({ data := #[] })), .val (.int .i64 (chkR t0))], []))
  (.ask (decide (t1 < (0 : Int)))
  (.ret (.tup [.val (.string ({ data := #[] })), .val (.int .i64 ((8 : Int)))], []))
  (.ask (decide (t1 ≥ (↑(List.length t0) : Int)))
  (.ret (.tup [.val (.string ({ data := #[] })), .val (.int .i64 ((8 : Int)))], []))
  (.ask (okBounds t1 (↑(List.length t0) : Int) (↑(List.length t0) : Int))
  (.ask (okBounds t1 (IntKind.wrap IntKind.i64 (t1 + ixB (rowB (cut t0 t1 (↑(List.length t0) : Int))) (0 : Int))) (↑(List.length t0) : Int))
  (.ret (.tup [.val (.string (rowBytes (cut t0 t1 (IntKind.wrap IntKind.i64 (t1 + ixB (rowB (cut t0 t1 (↑(List.length t0) : Int))) (0 : Int)))))), .val (.int .i64 ((0 : Int)))], []))
  .fail)
  .fail)))) := by kernel_rfl
noncomputable def bldk0 : List T := [.code (sub (bodyOf Try.f14) [])]
def blds0 (t0 : List (List D)) : St := ⟨[(0, .arr [CT.str] t0)], []⟩
noncomputable def bldk1 : List T := [.code (sub (bodyOf Try.f14) [1, 1, 1, 1, 0, 1, 0, 0]), .lp (sub (bodyOf Try.f14) [1, 1, 1, 1, 0, 1, 0, 0]), .blk 0, .code (sub (bodyOf Try.f14) [1, 1, 1, 1, 1])]
def blds1 (t2 : List (List D)) (t16 : List (List D)) (t17 : Int) (t18 : Int) (m14_0 : List (List D)) : St := ⟨[(2, .own [CT.int IntKind.u8] t2), (3, .val nilSlice), (5, .mp 14 false), (16, .arr [CT.str] t16), (17, .val (.int .i64 t17)), (18, .val (.int .i64 t18))], [(.mp 14, [.arr [CT.str, CT.int IntKind.i64] m14_0])]⟩
noncomputable def bldk2 : List T := [.code (sub (bodyOf Try.f14) [1, 1, 1, 1, 0, 1, 0, 0]), .lp (sub (bodyOf Try.f14) [1, 1, 1, 1, 0, 1, 0, 0]), .blk 0, .code (sub (bodyOf Try.f14) [1, 1, 1, 1, 1])]
def blds2 (t2 : List (List D)) (t3 : List (List D)) (t16 : List (List D)) (t17 : Int) (t18 : Int) (m14_0 : List (List D)) : St := ⟨[(2, .own [CT.int IntKind.u8] t2), (3, .own [CT.int IntKind.i64] t3), (5, .mp 14 false), (16, .arr [CT.str] t16), (17, .val (.int .i64 t17)), (18, .val (.int .i64 t18))], [(.mp 14, [.arr [CT.str, CT.int IntKind.i64] m14_0])]⟩
set_option maxRecDepth 100000 in
theorem bldp0 (n : Nat) (t0 : List (List D)) : exec st2 (n + 36) (14, Try.f14, 0) bldk0 (blds0 t0) = Tr.val st2 (14, Try.f14, 0) n (.ask (decide ((↑(List.length t0) : Int) > (1024 : Int)))
  (.ret (.tup [.val nilSlice, .val nilSlice, .val (.int .i64 ((4 : Int)))], []))
  (.go 0 bldk1 (blds1 ([[D.int (0 : Int)]]) (t0) ((↑(List.length t0) : Int)) ((0 : Int)) ([[D.str { data := #[] }, D.int (0 : Int)]])))) := by kernel_rfl
set_option maxRecDepth 100000 in
theorem bldp1 (n : Nat) (t2 : List (List D)) (t16 : List (List D)) (t17 : Int) (t18 : Int) (m14_0 : List (List D)) : exec st2 (n + 81) (14, Try.f14, 0) bldk1 (blds1 t2 t16 t17 t18 m14_0) = Tr.val st2 (14, Try.f14, 0) n (.ask (decide (t18 < t17))
  (.ask (decide ((0 : Int) ≤ t18) && decide (t18 < (↑(List.length t16) : Int)))
  (.ask (decide ((↑(ByteArray.size (cellS t16 (Int.toNat t18) (0 : Nat))) : Int) > (64 : Int)))
  (.ret (.tup [.val nilSlice, .val nilSlice, .val (.int .i64 ((3 : Int)))], []))
  (.ask (decide (ixB (Array.toList (ByteArray.data (cellS t16 (Int.toNat t18) (0 : Nat)))) (0 : Int) ≥ (0 : Int)))
  (.ret (.tup [.val nilSlice, .val nilSlice, .val (.int .i64 ((3 : Int)))], []))
  (.ask (!hasD CT.str (Value.string (cellS t16 (Int.toNat t18) (0 : Nat))) m14_0)
  (.ask (decide ((List.length t2 + List.length (bytesRow (cellS t16 (Int.toNat t18) (0 : Nat)))) * (1 : Nat) ≤ (70368744177664 : Nat)) && decide (List.length t2 + List.length (bytesRow (cellS t16 (Int.toNat t18) (0 : Nat))) ≤ (70368744177664 : Nat)))
  (.ask (decide ((List.length (t2 ++ bytesRow (cellS t16 (Int.toNat t18) (0 : Nat))) + (1 : Nat)) * (1 : Nat) ≤ (70368744177664 : Nat)) && decide (List.length (t2 ++ bytesRow (cellS t16 (Int.toNat t18) (0 : Nat))) + (1 : Nat) ≤ (70368744177664 : Nat)))
  (.go 0 bldk2 (blds2 (t2 ++ bytesRow (cellS t16 (Int.toNat t18) (0 : Nat)) ++ [[D.int (0 : Int)]]) ([[D.int (↑(List.length t2) : Int)]]) (t16) (t17) (IntKind.wrap IntKind.i64 (t18 + (1 : Int))) (setRow CT.str (Value.string (cellS t16 (Int.toNat t18) (0 : Nat))) [D.str (cellS t16 (Int.toNat t18) (0 : Nat)), D.int (↑(List.length t2) : Int)] m14_0)))
  .fail)
  .fail)
  (.go 20 bldk2 (blds2 (t2) ([[D.int (D.toInt (lookD CT.str (Value.string (cellS t16 (Int.toNat t18) (0 : Nat))) (D.int (0 : Int)) m14_0))]]) (t16) (t17) (IntKind.wrap IntKind.i64 (t18 + (1 : Int))) (m14_0))))))
  .fail)
  (.ask (decide ((↑(List.length t2) : Int) > (65536 : Int)))
  (.ret (.tup [.val nilSlice, .val nilSlice, .val (.int .i64 ((9 : Int)))], []))
  (.ret (.tup [.own [CT.int IntKind.u8] (t2), .val nilSlice, .val (.int .i64 ((0 : Int)))], [])))) := by kernel_rfl
set_option maxRecDepth 100000 in
theorem bldp2 (n : Nat) (t2 : List (List D)) (t3 : List (List D)) (t16 : List (List D)) (t17 : Int) (t18 : Int) (m14_0 : List (List D)) : exec st2 (n + 81) (14, Try.f14, 0) bldk2 (blds2 t2 t3 t16 t17 t18 m14_0) = Tr.val st2 (14, Try.f14, 0) n (.ask (decide (t18 < t17))
  (.ask (decide ((0 : Int) ≤ t18) && decide (t18 < (↑(List.length t16) : Int)))
  (.ask (decide ((↑(ByteArray.size (cellS t16 (Int.toNat t18) (0 : Nat))) : Int) > (64 : Int)))
  (.ret (.tup [.val nilSlice, .val nilSlice, .val (.int .i64 ((3 : Int)))], []))
  (.ask (decide (ixB (Array.toList (ByteArray.data (cellS t16 (Int.toNat t18) (0 : Nat)))) (0 : Int) ≥ (0 : Int)))
  (.ret (.tup [.val nilSlice, .val nilSlice, .val (.int .i64 ((3 : Int)))], []))
  (.ask (!hasD CT.str (Value.string (cellS t16 (Int.toNat t18) (0 : Nat))) m14_0)
  (.ask (decide ((List.length t2 + List.length (bytesRow (cellS t16 (Int.toNat t18) (0 : Nat)))) * (1 : Nat) ≤ (70368744177664 : Nat)) && decide (List.length t2 + List.length (bytesRow (cellS t16 (Int.toNat t18) (0 : Nat))) ≤ (70368744177664 : Nat)))
  (.ask (decide ((List.length (t2 ++ bytesRow (cellS t16 (Int.toNat t18) (0 : Nat))) + (1 : Nat)) * (1 : Nat) ≤ (70368744177664 : Nat)) && decide (List.length (t2 ++ bytesRow (cellS t16 (Int.toNat t18) (0 : Nat))) + (1 : Nat) ≤ (70368744177664 : Nat)))
  (.ask (decide ((List.length t3 + List.length [[D.int (↑(List.length t2) : Int)]]) * (8 : Nat) ≤ (70368744177664 : Nat)) && decide (List.length t3 + List.length [[D.int (↑(List.length t2) : Int)]] ≤ (70368744177664 : Nat)))
  (.go 0 bldk2 (blds2 (t2 ++ bytesRow (cellS t16 (Int.toNat t18) (0 : Nat)) ++ [[D.int (0 : Int)]]) (t3 ++ [[D.int (↑(List.length t2) : Int)]]) (t16) (t17) (IntKind.wrap IntKind.i64 (t18 + (1 : Int))) (setRow CT.str (Value.string (cellS t16 (Int.toNat t18) (0 : Nat))) [D.str (cellS t16 (Int.toNat t18) (0 : Nat)), D.int (↑(List.length t2) : Int)] m14_0)))
  .fail)
  .fail)
  .fail)
  (.ask (decide ((List.length t3 + List.length [[D.int (D.toInt (lookD CT.str (Value.string (cellS t16 (Int.toNat t18) (0 : Nat))) (D.int (0 : Int)) m14_0))]]) * (8 : Nat) ≤ (70368744177664 : Nat)) && decide (List.length t3 + List.length [[D.int (D.toInt (lookD CT.str (Value.string (cellS t16 (Int.toNat t18) (0 : Nat))) (D.int (0 : Int)) m14_0))]] ≤ (70368744177664 : Nat)))
  (.go 20 bldk2 (blds2 (t2) (t3 ++ [[D.int (D.toInt (lookD CT.str (Value.string (cellS t16 (Int.toNat t18) (0 : Nat))) (D.int (0 : Int)) m14_0))]]) (t16) (t17) (IntKind.wrap IntKind.i64 (t18 + (1 : Int))) (m14_0)))
  .fail))))
  .fail)
  (.ask (decide ((↑(List.length t2) : Int) > (65536 : Int)))
  (.ret (.tup [.val nilSlice, .val nilSlice, .val (.int .i64 ((9 : Int)))], []))
  (.ret (.tup [.own [CT.int IntKind.u8] (t2), .own [CT.int IntKind.i64] (t3), .val (.int .i64 ((0 : Int)))], [])))) := by kernel_rfl
noncomputable def grtk0 : List T := [.code (sub (bodyOf Try.f13) [])]
def grts0 (t0 : List (List D)) : St := ⟨[(0, .arr [CT.str] t0)], []⟩
noncomputable def grtk1 : List T := [.code (sub (bodyOf Try.f13) [1, 1, 0, 1, 0, 0]), .lp (sub (bodyOf Try.f13) [1, 1, 0, 1, 0, 0]), .blk 0, .code (sub (bodyOf Try.f13) [1, 1, 1])]
def grts1 (t0 : List (List D)) (t3 : Int) (t4 : Int) : St := ⟨[(0, .arr [CT.str] t0), (3, .val (.int .i64 t3)), (4, .val (.int .i64 t4))], []⟩
set_option maxRecDepth 100000 in
theorem grtp0 (n : Nat) (t0 : List (List D)) : exec st2 (n + 15) (13, Try.f13, 0) grtk0 (grts0 t0) = Tr.val st2 (13, Try.f13, 0) n (.go 0 grtk1 (grts1 (t0) ((0 : Int)) ((0 : Int)))) := by kernel_rfl
set_option maxRecDepth 100000 in
theorem grtp1 (n : Nat) (t0 : List (List D)) (t3 : Int) (t4 : Int) : exec st2 (n + 36) (13, Try.f13, 0) grtk1 (grts1 t0 t3 t4) = Tr.val st2 (13, Try.f13, 0) n (.ask (decide (t4 < (↑(List.length t0) : Int)))
  (.ask (decide (t4 < (2000 : Int)))
  (.ask (decide ((0 : Int) ≤ t4) && decide (t4 < (↑(List.length t0) : Int)))
  (.go 2 grtk1 (grts1 (t0) (IntKind.wrap IntKind.i64 (t3 + if (100000 : Int) < (↑(ByteArray.size (cellS t0 (Int.toNat t4) (0 : Nat))) : Int) then (100000 : Int) else (↑(ByteArray.size (cellS t0 (Int.toNat t4) (0 : Nat))) : Int))) (IntKind.wrap IntKind.i64 (t4 + (1 : Int)))))
  .fail)
  (.ask (decide ((↑(List.length t0) : Int) > (200 : Int)))
  (.ask (decide ((↑(List.length t0) : Int) ≤ (1024 : Int)))
  (.ret (.val (.bool (true)), []))
  (.ask (decide ((↑(List.length t0) : Int) > (2000 : Int)))
  (.ret (.val (.bool (true)), []))
  (.ret (.val (.bool (decide (t3 > (50000 : Int)))), []))))
  (.ask (decide ((↑(List.length t0) : Int) > (2000 : Int)))
  (.ret (.val (.bool (true)), []))
  (.ret (.val (.bool (decide (t3 > (50000 : Int)))), [])))))
  (.ask (decide ((↑(List.length t0) : Int) > (200 : Int)))
  (.ask (decide ((↑(List.length t0) : Int) ≤ (1024 : Int)))
  (.ret (.val (.bool (true)), []))
  (.ask (decide ((↑(List.length t0) : Int) > (2000 : Int)))
  (.ret (.val (.bool (true)), []))
  (.ret (.val (.bool (decide (t3 > (50000 : Int)))), []))))
  (.ask (decide ((↑(List.length t0) : Int) > (2000 : Int)))
  (.ret (.val (.bool (true)), []))
  (.ret (.val (.bool (decide (t3 > (50000 : Int)))), []))))) := by kernel_rfl
noncomputable def onck0 : List T := [.code (sub (bodyOf Try.f4) [])]
def oncs0 (t0 : List (List D)) (t1 : Int) : St := ⟨[(0, .arr [CT.str] t0), (1, .val (.int .i64 t1))], []⟩
noncomputable def onck1 : List T := [.code (sub (bodyOf Try.f4) [1, 1, 1, 1, 1, 1, 1, 1, 1, 1, 1, 0, 1, 0, 0]), .lp (sub (bodyOf Try.f4) [1, 1, 1, 1, 1, 1, 1, 1, 1, 1, 1, 0, 1, 0, 0]), .blk 0, .code (sub (bodyOf Try.f4) [1, 1, 1, 1, 1, 1, 1, 1, 1, 1, 1, 1])]
def oncs1 (t0 : List (List D)) (t5 : Bool) (t6 : List (List D)) (t7 : List (List D)) (t11 : List (List D)) (t13 : Int) (t14 : Int) : St := ⟨[(0, .arr [CT.str] t0), (5, .val (.bool t5)), (6, .own [CT.int IntKind.u8] t6), (7, .own [CT.int IntKind.i64] t7), (11, .own [CT.int IntKind.i64] t11), (13, .val (.int .i64 t13)), (14, .val (.int .i64 t14))], []⟩
noncomputable def onck2 : List T := [.code (sub (bodyOf Try.f4) [1, 1, 1, 1, 1, 1, 1, 1, 1, 1, 1, 0, 1, 0, 0, 1, 0, 0, 0, 1, 0, 0]), .lp (sub (bodyOf Try.f4) [1, 1, 1, 1, 1, 1, 1, 1, 1, 1, 1, 0, 1, 0, 0, 1, 0, 0, 0, 1, 0, 0]), .blk 2, .code (sub (bodyOf Try.f4) [1, 1, 1, 1, 1, 1, 1, 1, 1, 1, 1, 0, 1, 0, 0, 1, 0, 0, 1]), .blk 1, .code (sub (bodyOf Try.f4) [1, 1, 1, 1, 1, 1, 1, 1, 1, 1, 1, 0, 1, 0, 0, 1, 1]), .lp (sub (bodyOf Try.f4) [1, 1, 1, 1, 1, 1, 1, 1, 1, 1, 1, 0, 1, 0, 0]), .blk 0, .code (sub (bodyOf Try.f4) [1, 1, 1, 1, 1, 1, 1, 1, 1, 1, 1, 1])]
def oncs2 (t0 : List (List D)) (t5 : Bool) (t6 : List (List D)) (t7 : List (List D)) (t11 : List (List D)) (t13 : Int) (t14 : Int) (t15 : Int) : St := ⟨[(0, .arr [CT.str] t0), (5, .val (.bool t5)), (6, .own [CT.int IntKind.u8] t6), (7, .own [CT.int IntKind.i64] t7), (11, .own [CT.int IntKind.i64] t11), (13, .val (.int .i64 t13)), (14, .val (.int .i64 t14)), (15, .val (.int .i64 t15))], []⟩
set_option maxRecDepth 100000 in
theorem oncp0 (n : Nat) (t0 : List (List D)) (t1 : Int) : exec st3 (n + 147) (4, Try.f4, 0) onck0 (oncs0 t0 t1) = Tr.val st3 (4, Try.f4, 0) n (.ask (grtR t0)
  (.ret (.val (.bool (true)), []))
  (.ask ((↑(List.length t0) : Int) == (0 : Int))
  (.ret (.val (.bool (true)), []))
  (.ask (decide (t1 < (0 : Int)))
  (.ret (.val (.bool (true)), []))
  (.ask (Bld.e (bldR t0) != (0 : Int))
  (.ask ((↑(List.length (Bld.t (bldR t0))) : Int) == (0 : Int))
  (.ret (.val (.bool ((↑(List.length (Bld.p (bldR t0))) : Int) == (0 : Int))), []))
  (.ret (.val (.bool (false)), [])))
  (.ask (decide (List.length t0 * (16 : Nat) ≤ (70368744177664 : Nat)) && decide (List.length t0 ≤ (70368744177664 : Nat)))
  (.ask (decide ((↑(List.length t0) : Int) ≠ (0 : Int)))
  (.ask (decide ((0 : Int) ≤ Int.tmod t1 (↑(List.length t0) : Int)) && decide (Int.tmod t1 (↑(List.length t0) : Int) < (↑(List.length t0) : Int)))
  (.ask (decide ((List.length t0 + List.length [[D.str (cellS t0 (Int.toNat (Int.tmod t1 (↑(List.length t0) : Int))) (0 : Nat))], [D.str { data := #[] }]]) * (16 : Nat) ≤ (70368744177664 : Nat)) && decide (List.length t0 + List.length [[D.str (cellS t0 (Int.toNat (Int.tmod t1 (↑(List.length t0) : Int))) (0 : Nat))], [D.str { data := #[] }]] ≤ (70368744177664 : Nat)))
  (.ask (Bld.e (bldR (t0 ++ [[D.str (cellS t0 (Int.toNat (Int.tmod t1 (↑(List.length t0) : Int))) (0 : Nat))], [D.str { data := #[] }]])) != (0 : Int))
  (.ret (.val (.bool (Bld.e (bldR (t0 ++ [[D.str (cellS t0 (Int.toNat (Int.tmod t1 (↑(List.length t0) : Int))) (0 : Nat))], [D.str { data := #[] }]])) == (4 : Int))), []))
  (.ask (!ByteArray.toList (rowBytes (Bld.t (bldR (t0 ++ [[D.str (cellS t0 (Int.toNat (Int.tmod t1 (↑(List.length t0) : Int))) (0 : Nat))], [D.str { data := #[] }]])))) == ByteArray.toList (rowBytes (Bld.t (bldR t0))))
  (.ret (.val (.bool (false)), []))
  (.ask ((↑(List.length (Bld.p (bldR (t0 ++ [[D.str (cellS t0 (Int.toNat (Int.tmod t1 (↑(List.length t0) : Int))) (0 : Nat))], [D.str { data := #[] }]])))) : Int) != IntKind.wrap IntKind.i64 ((↑(List.length t0) : Int) + (2 : Int)))
  (.ret (.val (.bool (false)), []))
  (.ask ((↑(List.length (Bld.p (bldR t0))) : Int) != (↑(List.length t0) : Int))
  (.ret (.val (.bool (false)), []))
  (.ask (decide ((↑(List.length t0) : Int) < (↑(List.length (Bld.p (bldR (t0 ++ [[D.str (cellS t0 (Int.toNat (Int.tmod t1 (↑(List.length t0) : Int))) (0 : Nat))], [D.str { data := #[] }]])))) : Int)))
  (.ask (decide ((↑(List.length t0) : Int) ≠ (0 : Int)))
  (.ask (decide ((0 : Int) ≤ Int.tmod t1 (↑(List.length t0) : Int)) && decide (Int.tmod t1 (↑(List.length t0) : Int) < (↑(List.length (Bld.p (bldR t0))) : Int)))
  (.ask (cellI (Bld.p (bldR (t0 ++ [[D.str (cellS t0 (Int.toNat (Int.tmod t1 (↑(List.length t0) : Int))) (0 : Nat))], [D.str { data := #[] }]]))) (List.length t0) (0 : Nat) != cellI (Bld.p (bldR t0)) (Int.toNat (Int.tmod t1 (↑(List.length t0) : Int))) (0 : Nat))
  (.ret (.val (.bool (false)), []))
  (.ask (decide ((0 : Int) ≤ IntKind.wrap IntKind.i64 ((↑(List.length t0) : Int) + (1 : Int))) && decide (IntKind.wrap IntKind.i64 ((↑(List.length t0) : Int) + (1 : Int)) < (↑(List.length (Bld.p (bldR (t0 ++ [[D.str (cellS t0 (Int.toNat (Int.tmod t1 (↑(List.length t0) : Int))) (0 : Nat))], [D.str { data := #[] }]])))) : Int)))
  (.ask (cellI (Bld.p (bldR (t0 ++ [[D.str (cellS t0 (Int.toNat (Int.tmod t1 (↑(List.length t0) : Int))) (0 : Nat))], [D.str { data := #[] }]]))) (Int.toNat (IntKind.wrap IntKind.i64 ((↑(List.length t0) : Int) + (1 : Int)))) (0 : Nat) != (0 : Int))
  (.ret (.val (.bool (false)), []))
  (.go 0 onck1 (oncs1 (t0) (true) (Bld.t (bldR t0)) (Bld.p (bldR t0)) (Bld.p (bldR (t0 ++ [[D.str (cellS t0 (Int.toNat (Int.tmod t1 (↑(List.length t0) : Int))) (0 : Nat))], [D.str { data := #[] }]]))) ((↑(List.length t0) : Int)) ((0 : Int)))))
  .fail))
  .fail)
  .fail)
  .fail)))))
  .fail)
  .fail)
  .fail)
  .fail))))) := by kernel_rfl
set_option maxRecDepth 100000 in
theorem oncp1 (n : Nat) (t0 : List (List D)) (t5 : Bool) (t6 : List (List D)) (t7 : List (List D)) (t11 : List (List D)) (t13 : Int) (t14 : Int) : exec st3 (n + 24) (4, Try.f4, 0) onck1 (oncs1 t0 t5 t6 t7 t11 t13 t14) = Tr.val st3 (4, Try.f4, 0) n (.ask (decide (t14 < t13))
  (.ask (decide (t14 < (40 : Int)))
  (.go 2 onck2 (oncs2 (t0) (t5) (t6) (t7) (t11) (t13) (t14) ((0 : Int))))
  (.ask (t5)
  (.ret (.val (.bool (chkR t6 == (0 : Int))), []))
  (.ret (.val (.bool (false)), []))))
  (.ask (t5)
  (.ret (.val (.bool (chkR t6 == (0 : Int))), []))
  (.ret (.val (.bool (false)), [])))) := by kernel_rfl
set_option maxRecDepth 100000 in
theorem oncp2 (n : Nat) (t0 : List (List D)) (t5 : Bool) (t6 : List (List D)) (t7 : List (List D)) (t11 : List (List D)) (t13 : Int) (t14 : Int) (t15 : Int) : exec st3 (n + 61) (4, Try.f4, 0) onck2 (oncs2 t0 t5 t6 t7 t11 t13 t14 t15) = Tr.val st3 (4, Try.f4, 0) n (.ask (decide (t15 < t14))
  (.ask (decide ((0 : Int) ≤ t14) && decide (t14 < (↑(List.length t7) : Int)))
  (.ask (decide ((0 : Int) ≤ t15) && decide (t15 < (↑(List.length t7) : Int)))
  (.ask (decide ((0 : Int) ≤ t14) && decide (t14 < (↑(List.length t0) : Int)))
  (.ask (decide ((0 : Int) ≤ t15) && decide (t15 < (↑(List.length t0) : Int)))
  (.ask (!(cellI t7 (Int.toNat t14) (0 : Nat) == cellI t7 (Int.toNat t15) (0 : Nat)) == (ByteArray.toList (cellS t0 (Int.toNat t14) (0 : Nat)) == ByteArray.toList (cellS t0 (Int.toNat t15) (0 : Nat))))
  (.ret (.val (.bool (false)), []))
  (.go 19 onck2 (oncs2 (t0) (t5) (t6) (t7) (t11) (t13) (t14) (IntKind.wrap IntKind.i64 (t15 + (1 : Int))))))
  .fail)
  .fail)
  .fail)
  .fail)
  (.ask (decide ((0 : Int) ≤ t14) && decide (t14 < (↑(List.length t11) : Int)))
  (.ask (decide ((0 : Int) ≤ t14) && decide (t14 < (↑(List.length t7) : Int)))
  (.ask (cellI t11 (Int.toNat t14) (0 : Nat) != cellI t7 (Int.toNat t14) (0 : Nat))
  (.ret (.val (.bool (false)), []))
  (.ask (decide ((0 : Int) ≤ t14) && decide (t14 < (↑(List.length t7) : Int)))
  (.ask (decide ((0 : Int) ≤ t14) && decide (t14 < (↑(List.length t0) : Int)))
  (.ask (decide (IntKind.wrap IntKind.i64 (cellI t7 (Int.toNat t14) (0 : Nat) + (↑(ByteArray.size (cellS t0 (Int.toNat t14) (0 : Nat))) : Int)) ≥ (↑(List.length t6) : Int)))
  (.ret (.val (.bool (false)), []))
  (.ask (decide ((0 : Int) ≤ t14) && decide (t14 < (↑(List.length t7) : Int)))
  (.ask (decide ((0 : Int) ≤ t14) && decide (t14 < (↑(List.length t0) : Int)))
  (.ask (decide ((0 : Int) ≤ IntKind.wrap IntKind.i64 (cellI t7 (Int.toNat t14) (0 : Nat) + (↑(ByteArray.size (cellS t0 (Int.toNat t14) (0 : Nat))) : Int))) && decide (IntKind.wrap IntKind.i64 (cellI t7 (Int.toNat t14) (0 : Nat) + (↑(ByteArray.size (cellS t0 (Int.toNat t14) (0 : Nat))) : Int)) < (↑(List.length t6) : Int)))
  (.ask (cellI t6 (Int.toNat (IntKind.wrap IntKind.i64 (cellI t7 (Int.toNat t14) (0 : Nat) + (↑(ByteArray.size (cellS t0 (Int.toNat t14) (0 : Nat))) : Int)))) (0 : Nat) != (0 : Int))
  (.ret (.val (.bool (false)), []))
  (.go 0 onck1 (oncs1 (t0) (t5) (t6) (t7) (t11) (t13) (IntKind.wrap IntKind.i64 (t14 + (1 : Int))))))
  .fail)
  .fail)
  .fail))
  .fail)
  .fail))
  .fail)
  .fail)) := by kernel_rfl
noncomputable def rdsk0 : List T := [.code (sub (bodyOf Try.f8) [])]
def rdss0 (t0 : List (List D)) (t1 : Int) : St := ⟨[(0, .arr [CT.int IntKind.u8] t0), (1, .val (.int .i64 t1))], []⟩
set_option maxRecDepth 100000 in
theorem rdsp0 (n : Nat) (t0 : List (List D)) (t1 : Int) : exec st3 (n + 121) (8, Try.f8, 0) rdsk0 (rdss0 t0 t1) = Tr.val st3 (8, Try.f8, 0) n (.ask (decide ((↑(List.length t0) : Int) > (70000 : Int)))
  (.ret (.val (.bool (true)), []))
  (.ask (getE t0 t1 != (0 : Int))
  (.ask (ByteArray.toList (getS t0 t1) == ByteArray.toList { data := #[] })
  (.ask (chkR t0 != (0 : Int))
  (.ret (.val (.bool (true)), []))
  (.ask (decide (t1 < (0 : Int)))
  (.ret (.val (.bool (true)), []))
  (.ret (.val (.bool (decide (t1 ≥ (↑(List.length t0) : Int)))), []))))
  (.ret (.val (.bool (false)), [])))
  (.ask (decide (t1 < (0 : Int)))
  (.ret (.val (.bool (false)), []))
  (.ask (decide (IntKind.wrap IntKind.i64 (t1 + (↑(ByteArray.size (getS t0 t1)) : Int)) ≥ (↑(List.length t0) : Int)))
  (.ret (.val (.bool (false)), []))
  (.ask (okBounds t1 (IntKind.wrap IntKind.i64 (t1 + (↑(ByteArray.size (getS t0 t1)) : Int))) (↑(List.length t0) : Int))
  (.ask (!ByteArray.toList (rowBytes (cut t0 t1 (IntKind.wrap IntKind.i64 (t1 + (↑(ByteArray.size (getS t0 t1)) : Int))))) == ByteArray.toList (getS t0 t1))
  (.ret (.val (.bool (false)), []))
  (.ask (decide ((0 : Int) ≤ IntKind.wrap IntKind.i64 (t1 + (↑(ByteArray.size (getS t0 t1)) : Int))) && decide (IntKind.wrap IntKind.i64 (t1 + (↑(ByteArray.size (getS t0 t1)) : Int)) < (↑(List.length t0) : Int)))
  (.ask (cellI t0 (Int.toNat (IntKind.wrap IntKind.i64 (t1 + (↑(ByteArray.size (getS t0 t1)) : Int)))) (0 : Nat) != (0 : Int))
  (.ret (.val (.bool (false)), []))
  (.ask ((↑(ByteArray.size (getS t0 t1)) : Int) == (0 : Int))
  (.ret (.val (.bool (true)), []))
  (.ask (getE t0 (IntKind.wrap IntKind.i64 (t1 + (1 : Int))) == (0 : Int))
  (.ask (okBounds (1 : Int) (↑(ByteArray.size (getS t0 t1)) : Int) (↑(ByteArray.size (getS t0 t1)) : Int))
  (.ret (.val (.bool (ByteArray.toList (getS t0 (IntKind.wrap IntKind.i64 (t1 + (1 : Int)))) == ByteArray.toList (ByteArray.extract (getS t0 t1) (1 : Nat) (ByteArray.size (getS t0 t1))))), []))
  .fail)
  (.ret (.val (.bool (false)), [])))))
  .fail))
  .fail))))) := by kernel_rfl
noncomputable def tlsk0 : List T := [.code (sub (bodyOf Try.f9) [])]
def tlss0 (t0 : List (List D)) (t1 : Int) : St := ⟨[(0, .arr [CT.int IntKind.u8] t0), (1, .val (.int .i64 t1))], []⟩
noncomputable def tlsk1 : List T := [.code (sub (bodyOf Try.f9) [1, 1, 1, 1, 1, 1, 0, 1, 0, 0]), .lp (sub (bodyOf Try.f9) [1, 1, 1, 1, 1, 1, 0, 1, 0, 0]), .blk 0, .code (sub (bodyOf Try.f9) [1, 1, 1, 1, 1, 1, 1])]
def tlss1 (t0 : List (List D)) (t1 : Int) (t5 : Bool) (t6 : ByteArray) (t8 : Int) : St := ⟨[(0, .arr [CT.int IntKind.u8] t0), (1, .val (.int .i64 t1)), (5, .val (.bool t5)), (6, .val (.string t6)), (8, .val (.int .i64 t8))], []⟩
set_option maxRecDepth 100000 in
theorem tlsp0 (n : Nat) (t0 : List (List D)) (t1 : Int) : exec st3 (n + 73) (9, Try.f9, 0) tlsk0 (tlss0 t0 t1) = Tr.val st3 (9, Try.f9, 0) n (.ask (decide ((↑(List.length t0) : Int) > (70000 : Int)))
  (.ret (.val (.bool (true)), []))
  (.ask (getE t0 t1 != (0 : Int))
  (.ask (ByteArray.toList (getS t0 t1) == ByteArray.toList { data := #[] })
  (.ask (getE t0 t1 == (8 : Int))
  (.ask (chkR t0 != (0 : Int))
  (.ret (.val (.bool (true)), []))
  (.ask (decide (t1 < (0 : Int)))
  (.ret (.val (.bool (true)), []))
  (.ret (.val (.bool (decide (t1 ≥ (↑(List.length t0) : Int)))), []))))
  (.ret (.val (.bool (false)), [])))
  (.ret (.val (.bool (false)), [])))
  (.go 21 tlsk1 (tlss1 (t0) (t1) (true) (getS t0 t1) ((0 : Int)))))) := by kernel_rfl
set_option maxRecDepth 100000 in
theorem tlsp1 (n : Nat) (t0 : List (List D)) (t1 : Int) (t5 : Bool) (t6 : ByteArray) (t8 : Int) : exec st3 (n + 69) (9, Try.f9, 0) tlsk1 (tlss1 t0 t1 t5 t6 t8) = Tr.val st3 (9, Try.f9, 0) n (.ask (decide (t8 < (↑(ByteArray.size t6) : Int)))
  (.ask (decide ((0 : Int) ≤ t8) && decide (t8 < (↑(ByteArray.size t6) : Int)))
  (.ask (byteAt t6 t8 == (0 : Int))
  (.ret (.val (.bool (false)), []))
  (.ask (decide ((0 : Int) ≤ IntKind.wrap IntKind.i64 (t1 + t8)) && decide (IntKind.wrap IntKind.i64 (t1 + t8) < (↑(List.length t0) : Int)))
  (.ask (decide ((0 : Int) ≤ t8) && decide (t8 < (↑(ByteArray.size t6) : Int)))
  (.ask (cellI t0 (Int.toNat (IntKind.wrap IntKind.i64 (t1 + t8))) (0 : Nat) != byteAt t6 t8)
  (.ret (.val (.bool (false)), []))
  (.go 29 tlsk1 (tlss1 (t0) (t1) (t5) (t6) (IntKind.wrap IntKind.i64 (t8 + (1 : Int))))))
  .fail)
  .fail))
  .fail)
  (.ask (decide (IntKind.wrap IntKind.i64 (t1 + (↑(ByteArray.size t6) : Int)) ≥ (↑(List.length t0) : Int)))
  (.ret (.val (.bool (false)), []))
  (.ask (decide ((0 : Int) ≤ IntKind.wrap IntKind.i64 (t1 + (↑(ByteArray.size t6) : Int))) && decide (IntKind.wrap IntKind.i64 (t1 + (↑(ByteArray.size t6) : Int)) < (↑(List.length t0) : Int)))
  (.ask (cellI t0 (Int.toNat (IntKind.wrap IntKind.i64 (t1 + (↑(ByteArray.size t6) : Int)))) (0 : Nat) != (0 : Int))
  (.ret (.val (.bool (false)), []))
  (.ask (ByteArray.toList t6 == ByteArray.toList { data := #[] })
  (.ret (.val (.bool (t5)), []))
  (.ask (t5)
  (.ask (getE t0 (IntKind.wrap IntKind.i64 (t1 + (1 : Int))) == (0 : Int))
  (.ask (okBounds (1 : Int) (↑(ByteArray.size t6) : Int) (↑(ByteArray.size t6) : Int))
  (.ret (.val (.bool (ByteArray.toList (getS t0 (IntKind.wrap IntKind.i64 (t1 + (1 : Int)))) == ByteArray.toList (ByteArray.extract t6 (1 : Nat) (ByteArray.size t6)))), []))
  .fail)
  (.ret (.val (.bool (false)), [])))
  (.ret (.val (.bool (false)), [])))))
  .fail))) := by kernel_rfl
noncomputable def bckk0 : List T := [.code (sub (bodyOf Try.f7) [])]
def bcks0 (t0 : List (List D)) : St := ⟨[(0, .arr [CT.str] t0)], []⟩
noncomputable def bckk1 : List T := [.code (sub (bodyOf Try.f7) [1, 1, 1, 1, 1, 1, 1, 0, 1, 0, 0]), .lp (sub (bodyOf Try.f7) [1, 1, 1, 1, 1, 1, 1, 0, 1, 0, 0]), .blk 0, .code (sub (bodyOf Try.f7) [1, 1, 1, 1, 1, 1, 1, 1])]
def bcks1 (t0 : List (List D)) (t3 : Bool) (t4 : List (List D)) (t5 : List (List D)) (t7 : Int) : St := ⟨[(0, .arr [CT.str] t0), (3, .val (.bool t3)), (4, .arr [CT.int IntKind.u8] t4), (5, .own [CT.int IntKind.i64] t5), (7, .val (.int .i64 t7))], []⟩
noncomputable def bckk2 : List T := [.code (sub (bodyOf Try.f7) [1, 1, 1, 1, 1, 1, 1, 1, 1, 0, 1, 0, 0]), .lp (sub (bodyOf Try.f7) [1, 1, 1, 1, 1, 1, 1, 1, 1, 0, 1, 0, 0]), .blk 2, .code (sub (bodyOf Try.f7) [1, 1, 1, 1, 1, 1, 1, 1, 1, 1])]
def bcks2 (t3 : Bool) (t4 : List (List D)) (t11 : Int) : St := ⟨[(3, .val (.bool t3)), (4, .arr [CT.int IntKind.u8] t4), (10, .val nilSlice), (11, .val (.int .i64 t11))], []⟩
noncomputable def bckk3 : List T := [.code (sub (bodyOf Try.f7) [1, 1, 1, 1, 1, 1, 1, 1, 1, 0, 1, 0, 0]), .lp (sub (bodyOf Try.f7) [1, 1, 1, 1, 1, 1, 1, 1, 1, 0, 1, 0, 0]), .blk 2, .code (sub (bodyOf Try.f7) [1, 1, 1, 1, 1, 1, 1, 1, 1, 1])]
def bcks3 (t3 : Bool) (t4 : List (List D)) (t10 : List (List D)) (t11 : Int) : St := ⟨[(3, .val (.bool t3)), (4, .arr [CT.int IntKind.u8] t4), (10, .own [CT.str] t10), (11, .val (.int .i64 t11))], []⟩
set_option maxRecDepth 100000 in
theorem bckp0 (n : Nat) (t0 : List (List D)) : exec st3 (n + 68) (7, Try.f7, 0) bckk0 (bcks0 t0) = Tr.val st3 (7, Try.f7, 0) n (.ask (grtR t0)
  (.ret (.val (.bool (true)), []))
  (.ask (Bld.e (bldR t0) != (0 : Int))
  (.ask ((↑(List.length (Bld.t (bldR t0))) : Int) == (0 : Int))
  (.ret (.val (.bool ((↑(List.length (Bld.p (bldR t0))) : Int) == (0 : Int))), []))
  (.ret (.val (.bool (false)), [])))
  (.ask ((↑(List.length (Bld.p (bldR t0))) : Int) != (↑(List.length t0) : Int))
  (.ret (.val (.bool (false)), []))
  (.ask (chkR (Bld.t (bldR t0)) != (0 : Int))
  (.ret (.val (.bool (false)), []))
  (.go 0 bckk1 (bcks1 (t0) (true) (Bld.t (bldR t0)) (Bld.p (bldR t0)) ((0 : Int)))))))) := by kernel_rfl
set_option maxRecDepth 100000 in
theorem bckp1 (n : Nat) (t0 : List (List D)) (t3 : Bool) (t4 : List (List D)) (t5 : List (List D)) (t7 : Int) : exec st3 (n + 48) (7, Try.f7, 0) bckk1 (bcks1 t0 t3 t4 t5 t7) = Tr.val st3 (7, Try.f7, 0) n (.ask (decide (t7 < (↑(List.length t0) : Int)))
  (.ask (decide ((0 : Int) ≤ t7) && decide (t7 < (↑(List.length t5) : Int)))
  (.ask (getE t4 (cellI t5 (Int.toNat t7) (0 : Nat)) != (0 : Int))
  (.ret (.val (.bool (false)), []))
  (.ask (decide ((0 : Int) ≤ t7) && decide (t7 < (↑(List.length t0) : Int)))
  (.ask (!ByteArray.toList (getS t4 (cellI t5 (Int.toNat t7) (0 : Nat))) == ByteArray.toList (cellS t0 (Int.toNat t7) (0 : Nat)))
  (.ret (.val (.bool (false)), []))
  (.go 0 bckk1 (bcks1 (t0) (t3) (t4) (t5) (IntKind.wrap IntKind.i64 (t7 + (1 : Int))))))
  .fail))
  .fail)
  (.go 27 bckk2 (bcks2 (t3) (t4) ((1 : Int))))) := by kernel_rfl
set_option maxRecDepth 100000 in
theorem bckp2 (n : Nat) (t3 : Bool) (t4 : List (List D)) (t11 : Int) : exec st3 (n + 48) (7, Try.f7, 0) bckk2 (bcks2 t3 t4 t11) = Tr.val st3 (7, Try.f7, 0) n (.ask (decide (t11 < (↑(List.length t4) : Int)))
  (.ask (getE t4 t11 != (0 : Int))
  (.ret (.val (.bool (false)), []))
  (.go 0 bckk3 (bcks3 (t3) (t4) ([[D.str (getS t4 t11)]]) (IntKind.wrap IntKind.i64 (t11 + IntKind.wrap IntKind.i64 ((↑(ByteArray.size (getS t4 t11)) : Int) + (1 : Int)))))))
  (.ask (t3)
  (.ret (.val (.bool (ByteArray.toList (rowBytes [[D.int (0 : Int)]]) == ByteArray.toList (rowBytes t4))), []))
  (.ret (.val (.bool (false)), [])))) := by kernel_rfl
set_option maxRecDepth 100000 in
theorem bckp3 (n : Nat) (t3 : Bool) (t4 : List (List D)) (t10 : List (List D)) (t11 : Int) : exec st3 (n + 48) (7, Try.f7, 0) bckk3 (bcks3 t3 t4 t10 t11) = Tr.val st3 (7, Try.f7, 0) n (.ask (decide (t11 < (↑(List.length t4) : Int)))
  (.ask (getE t4 t11 != (0 : Int))
  (.ret (.val (.bool (false)), []))
  (.ask (decide ((List.length t10 + List.length [[D.str (getS t4 t11)]]) * (16 : Nat) ≤ (70368744177664 : Nat)) && decide (List.length t10 + List.length [[D.str (getS t4 t11)]] ≤ (70368744177664 : Nat)))
  (.go 0 bckk3 (bcks3 (t3) (t4) (t10 ++ [[D.str (getS t4 t11)]]) (IntKind.wrap IntKind.i64 (t11 + IntKind.wrap IntKind.i64 ((↑(ByteArray.size (getS t4 t11)) : Int) + (1 : Int))))))
  .fail))
  (.ask (t3)
  (.ask (Bld.e (bldR t10) == (0 : Int))
  (.ret (.val (.bool (ByteArray.toList (rowBytes (Bld.t (bldR t10))) == ByteArray.toList (rowBytes t4))), []))
  (.ret (.val (.bool (false)), [])))
  (.ret (.val (.bool (false)), [])))) := by kernel_rfl
end Go.Proofs.Ythloggdgdklgmaa.Ev
