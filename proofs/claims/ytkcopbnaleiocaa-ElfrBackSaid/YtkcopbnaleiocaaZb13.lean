/- A part of the proof: what the statement needs, and nothing else. -/
import Derived.Test.YtkcopbnaleiocaaZb12
namespace Go.Proofs.Ytkcopbnaleiocaa.Ev
open Go
set_option linter.unusedVariables false
noncomputable def innk0 : List T := [.code (sub (bodyOf Try.f114) [])]
def inns0 (t0 t1 t2 : Int) : St := ⟨[(0, .val (.int .i64 t0)), (1, .val (.int .i64 t1)), (2, .val (.int .i64 t2))], []⟩
noncomputable def innt0 (t0 t1 t2 : Int) : Tr := (.ask (decide (t0 ≥ t1))
  (.ret (.val (.bool (decide (t0 ≤ t2))), []))
  (.ret (.val (.bool (false)), [])))
set_option maxRecDepth 100000 in
theorem innp0 (n : Nat) (t0 t1 t2 : Int) : exec el6 (n + 17) (114, Try.f114, 0) innk0 (inns0 t0 t1 t2) = Tr.val el6 (114, Try.f114, 0) n (innt0 t0 t1 t2) := by kernel_rfl
noncomputable def namk0 : List T := [.code (sub (bodyOf Try.f115) [])]
def nams0 (t0 : ByteArray) : St := ⟨[(0, .val (.string t0))], []⟩
noncomputable def namk1 : List T := [.code (sub (bodyOf Try.f115) [1, 1, 0, 1, 0, 0]), .lp (sub (bodyOf Try.f115) [1, 1, 0, 1, 0, 0]), .blk 0, .code (sub (bodyOf Try.f115) [1, 1, 1])]
def nams1 (t0 : ByteArray) (t13 t14 : Int) : St := ⟨[(0, .val (.string t0)), (13, .val (.int .i64 t13)), (14, .val (.int .i64 t14))], []⟩
noncomputable def namt0 (t0 : ByteArray) : Tr := (.ask (ByteArray.toList t0 == ByteArray.toList { data := #[] })
  (.ret (.val (.bool (false)), []))
  (.ask (decide ((↑(ByteArray.size t0) : Int) > (32 : Int)))
  (.ret (.val (.bool (false)), []))
  (.go 0 namk1 (nams1 (t0) ((↑(ByteArray.size t0) : Int)) ((0 : Int))))))
set_option maxRecDepth 100000 in
theorem namp0 (n : Nat) (t0 : ByteArray) : exec el6 (n + 26) (115, Try.f115, 0) namk0 (nams0 t0) = Tr.val el6 (115, Try.f115, 0) n (namt0 t0) := by kernel_rfl
noncomputable def namt1 (t0 : ByteArray) (t13 t14 : Int) : Tr := (.ask (decide (t14 < t13))
  (.ask (decide ((0 : Int) ≤ t14) && decide (t14 < (↑(ByteArray.size t0) : Int)))
  (.ask (decide (byteAt t0 t14 < (33 : Int)))
  (.ret (.val (.bool (false)), []))
  (.ask (decide (byteAt t0 t14 > (126 : Int)))
  (.ret (.val (.bool (false)), []))
  (.go 0 namk1 (nams1 (t0) (t13) (IntKind.wrap .i64 (t14 + (1 : Int)))))))
  .fail)
  (.ret (.val (.bool (true)), [])))
set_option maxRecDepth 100000 in
theorem namp1 (n : Nat) (t0 : ByteArray) (t13 t14 : Int) : exec el6 (n + 38) (115, Try.f115, 0) namk1 (nams1 t0 t13 t14) = Tr.val el6 (115, Try.f115, 0) n (namt1 t0 t13 t14) := by kernel_rfl
noncomputable def fiek0 : List T := [.code (sub (bodyOf Try.f184) [])]
def fies0 (t0 : Int) : St := ⟨[(0, .val (.int .u8 t0))], []⟩
noncomputable def fiet0 (t0 : Int) : Tr := (.ask (t0 == (43 : Int))
  (.ret (.tup [z0, z0], []))
  (.ask (t0 == (51 : Int))
  (.ret (.tup [z0, z0], []))
  (.ask (t0 == (33 : Int))
  (.ret (.tup [.val (.int .i64 ((1 : Int))), z0], []))
  (.ask (t0 == (37 : Int))
  (.ret (.tup [.val (.int .i64 ((1 : Int))), z0], []))
  (.ask (t0 == (34 : Int))
  (.ret (.tup [.val (.int .i64 ((2 : Int))), z0], []))
  (.ask (t0 == (38 : Int))
  (.ret (.tup [.val (.int .i64 ((2 : Int))), z0], []))
  (.ask (t0 == (44 : Int))
  (.ret (.tup [.val (.int .i64 ((2 : Int))), z0], []))
  (.ask (t0 == (45 : Int))
  (.ret (.tup [.val (.int .i64 ((2 : Int))), z0], []))
  (.ask (t0 == (2 : Int))
  (.ret (.tup [.val (.int .i64 ((8 : Int))), z0], []))
  (.ask (t0 == (36 : Int))
  (.ret (.tup [.val (.int .i64 ((8 : Int))), z0], []))
  (.ask (t0 == (40 : Int))
  (.ret (.tup [.val (.int .i64 ((8 : Int))), z0], []))
  (.ask (t0 == (18 : Int))
  (.ret (.tup [.val (.int .i64 ((8 : Int))), z0], []))
  (.ask (t0 == (1 : Int))
  (.ret (.tup [.val (.int .i64 ((4 : Int))), z0], []))
  (.ask (t0 == (16 : Int))
  (.ret (.tup [.val (.int .i64 ((4 : Int))), z0], []))
  (.ask (t0 == (17 : Int))
  (.ret (.tup [.val (.int .i64 ((4 : Int))), z0], []))
  (.ask (t0 == (23 : Int))
  (.ret (.tup [.val (.int .i64 ((4 : Int))), z0], []))
  (.ask (t0 == (24 : Int))
  (.ret (.tup [.val (.int .i64 ((4 : Int))), z0], []))
  (.ask (t0 == (25 : Int))
  (.ret (.tup [.val (.int .i64 ((4 : Int))), z0], []))
  (.ask (t0 == (26 : Int))
  (.ret (.tup [.val (.int .i64 ((4 : Int))), z0], []))
  (.ask (t0 == (27 : Int))
  (.ret (.tup [.val (.int .i64 ((4 : Int))), z0], []))
  (.ask (t0 == (28 : Int))
  (.ret (.tup [.val (.int .i64 ((4 : Int))), z0], []))
  (.ask (t0 == (35 : Int))
  (.ret (.tup [.val (.int .i64 ((4 : Int))), z0], []))
  (.ask (t0 == (39 : Int))
  (.ret (.tup [.val (.int .i64 ((4 : Int))), z0], []))
  (.ret (.tup [z0, .val (.int .i64 ((2 : Int)))], [])))))))))))))))))))))))))
set_option maxRecDepth 100000 in
theorem fiep0 (n : Nat) (t0 : Int) : exec el6 (n + 157) (184, Try.f184, 0) fiek0 (fies0 t0) = Tr.val el6 (184, Try.f184, 0) n (fiet0 t0) := by kernel_rfl
noncomputable def hsTk0 : List T := [.code (sub (bodyOf Try.f185) [])]
def hsTs0 (t0 t1 : Int) : St := ⟨[(0, .val (.int .u64 t0)), (1, .val (.int .u8 t1))], []⟩
noncomputable def hsTt0 (t0 t1 : Int) : Tr := (.ask (decide (t1 < (64 : Int)))
  (.ask (decide ((0 : Int) ≤ t1))
  (.ret (.val (.bool (IntKind.wrap .u64 (↑(BitVec.toNat (BitVec.ofInt (64 : Nat) (Int.fdiv t0 ((2 : Int) ^ min (Int.toNat t1) (64 : Nat))) &&& BitVec.ofInt (64 : Nat) (1 : Int))) : Int) == (1 : Int))), []))
  .fail)
  (.ret (.val (.bool (false)), [])))
set_option maxRecDepth 100000 in
theorem hsTp0 (n : Nat) (t0 t1 : Int) : exec el6 (n + 18) (185, Try.f185, 0) hsTk0 (hsTs0 t0 t1) = Tr.val el6 (185, Try.f185, 0) n (hsTt0 t0 t1) := by kernel_rfl
noncomputable def ixSk0 : List T := [.code (sub (bodyOf Try.f166) [])]
def ixSs0 (t0 : ByteArray) (t1 : Int) : St := ⟨[(0, .val (.string t0)), (1, .val (.int .u8 t1))], []⟩
noncomputable def ixSt0 (t0 : ByteArray) (t1 : Int) : Tr := (.ret (.val (.int .i64 (Lib.indexByte (Array.toList (ByteArray.data t0)) (Nat.toUInt8 (Int.toNat t1)))), []))
set_option maxRecDepth 100000 in
theorem ixSp0 (n : Nat) (t0 : ByteArray) (t1 : Int) : exec el6 (n + 12) (166, Try.f166, 0) ixSk0 (ixSs0 t0 t1) = Tr.val el6 (166, Try.f166, 0) n (ixSt0 t0 t1) := by kernel_rfl
noncomputable def ixBk0 : List T := [.code (sub (bodyOf Try.f150) [])]
def ixBs0 (t0 : List (List D)) (t1 : Int) : St := ⟨[(0, .arr u8s t0), (1, .val (.int .u8 t1))], []⟩
noncomputable def ixBt0 (t0 : List (List D)) (t1 : Int) : Tr := (.ret (.val (.int .i64 (Lib.indexByte (Lib.bytesOf (bytesOfRow t0)) (Nat.toUInt8 (Int.toNat t1)))), []))
set_option maxRecDepth 100000 in
theorem ixBp0 (n : Nat) (t0 : List (List D)) (t1 : Int) : exec el6 (n + 12) (150, Try.f150, 0) ixBk0 (ixBs0 t0 t1) = Tr.val el6 (150, Try.f150, 0) n (ixBt0 t0 t1) := by kernel_rfl
noncomputable def chkk0 : List T := [.code (sub (bodyOf Try.f149) [])]
def chks0 (t0 : List (List D)) : St := ⟨[(0, .arr u8s t0)], []⟩
noncomputable def chkt0 (t0 : List (List D)) : Tr := (.ask ((↑(List.length t0) : Int) == (0 : Int))
  (.ret (.val (.int .i64 ((8 : Int))), []))
  (.ask (decide ((↑(List.length t0) : Int) > (65536 : Int)))
  (.ret (.val (.int .i64 ((8 : Int))), []))
  (.ask (decide ((0 : Int) < (↑(List.length t0) : Int)))
  (.ask (cellI t0 (0 : Nat) (0 : Nat) != (0 : Int))
  (.ret (.val (.int .i64 ((8 : Int))), []))
  (.ask (decide ((0 : Int) ≤ IntKind.wrap .i64 ((↑(List.length t0) : Int) - (1 : Int))) && decide (IntKind.wrap .i64 ((↑(List.length t0) : Int) - (1 : Int)) < (↑(List.length t0) : Int)))
  (.ask (cellI t0 (Int.toNat (IntKind.wrap .i64 ((↑(List.length t0) : Int) - (1 : Int)))) (0 : Nat) != (0 : Int))
  (.ret (.val (.int .i64 ((8 : Int))), []))
  (.ret (z0, [])))
  .fail))
  .fail)))
set_option maxRecDepth 100000 in
theorem chkp0 (n : Nat) (t0 : List (List D)) : exec el6 (n + 41) (149, Try.f149, 0) chkk0 (chks0 t0) = Tr.val el6 (149, Try.f149, 0) n (chkt0 t0) := by kernel_rfl
noncomputable def nmsk0 : List T := [.code (sub (bodyOf Try.f124) [])]
def nmss0 (t0 : List (List D)) (t1 : Int) (t2 : List (List D)) : St := ⟨[(0, .own u8s t0), (1, .val (.int .i64 t1)), (2, .arr i64s t2)], []⟩
noncomputable def nmsk1 : List T := [.code (sub (bodyOf Try.f124) [1, 0, 1, 0, 0]), .lp (sub (bodyOf Try.f124) [1, 0, 1, 0, 0]), .blk 0, .code (sub (bodyOf Try.f124) [1, 1])]
def nmss1 (t0 : List (List D)) (t1 : Int) (t11 : List (List D)) (t12 t13 : Int) : St := ⟨[(0, .own u8s t0), (1, .val (.int .i64 t1)), (11, .arr i64s t11), (12, .val (.int .i64 t12)), (13, .val (.int .i64 t13))], []⟩
noncomputable def nmst0 (t0 : List (List D)) (t1 : Int) (t2 : List (List D)) : Tr := (.go 0 nmsk1 (nmss1 (t0) (t1) (t2) ((↑(List.length t2) : Int)) ((0 : Int))))
set_option maxRecDepth 100000 in
theorem nmsp0 (n : Nat) (t0 : List (List D)) (t1 : Int) (t2 : List (List D)) : exec el6 (n + 13) (124, Try.f124, 0) nmsk0 (nmss0 t0 t1 t2) = Tr.val el6 (124, Try.f124, 0) n (nmst0 t0 t1 t2) := by kernel_rfl
noncomputable def nmst1 (t0 : List (List D)) (t1 : Int) (t11 : List (List D)) (t12 t13 : Int) : Tr := (.ask (decide (t13 < t12))
  (.ask (decide ((0 : Int) ≤ t13) && decide (t13 < (↑(List.length t11) : Int)))
  (.ask (decide ((List.length t0 + List.length (putB (cellI t11 (Int.toNat t13) (0 : Nat)) t1)) * (1 : Nat) ≤ (70368744177664 : Nat)) && decide (List.length t0 + List.length (putB (cellI t11 (Int.toNat t13) (0 : Nat)) t1) ≤ (70368744177664 : Nat)))
  (.go 0 nmsk1 (nmss1 (t0 ++ putB (cellI t11 (Int.toNat t13) (0 : Nat)) t1) (t1) (t11) (t12) (IntKind.wrap .i64 (t13 + (1 : Int)))))
  .fail)
  .fail)
  (.ret (.own u8s (t0), [])))
set_option maxRecDepth 100000 in
theorem nmsp1 (n : Nat) (t0 : List (List D)) (t1 : Int) (t11 : List (List D)) (t12 t13 : Int) : exec el6 (n + 38) (124, Try.f124, 0) nmsk1 (nmss1 t0 t1 t11 t12 t13) = Tr.val el6 (124, Try.f124, 0) n (nmst1 t0 t1 t11 t12 t13) := by kernel_rfl
noncomputable def nmnk0 : List T := [.code (sub (bodyOf Try.f124) [])]
def nmns0 (t1 : Int) (t2 : List (List D)) : St := ⟨[(0, .val nilSlice), (1, .val (.int .i64 t1)), (2, .arr i64s t2)], []⟩
noncomputable def nmnk1 : List T := [.code (sub (bodyOf Try.f124) [1, 0, 1, 0, 0]), .lp (sub (bodyOf Try.f124) [1, 0, 1, 0, 0]), .blk 0, .code (sub (bodyOf Try.f124) [1, 1])]
def nmns1 (t1 : Int) (t11 : List (List D)) (t12 t13 : Int) : St := ⟨[(0, .val nilSlice), (1, .val (.int .i64 t1)), (11, .arr i64s t11), (12, .val (.int .i64 t12)), (13, .val (.int .i64 t13))], []⟩
noncomputable def nmnk2 : List T := [.code (sub (bodyOf Try.f124) [1, 0, 1, 0, 0]), .lp (sub (bodyOf Try.f124) [1, 0, 1, 0, 0]), .blk 0, .code (sub (bodyOf Try.f124) [1, 1])]
def nmns2 (t0 : List (List D)) (t1 : Int) (t11 : List (List D)) (t12 t13 : Int) : St := ⟨[(0, .own u8s t0), (1, .val (.int .i64 t1)), (11, .arr i64s t11), (12, .val (.int .i64 t12)), (13, .val (.int .i64 t13))], []⟩
noncomputable def nmnt0 (t1 : Int) (t2 : List (List D)) : Tr := (.go 0 nmnk1 (nmns1 (t1) (t2) ((↑(List.length t2) : Int)) ((0 : Int))))
set_option maxRecDepth 100000 in
theorem nmnp0 (n : Nat) (t1 : Int) (t2 : List (List D)) : exec el6 (n + 13) (124, Try.f124, 0) nmnk0 (nmns0 t1 t2) = Tr.val el6 (124, Try.f124, 0) n (nmnt0 t1 t2) := by kernel_rfl
noncomputable def nmnt1 (t1 : Int) (t11 : List (List D)) (t12 t13 : Int) : Tr := (.ask (decide (t13 < t12))
  (.ask (decide ((0 : Int) ≤ t13) && decide (t13 < (↑(List.length t11) : Int)))
  (.ask (decide (List.length (putB (cellI t11 (Int.toNat t13) (0 : Nat)) t1) * (1 : Nat) ≤ (70368744177664 : Nat)) && decide (List.length (putB (cellI t11 (Int.toNat t13) (0 : Nat)) t1) ≤ (70368744177664 : Nat)))
  (.go 0 nmnk2 (nmns2 (putB (cellI t11 (Int.toNat t13) (0 : Nat)) t1) (t1) (t11) (t12) (IntKind.wrap .i64 (t13 + (1 : Int)))))
  .fail)
  .fail)
  (.ret (.val nilSlice, [])))
set_option maxRecDepth 100000 in
theorem nmnp1 (n : Nat) (t1 : Int) (t11 : List (List D)) (t12 t13 : Int) : exec el6 (n + 38) (124, Try.f124, 0) nmnk1 (nmns1 t1 t11 t12 t13) = Tr.val el6 (124, Try.f124, 0) n (nmnt1 t1 t11 t12 t13) := by kernel_rfl
noncomputable def szek0 : List T := [.code (sub (bodyOf Try.f119) [])]
def szes0 (t0_0 : ByteArray) (t0_1 : Int) (t0_2 : List (List D)) (t0_3 : Int) : St := ⟨[(0, .agg [.val (.string t0_0), .val (.int .i64 t0_1), .arr u8s t0_2, .val (.int .i64 t0_3)])], []⟩
noncomputable def szet0 (t0_2 : List (List D)) (t0_3 : Int) : Tr := (.ret (.val (.int .i64 (IntKind.wrap .i64 ((↑(List.length t0_2) : Int) + t0_3))), []))
set_option maxRecDepth 100000 in
theorem szep0 (n : Nat) (t0_0 : ByteArray) (t0_1 : Int) (t0_2 : List (List D)) (t0_3 : Int) : exec el6 (n + 16) (119, Try.f119, 0) szek0 (szes0 t0_0 t0_1 t0_2 t0_3) = Tr.val el6 (119, Try.f119, 0) n (szet0 t0_2 t0_3) := by kernel_rfl
noncomputable def catk0 : List T := [.code (sub (bodyOf Try.f126) [])]
def cats0 (t0 : List (List D)) : St := ⟨[(0, .arr [.arr u8s] t0)], []⟩
noncomputable def catk1 : List T := [.code (sub (bodyOf Try.f126) [1, 1, 0, 1, 0, 0]), .lp (sub (bodyOf Try.f126) [1, 1, 0, 1, 0, 0]), .blk 0, .code (sub (bodyOf Try.f126) [1, 1, 1])]
def cats1 (t0 : List (List D)) (t3 : Int) (t9 : List (List D)) (t10 t11 : Int) : St := ⟨[(0, .arr [.arr u8s] t0), (3, .val (.int .i64 t3)), (9, .arr [.arr u8s] t9), (10, .val (.int .i64 t10)), (11, .val (.int .i64 t11))], []⟩
noncomputable def catk2 : List T := [.code (sub (bodyOf Try.f126) [1, 1, 1, 1, 0, 1, 0, 0]), .lp (sub (bodyOf Try.f126) [1, 1, 1, 1, 0, 1, 0, 0]), .blk 2, .code (sub (bodyOf Try.f126) [1, 1, 1, 1, 1])]
def cats2 (t6 t25 : List (List D)) (t26 t27 : Int) : St := ⟨[(6, .uni u8s t6), (25, .arr [.arr u8s] t25), (26, .val (.int .i64 t26)), (27, .val (.int .i64 t27))], []⟩
noncomputable def catt0 (t0 : List (List D)) : Tr := (.go 0 catk1 (cats1 (t0) ((0 : Int)) (t0) ((↑(List.length t0) : Int)) ((0 : Int))))
set_option maxRecDepth 100000 in
theorem catp0 (n : Nat) (t0 : List (List D)) : exec em1 (n + 17) (126, Try.f126, 0) catk0 (cats0 t0) = Tr.val em1 (126, Try.f126, 0) n (catt0 t0) := by kernel_rfl
noncomputable def catt1 (t0 : List (List D)) (t3 : Int) (t9 : List (List D)) (t10 t11 : Int) : Tr := (.ask (decide (t11 < t10))
  (.ask (decide ((0 : Int) ≤ t11) && decide (t11 < (↑(List.length t9) : Int)))
  (.ask (decide (IntKind.wrap .i64 (t3 + (↑(List.length (cellA t9 (Int.toNat t11) (0 : Nat))) : Int)) < (0 : Int)))
  .fail
  (.go 0 catk1 (cats1 (t0) (IntKind.wrap .i64 (t3 + (↑(List.length (cellA t9 (Int.toNat t11) (0 : Nat))) : Int))) (t9) (t10) (IntKind.wrap .i64 (t11 + (1 : Int))))))
  .fail)
  (.ask (Info.pre em1 (167 : Nat) [handed [] (.val (Value.slice none (0 : Nat) (0 : Nat))), handed [] (.val (.int .i64 t3))] [])
  (.go 14 catk2 (cats2 ([]) (t0) ((↑(List.length t0) : Int)) ((0 : Int))))
  .fail))
set_option maxRecDepth 100000 in
theorem catp1 (n : Nat) (t0 : List (List D)) (t3 : Int) (t9 : List (List D)) (t10 t11 : Int) : exec em1 (n + 36) (126, Try.f126, 0) catk1 (cats1 t0 t3 t9 t10 t11) = Tr.val em1 (126, Try.f126, 0) n (catt1 t0 t3 t9 t10 t11) := by kernel_rfl
noncomputable def catt2 (t6 t25 : List (List D)) (t26 t27 : Int) : Tr := (.ask (decide (t27 < t26))
  (.ask (decide ((0 : Int) ≤ t27) && decide (t27 < (↑(List.length t25) : Int)))
  (.ask (decide ((List.length t6 + List.length (cellA t25 (Int.toNat t27) (0 : Nat))) * (1 : Nat) ≤ (70368744177664 : Nat)) && decide (List.length t6 + List.length (cellA t25 (Int.toNat t27) (0 : Nat)) ≤ (70368744177664 : Nat)))
  (.go 0 catk2 (cats2 (t6 ++ cellA t25 (Int.toNat t27) (0 : Nat)) (t25) (t26) (IntKind.wrap .i64 (t27 + (1 : Int)))))
  .fail)
  .fail)
  (.ret (.uni u8s (t6), [])))
set_option maxRecDepth 100000 in
theorem catp2 (n : Nat) (t6 t25 : List (List D)) (t26 t27 : Int) : exec em1 (n + 27) (126, Try.f126, 0) catk2 (cats2 t6 t25 t26 t27) = Tr.val em1 (126, Try.f126, 0) n (catt2 t6 t25 t26 t27) := by kernel_rfl
noncomputable def stak0 : List T := [.code (sub (bodyOf Try.f116) [])]
def stas0 (t0_0 : ByteArray) (t0_1 : Int) (t0_2 : Bool) (t0_3 t0_4 t0_5 t1 : Int) : St := ⟨[(0, .agg [.val (.string t0_0), .val (.int .u8 t0_1), .val (.bool t0_2), .val (.int .i64 t0_3), .val (.int .i64 t0_4), .val (.int .i64 t0_5)]), (1, .val (.int .i64 t1))], []⟩
noncomputable def stat0 (t0_1 : Int) (t0_2 : Bool) (t0_3 t0_4 t0_5 t1 : Int) : Tr := (.ask (decide (t0_1 > (2 : Int)))
  (.ret (.val (.bool (false)), []))
  (.ask (t0_2)
  (.ask (t0_1 == (0 : Int))
  (.ret (.val (.bool (false)), []))
  (.ask (t0_3 == (0 : Int))
  (.ask (!t0_1 == (0 : Int))
  (.ask (t0_4 == (0 : Int))
  (.ret (.val (.bool (t0_5 == (0 : Int))), []))
  (.ret (.val (.bool (false)), [])))
  (.ret (.val (.bool (false)), [])))
  (.ask (t0_3 == (-1 : Int))
  (.ask (inB t0_4 (-2147483648 : Int) (4294967295 : Int))
  (.ret (.val (.bool (t0_5 == (0 : Int))), []))
  (.ret (.val (.bool (false)), [])))
  (.ask (t0_3 == (-2 : Int))
  (.ask (secE { data := #[(46 : UInt8), (98 : UInt8), (115 : UInt8), (115 : UInt8)] } t0_4 (0 : Int) (0 : Int) == (0 : Int))
  (.ask (inB t0_5 (1 : Int) (4096 : Int))
  (.ret (.val (.bool (t0_1 == (1 : Int))), []))
  (.ret (.val (.bool (false)), [])))
  (.ret (.val (.bool (false)), [])))
  (.ask (inB t0_3 (1 : Int) t1)
  (.ask (inB t0_4 (0 : Int) (4096 : Int))
  (.ret (.val (.bool (inB t0_5 (0 : Int) (4096 : Int))), []))
  (.ret (.val (.bool (false)), [])))
  (.ret (.val (.bool (false)), [])))))))
  (.ask (t0_3 == (0 : Int))
  (.ask (!t0_1 == (0 : Int))
  (.ask (t0_4 == (0 : Int))
  (.ret (.val (.bool (t0_5 == (0 : Int))), []))
  (.ret (.val (.bool (false)), [])))
  (.ret (.val (.bool (false)), [])))
  (.ask (t0_3 == (-1 : Int))
  (.ask (inB t0_4 (-2147483648 : Int) (4294967295 : Int))
  (.ret (.val (.bool (t0_5 == (0 : Int))), []))
  (.ret (.val (.bool (false)), [])))
  (.ask (t0_3 == (-2 : Int))
  (.ask (secE { data := #[(46 : UInt8), (98 : UInt8), (115 : UInt8), (115 : UInt8)] } t0_4 (0 : Int) (0 : Int) == (0 : Int))
  (.ask (inB t0_5 (1 : Int) (4096 : Int))
  (.ret (.val (.bool (t0_1 == (1 : Int))), []))
  (.ret (.val (.bool (false)), [])))
  (.ret (.val (.bool (false)), [])))
  (.ask (inB t0_3 (1 : Int) t1)
  (.ask (inB t0_4 (0 : Int) (4096 : Int))
  (.ret (.val (.bool (inB t0_5 (0 : Int) (4096 : Int))), []))
  (.ret (.val (.bool (false)), [])))
  (.ret (.val (.bool (false)), []))))))))
set_option maxRecDepth 100000 in
theorem stap0 (n : Nat) (t0_0 : ByteArray) (t0_1 : Int) (t0_2 : Bool) (t0_3 t0_4 t0_5 t1 : Int) : exec em1 (n + 81) (116, Try.f116, 0) stak0 (stas0 t0_0 t0_1 t0_2 t0_3 t0_4 t0_5 t1) = Tr.val em1 (116, Try.f116, 0) n (stat0 t0_1 t0_2 t0_3 t0_4 t0_5 t1) := by kernel_rfl
noncomputable def ixTk0 : List T := [.code (sub (bodyOf Try.f125) [])]
def ixTs0 (t0 : ByteArray) (t1 : Int) : St := ⟨[(0, .val (.string t0)), (1, .val (.int .u8 t1))], []⟩
noncomputable def ixTt0 (t0 : ByteArray) (t1 : Int) : Tr := (.ret (.val (.int .i64 (ixB (Array.toList (ByteArray.data t0)) t1)), []))
set_option maxRecDepth 100000 in
theorem ixTp0 (n : Nat) (t0 : ByteArray) (t1 : Int) : exec em1 (n + 12) (125, Try.f125, 0) ixTk0 (ixTs0 t0 t1) = Tr.val em1 (125, Try.f125, 0) n (ixTt0 t0 t1) := by kernel_rfl
noncomputable def gtsk0 : List T := [.code (sub (bodyOf Try.f110) [])]
def gtss0 (t0 : List (List D)) (t1 : Int) : St := ⟨[(0, .arr u8s t0), (1, .val (.int .i64 t1))], []⟩
noncomputable def gtst0 (t0 : List (List D)) (t1 : Int) : Tr := (.ask (chkR t0 != (0 : Int))
  (.ret (.tup [.val (.string ({ data := #[] })), .val (.int .i64 (chkR t0))], []))
  (.ask (decide (t1 < (0 : Int)))
  (.ret (.tup [.val (.string ({ data := #[] })), .val (.int .i64 ((8 : Int)))], []))
  (.ask (decide (t1 ≥ (↑(List.length t0) : Int)))
  (.ret (.tup [.val (.string ({ data := #[] })), .val (.int .i64 ((8 : Int)))], []))
  (.ask (okBounds t1 (↑(List.length t0) : Int) (↑(List.length t0) : Int))
  (.ask (okBounds t1 (IntKind.wrap .i64 (t1 + ixB (rowB (cut t0 t1 (↑(List.length t0) : Int))) (0 : Int))) (↑(List.length t0) : Int))
  (.ret (.tup [.val (.string (rowBytes (cut t0 t1 (IntKind.wrap .i64 (t1 + ixB (rowB (cut t0 t1 (↑(List.length t0) : Int))) (0 : Int)))))), z0], []))
  .fail)
  .fail))))
set_option maxRecDepth 100000 in
theorem gtsp0 (n : Nat) (t0 : List (List D)) (t1 : Int) : exec em1 (n + 49) (110, Try.f110, 0) gtsk0 (gtss0 t0 t1) = Tr.val em1 (110, Try.f110, 0) n (gtst0 t0 t1) := by kernel_rfl
noncomputable def padk0 : List T := [.code (sub (bodyOf Try.f64) [])]
def pads0 (t0 : List (List D)) (t1 : Int) : St := ⟨[(0, .arr u8s t0), (1, .val (.int .i64 t1))], []⟩
noncomputable def padt0 (t0 : List (List D)) (t1 : Int) : Tr := (.ask (decide (t1 < (1 : Int)))
  (.ret (.tup [.val nilSlice, .val (.int .i64 ((2 : Int)))], []))
  (.ask (decide (t1 > (4096 : Int)))
  (.ret (.tup [.val nilSlice, .val (.int .i64 ((2 : Int)))], []))
  (.ask (decide (t1 ≠ (0 : Int)))
  (.ask (decide (t1 ≠ (0 : Int)))
  (.ask (decide ((0 : Int) ≤ Int.tmod (IntKind.wrap .i64 (t1 - Int.tmod (↑(List.length t0) : Int) t1)) t1) && decide (Int.tmod (IntKind.wrap .i64 (t1 - Int.tmod (↑(List.length t0) : Int) t1)) t1 * (1 : Int) ≤ (140737488351232 : Int)) && decide (Int.tmod (IntKind.wrap .i64 (t1 - Int.tmod (↑(List.length t0) : Int) t1)) t1 ≤ (140737488351232 : Int)))
  (.ask (pCat [normV (.sl [.arr u8s]) (handed [] (.own [.arr u8s] [[D.arr t0], [D.arr (List.replicate (Int.toNat (Int.tmod (IntKind.wrap .i64 (t1 - Int.tmod (↑(List.length t0) : Int) t1)) t1)) [D.int (0 : Int)])]]))])
  (.ret (.tup [.uni u8s (catA [[D.arr t0], [D.arr (List.replicate (Int.toNat (Int.tmod (IntKind.wrap .i64 (t1 - Int.tmod (↑(List.length t0) : Int) t1)) t1)) [D.int (0 : Int)])]]), z0], []))
  .fail)
  .fail)
  .fail)
  .fail)))
set_option maxRecDepth 100000 in
theorem padp0 (n : Nat) (t0 : List (List D)) (t1 : Int) : exec em2 (n + 40) (64, Try.f64, 0) padk0 (pads0 t0 t1) = Tr.val em2 (64, Try.f64, 0) n (padt0 t0 t1) := by kernel_rfl
noncomputable def symk0 : List T := [.code (sub (bodyOf Try.f51) [])]
def syms0 (t0_0 : ByteArray) (t0_1 : Int) (t0_2 : Bool) (t0_3 t0_4 t0_5 t1 : Int) : St := ⟨[(0, .agg [.val (.string t0_0), .val (.int .u8 t0_1), .val (.bool t0_2), .val (.int .i64 t0_3), .val (.int .i64 t0_4), .val (.int .i64 t0_5)]), (1, .val (.int .i64 t1))], []⟩
noncomputable def symt0 (t0_0 : ByteArray) (t0_1 : Int) (t0_2 : Bool) (t0_3 t0_4 t0_5 t1 : Int) : Tr := (.ask (!inB t1 (0 : Int) (16 : Int))
  (.ret (.val (.int .i64 ((2 : Int))), []))
  (.ask (!namedB t0_0)
  (.ret (.val (.int .i64 ((8 : Int))), []))
  (.ask (!standsB t0_1 t0_2 t0_3 t0_4 t0_5 t1)
  (.ret (.val (.int .i64 ((8 : Int))), []))
  (.ret (z0, [])))))
set_option maxRecDepth 100000 in
theorem symp0 (n : Nat) (t0_0 : ByteArray) (t0_1 : Int) (t0_2 : Bool) (t0_3 t0_4 t0_5 t1 : Int) : exec em2 (n + 35) (51, Try.f51, 0) symk0 (syms0 t0_0 t0_1 t0_2 t0_3 t0_4 t0_5 t1) = Tr.val em2 (51, Try.f51, 0) n (symt0 t0_0 t0_1 t0_2 t0_3 t0_4 t0_5 t1) := by kernel_rfl
noncomputable def bldk0 : List T := [.code (sub (bodyOf Try.f61) [])]
def blds0 (t0 : List (List D)) : St := ⟨[(0, .arr [.str] t0)], []⟩
noncomputable def bldk1 : List T := [.code (sub (bodyOf Try.f61) [1, 1, 1, 1, 0, 1, 0, 0]), .lp (sub (bodyOf Try.f61) [1, 1, 1, 1, 0, 1, 0, 0]), .blk 0, .code (sub (bodyOf Try.f61) [1, 1, 1, 1, 1])]
def blds1 (t2 t16 : List (List D)) (t17 t18 : Int) (m14_0 : List (List D)) : St := ⟨[(2, .own u8s t2), (3, .val nilSlice), (5, .mp 14 false), (16, .arr [.str] t16), (17, .val (.int .i64 t17)), (18, .val (.int .i64 t18))], [(.mp 14, [.arr [.str, .int .i64] m14_0])]⟩
noncomputable def bldk2 : List T := [.code (sub (bodyOf Try.f61) [1, 1, 1, 1, 0, 1, 0, 0]), .lp (sub (bodyOf Try.f61) [1, 1, 1, 1, 0, 1, 0, 0]), .blk 0, .code (sub (bodyOf Try.f61) [1, 1, 1, 1, 1])]
def blds2 (t2 t3 t16 : List (List D)) (t17 t18 : Int) (m14_0 : List (List D)) : St := ⟨[(2, .own u8s t2), (3, .own i64s t3), (5, .mp 14 false), (16, .arr [.str] t16), (17, .val (.int .i64 t17)), (18, .val (.int .i64 t18))], [(.mp 14, [.arr [.str, .int .i64] m14_0])]⟩
noncomputable def bldt0 (t0 : List (List D)) : Tr := (.ask (decide ((↑(List.length t0) : Int) > (1024 : Int)))
  (.ret (.tup [.val nilSlice, .val nilSlice, .val (.int .i64 ((4 : Int)))], []))
  (.go 0 bldk1 (blds1 ([[D.int (0 : Int)]]) (t0) ((↑(List.length t0) : Int)) ((0 : Int)) ([[D.str { data := #[] }, D.int (0 : Int)]]))))
set_option maxRecDepth 100000 in
theorem bldp0 (n : Nat) (t0 : List (List D)) : exec em2 (n + 36) (61, Try.f61, 0) bldk0 (blds0 t0) = Tr.val em2 (61, Try.f61, 0) n (bldt0 t0) := by kernel_rfl
noncomputable def bldt1 (t2 t16 : List (List D)) (t17 t18 : Int) (m14_0 : List (List D)) : Tr := (.ask (decide (t18 < t17))
  (.ask (decide ((0 : Int) ≤ t18) && decide (t18 < (↑(List.length t16) : Int)))
  (.ask (decide ((↑(ByteArray.size (cellS t16 (Int.toNat t18) (0 : Nat))) : Int) > (64 : Int)))
  (.ret (.tup [.val nilSlice, .val nilSlice, .val (.int .i64 ((3 : Int)))], []))
  (.ask (decide (ixB (Array.toList (ByteArray.data (cellS t16 (Int.toNat t18) (0 : Nat)))) (0 : Int) ≥ (0 : Int)))
  (.ret (.tup [.val nilSlice, .val nilSlice, .val (.int .i64 ((3 : Int)))], []))
  (.ask (!hasD .str (Value.string (cellS t16 (Int.toNat t18) (0 : Nat))) m14_0)
  (.ask (decide ((List.length t2 + List.length (bytesRow (cellS t16 (Int.toNat t18) (0 : Nat)))) * (1 : Nat) ≤ (70368744177664 : Nat)) && decide (List.length t2 + List.length (bytesRow (cellS t16 (Int.toNat t18) (0 : Nat))) ≤ (70368744177664 : Nat)))
  (.ask (decide ((List.length (t2 ++ bytesRow (cellS t16 (Int.toNat t18) (0 : Nat))) + (1 : Nat)) * (1 : Nat) ≤ (70368744177664 : Nat)) && decide (List.length (t2 ++ bytesRow (cellS t16 (Int.toNat t18) (0 : Nat))) + (1 : Nat) ≤ (70368744177664 : Nat)))
  (.go 0 bldk2 (blds2 (t2 ++ bytesRow (cellS t16 (Int.toNat t18) (0 : Nat)) ++ [[D.int (0 : Int)]]) ([[D.int (↑(List.length t2) : Int)]]) (t16) (t17) (IntKind.wrap .i64 (t18 + (1 : Int))) (setRow .str (Value.string (cellS t16 (Int.toNat t18) (0 : Nat))) [D.str (cellS t16 (Int.toNat t18) (0 : Nat)), D.int (↑(List.length t2) : Int)] m14_0)))
  .fail)
  .fail)
  (.go 20 bldk2 (blds2 (t2) ([[D.int (D.toInt (lookD .str (Value.string (cellS t16 (Int.toNat t18) (0 : Nat))) (D.int (0 : Int)) m14_0))]]) (t16) (t17) (IntKind.wrap .i64 (t18 + (1 : Int))) (m14_0))))))
  .fail)
  (.ask (decide ((↑(List.length t2) : Int) > (65536 : Int)))
  (.ret (.tup [.val nilSlice, .val nilSlice, .val (.int .i64 ((9 : Int)))], []))
  (.ret (.tup [.own u8s (t2), .val nilSlice, z0], []))))
set_option maxRecDepth 100000 in
theorem bldp1 (n : Nat) (t2 t16 : List (List D)) (t17 t18 : Int) (m14_0 : List (List D)) : exec em2 (n + 81) (61, Try.f61, 0) bldk1 (blds1 t2 t16 t17 t18 m14_0) = Tr.val em2 (61, Try.f61, 0) n (bldt1 t2 t16 t17 t18 m14_0) := by kernel_rfl
noncomputable def bldt2 (t2 t3 t16 : List (List D)) (t17 t18 : Int) (m14_0 : List (List D)) : Tr := (.ask (decide (t18 < t17))
  (.ask (decide ((0 : Int) ≤ t18) && decide (t18 < (↑(List.length t16) : Int)))
  (.ask (decide ((↑(ByteArray.size (cellS t16 (Int.toNat t18) (0 : Nat))) : Int) > (64 : Int)))
  (.ret (.tup [.val nilSlice, .val nilSlice, .val (.int .i64 ((3 : Int)))], []))
  (.ask (decide (ixB (Array.toList (ByteArray.data (cellS t16 (Int.toNat t18) (0 : Nat)))) (0 : Int) ≥ (0 : Int)))
  (.ret (.tup [.val nilSlice, .val nilSlice, .val (.int .i64 ((3 : Int)))], []))
  (.ask (!hasD .str (Value.string (cellS t16 (Int.toNat t18) (0 : Nat))) m14_0)
  (.ask (decide ((List.length t2 + List.length (bytesRow (cellS t16 (Int.toNat t18) (0 : Nat)))) * (1 : Nat) ≤ (70368744177664 : Nat)) && decide (List.length t2 + List.length (bytesRow (cellS t16 (Int.toNat t18) (0 : Nat))) ≤ (70368744177664 : Nat)))
  (.ask (decide ((List.length (t2 ++ bytesRow (cellS t16 (Int.toNat t18) (0 : Nat))) + (1 : Nat)) * (1 : Nat) ≤ (70368744177664 : Nat)) && decide (List.length (t2 ++ bytesRow (cellS t16 (Int.toNat t18) (0 : Nat))) + (1 : Nat) ≤ (70368744177664 : Nat)))
  (.ask (decide ((List.length t3 + List.length [[D.int (↑(List.length t2) : Int)]]) * (8 : Nat) ≤ (70368744177664 : Nat)) && decide (List.length t3 + List.length [[D.int (↑(List.length t2) : Int)]] ≤ (70368744177664 : Nat)))
  (.go 0 bldk2 (blds2 (t2 ++ bytesRow (cellS t16 (Int.toNat t18) (0 : Nat)) ++ [[D.int (0 : Int)]]) (t3 ++ [[D.int (↑(List.length t2) : Int)]]) (t16) (t17) (IntKind.wrap .i64 (t18 + (1 : Int))) (setRow .str (Value.string (cellS t16 (Int.toNat t18) (0 : Nat))) [D.str (cellS t16 (Int.toNat t18) (0 : Nat)), D.int (↑(List.length t2) : Int)] m14_0)))
  .fail)
  .fail)
  .fail)
  (.ask (decide ((List.length t3 + List.length [[D.int (D.toInt (lookD .str (Value.string (cellS t16 (Int.toNat t18) (0 : Nat))) (D.int (0 : Int)) m14_0))]]) * (8 : Nat) ≤ (70368744177664 : Nat)) && decide (List.length t3 + List.length [[D.int (D.toInt (lookD .str (Value.string (cellS t16 (Int.toNat t18) (0 : Nat))) (D.int (0 : Int)) m14_0))]] ≤ (70368744177664 : Nat)))
  (.go 20 bldk2 (blds2 (t2) (t3 ++ [[D.int (D.toInt (lookD .str (Value.string (cellS t16 (Int.toNat t18) (0 : Nat))) (D.int (0 : Int)) m14_0))]]) (t16) (t17) (IntKind.wrap .i64 (t18 + (1 : Int))) (m14_0)))
  .fail))))
  .fail)
  (.ask (decide ((↑(List.length t2) : Int) > (65536 : Int)))
  (.ret (.tup [.val nilSlice, .val nilSlice, .val (.int .i64 ((9 : Int)))], []))
  (.ret (.tup [.own u8s (t2), .own i64s (t3), z0], []))))
set_option maxRecDepth 100000 in
theorem bldp2 (n : Nat) (t2 t3 t16 : List (List D)) (t17 t18 : Int) (m14_0 : List (List D)) : exec em2 (n + 81) (61, Try.f61, 0) bldk2 (blds2 t2 t3 t16 t17 t18 m14_0) = Tr.val em2 (61, Try.f61, 0) n (bldt2 t2 t3 t16 t17 t18 m14_0) := by kernel_rfl
noncomputable def sywk0 : List T := [.code (sub (bodyOf Try.f97) [])]
def syws0 (t0_0 : ByteArray) (t0_1 : Int) (t0_2 : Bool) (t0_3 t0_4 t0_5 t1 : Int) : St := ⟨[(0, .agg [.val (.string t0_0), .val (.int .u8 t0_1), .val (.bool t0_2), .val (.int .i64 t0_3), .val (.int .i64 t0_4), .val (.int .i64 t0_5)]), (1, .val (.int .i64 t1))], []⟩
noncomputable def sywt0 (t0_0 : ByteArray) (t0_1 : Int) (t0_2 : Bool) (t0_3 t0_4 t0_5 t1 : Int) : Tr := (.ask (symE t0_0 t0_1 t0_2 t0_3 t0_4 t0_5 (16 : Int) != (0 : Int))
  (.ret (.tup [.val nilSlice, .val (.int .i64 (symE t0_0 t0_1 t0_2 t0_3 t0_4 t0_5 (16 : Int)))], []))
  (.ask (!inB t1 (0 : Int) (65535 : Int))
  (.ret (.tup [.val nilSlice, .val (.int .i64 ((2 : Int)))], []))
  (.ask (t0_2)
  (.ask (decide (t0_3 < (0 : Int)))
  (.ask (decide ((List.length (putB t1 (4 : Int)) + List.length [[D.int (IntKind.wrap .u8 (t0_1 * (16 : Int)))], [D.int (2 : Int)], [D.int (IntKind.wrap .u8 (IntKind.wrap .u16 ((65520 : Int) + IntKind.wrap .u16 (IntKind.wrap .i64 ((0 : Int) - t0_3)))))], [D.int (IntKind.wrap .u8 (Int.fdiv (IntKind.wrap .u16 ((65520 : Int) + IntKind.wrap .u16 (IntKind.wrap .i64 ((0 : Int) - t0_3)))) (256 : Int)))]]) * (1 : Nat) ≤ (70368744177664 : Nat)) && decide (List.length (putB t1 (4 : Int)) + List.length [[D.int (IntKind.wrap .u8 (t0_1 * (16 : Int)))], [D.int (2 : Int)], [D.int (IntKind.wrap .u8 (IntKind.wrap .u16 ((65520 : Int) + IntKind.wrap .u16 (IntKind.wrap .i64 ((0 : Int) - t0_3)))))], [D.int (IntKind.wrap .u8 (Int.fdiv (IntKind.wrap .u16 ((65520 : Int) + IntKind.wrap .u16 (IntKind.wrap .i64 ((0 : Int) - t0_3)))) (256 : Int)))]] ≤ (70368744177664 : Nat)))
  (.ask (decide ((List.length (putB t1 (4 : Int) ++ [[D.int (IntKind.wrap .u8 (t0_1 * (16 : Int)))], [D.int (2 : Int)], [D.int (IntKind.wrap .u8 (IntKind.wrap .u16 ((65520 : Int) + IntKind.wrap .u16 (IntKind.wrap .i64 ((0 : Int) - t0_3)))))], [D.int (IntKind.wrap .u8 (Int.fdiv (IntKind.wrap .u16 ((65520 : Int) + IntKind.wrap .u16 (IntKind.wrap .i64 ((0 : Int) - t0_3)))) (256 : Int)))]]) + List.length (putB t0_4 (8 : Int))) * (1 : Nat) ≤ (70368744177664 : Nat)) && decide (List.length (putB t1 (4 : Int) ++ [[D.int (IntKind.wrap .u8 (t0_1 * (16 : Int)))], [D.int (2 : Int)], [D.int (IntKind.wrap .u8 (IntKind.wrap .u16 ((65520 : Int) + IntKind.wrap .u16 (IntKind.wrap .i64 ((0 : Int) - t0_3)))))], [D.int (IntKind.wrap .u8 (Int.fdiv (IntKind.wrap .u16 ((65520 : Int) + IntKind.wrap .u16 (IntKind.wrap .i64 ((0 : Int) - t0_3)))) (256 : Int)))]]) + List.length (putB t0_4 (8 : Int)) ≤ (70368744177664 : Nat)))
  (.ask (decide ((List.length (putB t1 (4 : Int) ++ [[D.int (IntKind.wrap .u8 (t0_1 * (16 : Int)))], [D.int (2 : Int)], [D.int (IntKind.wrap .u8 (IntKind.wrap .u16 ((65520 : Int) + IntKind.wrap .u16 (IntKind.wrap .i64 ((0 : Int) - t0_3)))))], [D.int (IntKind.wrap .u8 (Int.fdiv (IntKind.wrap .u16 ((65520 : Int) + IntKind.wrap .u16 (IntKind.wrap .i64 ((0 : Int) - t0_3)))) (256 : Int)))]] ++ putB t0_4 (8 : Int)) + List.length (putB t0_5 (8 : Int))) * (1 : Nat) ≤ (70368744177664 : Nat)) && decide (List.length (putB t1 (4 : Int) ++ [[D.int (IntKind.wrap .u8 (t0_1 * (16 : Int)))], [D.int (2 : Int)], [D.int (IntKind.wrap .u8 (IntKind.wrap .u16 ((65520 : Int) + IntKind.wrap .u16 (IntKind.wrap .i64 ((0 : Int) - t0_3)))))], [D.int (IntKind.wrap .u8 (Int.fdiv (IntKind.wrap .u16 ((65520 : Int) + IntKind.wrap .u16 (IntKind.wrap .i64 ((0 : Int) - t0_3)))) (256 : Int)))]] ++ putB t0_4 (8 : Int)) + List.length (putB t0_5 (8 : Int)) ≤ (70368744177664 : Nat)))
  (.ret (.tup [.uni u8s (putB t1 (4 : Int) ++ [[D.int (IntKind.wrap .u8 (t0_1 * (16 : Int)))], [D.int (2 : Int)], [D.int (IntKind.wrap .u8 (IntKind.wrap .u16 ((65520 : Int) + IntKind.wrap .u16 (IntKind.wrap .i64 ((0 : Int) - t0_3)))))], [D.int (IntKind.wrap .u8 (Int.fdiv (IntKind.wrap .u16 ((65520 : Int) + IntKind.wrap .u16 (IntKind.wrap .i64 ((0 : Int) - t0_3)))) (256 : Int)))]] ++ putB t0_4 (8 : Int) ++ putB t0_5 (8 : Int)), z0], []))
  .fail)
  .fail)
  .fail)
  (.ask (decide ((List.length (putB t1 (4 : Int)) + List.length [[D.int (IntKind.wrap .u8 (t0_1 * (16 : Int)))], [D.int (2 : Int)], [D.int (IntKind.wrap .u8 (IntKind.wrap .u16 t0_3))], [D.int (IntKind.wrap .u8 (Int.fdiv (IntKind.wrap .u16 t0_3) (256 : Int)))]]) * (1 : Nat) ≤ (70368744177664 : Nat)) && decide (List.length (putB t1 (4 : Int)) + List.length [[D.int (IntKind.wrap .u8 (t0_1 * (16 : Int)))], [D.int (2 : Int)], [D.int (IntKind.wrap .u8 (IntKind.wrap .u16 t0_3))], [D.int (IntKind.wrap .u8 (Int.fdiv (IntKind.wrap .u16 t0_3) (256 : Int)))]] ≤ (70368744177664 : Nat)))
  (.ask (decide ((List.length (putB t1 (4 : Int) ++ [[D.int (IntKind.wrap .u8 (t0_1 * (16 : Int)))], [D.int (2 : Int)], [D.int (IntKind.wrap .u8 (IntKind.wrap .u16 t0_3))], [D.int (IntKind.wrap .u8 (Int.fdiv (IntKind.wrap .u16 t0_3) (256 : Int)))]]) + List.length (putB t0_4 (8 : Int))) * (1 : Nat) ≤ (70368744177664 : Nat)) && decide (List.length (putB t1 (4 : Int) ++ [[D.int (IntKind.wrap .u8 (t0_1 * (16 : Int)))], [D.int (2 : Int)], [D.int (IntKind.wrap .u8 (IntKind.wrap .u16 t0_3))], [D.int (IntKind.wrap .u8 (Int.fdiv (IntKind.wrap .u16 t0_3) (256 : Int)))]]) + List.length (putB t0_4 (8 : Int)) ≤ (70368744177664 : Nat)))
  (.ask (decide ((List.length (putB t1 (4 : Int) ++ [[D.int (IntKind.wrap .u8 (t0_1 * (16 : Int)))], [D.int (2 : Int)], [D.int (IntKind.wrap .u8 (IntKind.wrap .u16 t0_3))], [D.int (IntKind.wrap .u8 (Int.fdiv (IntKind.wrap .u16 t0_3) (256 : Int)))]] ++ putB t0_4 (8 : Int)) + List.length (putB t0_5 (8 : Int))) * (1 : Nat) ≤ (70368744177664 : Nat)) && decide (List.length (putB t1 (4 : Int) ++ [[D.int (IntKind.wrap .u8 (t0_1 * (16 : Int)))], [D.int (2 : Int)], [D.int (IntKind.wrap .u8 (IntKind.wrap .u16 t0_3))], [D.int (IntKind.wrap .u8 (Int.fdiv (IntKind.wrap .u16 t0_3) (256 : Int)))]] ++ putB t0_4 (8 : Int)) + List.length (putB t0_5 (8 : Int)) ≤ (70368744177664 : Nat)))
  (.ret (.tup [.uni u8s (putB t1 (4 : Int) ++ [[D.int (IntKind.wrap .u8 (t0_1 * (16 : Int)))], [D.int (2 : Int)], [D.int (IntKind.wrap .u8 (IntKind.wrap .u16 t0_3))], [D.int (IntKind.wrap .u8 (Int.fdiv (IntKind.wrap .u16 t0_3) (256 : Int)))]] ++ putB t0_4 (8 : Int) ++ putB t0_5 (8 : Int)), z0], []))
  .fail)
  .fail)
  .fail))
  (.ask (decide (t0_3 < (0 : Int)))
  (.ask (decide ((List.length (putB t1 (4 : Int)) + List.length [[D.int (IntKind.wrap .u8 (t0_1 * (16 : Int)))], [D.int (0 : Int)], [D.int (IntKind.wrap .u8 (IntKind.wrap .u16 ((65520 : Int) + IntKind.wrap .u16 (IntKind.wrap .i64 ((0 : Int) - t0_3)))))], [D.int (IntKind.wrap .u8 (Int.fdiv (IntKind.wrap .u16 ((65520 : Int) + IntKind.wrap .u16 (IntKind.wrap .i64 ((0 : Int) - t0_3)))) (256 : Int)))]]) * (1 : Nat) ≤ (70368744177664 : Nat)) && decide (List.length (putB t1 (4 : Int)) + List.length [[D.int (IntKind.wrap .u8 (t0_1 * (16 : Int)))], [D.int (0 : Int)], [D.int (IntKind.wrap .u8 (IntKind.wrap .u16 ((65520 : Int) + IntKind.wrap .u16 (IntKind.wrap .i64 ((0 : Int) - t0_3)))))], [D.int (IntKind.wrap .u8 (Int.fdiv (IntKind.wrap .u16 ((65520 : Int) + IntKind.wrap .u16 (IntKind.wrap .i64 ((0 : Int) - t0_3)))) (256 : Int)))]] ≤ (70368744177664 : Nat)))
  (.ask (decide ((List.length (putB t1 (4 : Int) ++ [[D.int (IntKind.wrap .u8 (t0_1 * (16 : Int)))], [D.int (0 : Int)], [D.int (IntKind.wrap .u8 (IntKind.wrap .u16 ((65520 : Int) + IntKind.wrap .u16 (IntKind.wrap .i64 ((0 : Int) - t0_3)))))], [D.int (IntKind.wrap .u8 (Int.fdiv (IntKind.wrap .u16 ((65520 : Int) + IntKind.wrap .u16 (IntKind.wrap .i64 ((0 : Int) - t0_3)))) (256 : Int)))]]) + List.length (putB t0_4 (8 : Int))) * (1 : Nat) ≤ (70368744177664 : Nat)) && decide (List.length (putB t1 (4 : Int) ++ [[D.int (IntKind.wrap .u8 (t0_1 * (16 : Int)))], [D.int (0 : Int)], [D.int (IntKind.wrap .u8 (IntKind.wrap .u16 ((65520 : Int) + IntKind.wrap .u16 (IntKind.wrap .i64 ((0 : Int) - t0_3)))))], [D.int (IntKind.wrap .u8 (Int.fdiv (IntKind.wrap .u16 ((65520 : Int) + IntKind.wrap .u16 (IntKind.wrap .i64 ((0 : Int) - t0_3)))) (256 : Int)))]]) + List.length (putB t0_4 (8 : Int)) ≤ (70368744177664 : Nat)))
  (.ask (decide ((List.length (putB t1 (4 : Int) ++ [[D.int (IntKind.wrap .u8 (t0_1 * (16 : Int)))], [D.int (0 : Int)], [D.int (IntKind.wrap .u8 (IntKind.wrap .u16 ((65520 : Int) + IntKind.wrap .u16 (IntKind.wrap .i64 ((0 : Int) - t0_3)))))], [D.int (IntKind.wrap .u8 (Int.fdiv (IntKind.wrap .u16 ((65520 : Int) + IntKind.wrap .u16 (IntKind.wrap .i64 ((0 : Int) - t0_3)))) (256 : Int)))]] ++ putB t0_4 (8 : Int)) + List.length (putB t0_5 (8 : Int))) * (1 : Nat) ≤ (70368744177664 : Nat)) && decide (List.length (putB t1 (4 : Int) ++ [[D.int (IntKind.wrap .u8 (t0_1 * (16 : Int)))], [D.int (0 : Int)], [D.int (IntKind.wrap .u8 (IntKind.wrap .u16 ((65520 : Int) + IntKind.wrap .u16 (IntKind.wrap .i64 ((0 : Int) - t0_3)))))], [D.int (IntKind.wrap .u8 (Int.fdiv (IntKind.wrap .u16 ((65520 : Int) + IntKind.wrap .u16 (IntKind.wrap .i64 ((0 : Int) - t0_3)))) (256 : Int)))]] ++ putB t0_4 (8 : Int)) + List.length (putB t0_5 (8 : Int)) ≤ (70368744177664 : Nat)))
  (.ret (.tup [.uni u8s (putB t1 (4 : Int) ++ [[D.int (IntKind.wrap .u8 (t0_1 * (16 : Int)))], [D.int (0 : Int)], [D.int (IntKind.wrap .u8 (IntKind.wrap .u16 ((65520 : Int) + IntKind.wrap .u16 (IntKind.wrap .i64 ((0 : Int) - t0_3)))))], [D.int (IntKind.wrap .u8 (Int.fdiv (IntKind.wrap .u16 ((65520 : Int) + IntKind.wrap .u16 (IntKind.wrap .i64 ((0 : Int) - t0_3)))) (256 : Int)))]] ++ putB t0_4 (8 : Int) ++ putB t0_5 (8 : Int)), z0], []))
  .fail)
  .fail)
  .fail)
  (.ask (decide ((List.length (putB t1 (4 : Int)) + List.length [[D.int (IntKind.wrap .u8 (t0_1 * (16 : Int)))], [D.int (0 : Int)], [D.int (IntKind.wrap .u8 (IntKind.wrap .u16 t0_3))], [D.int (IntKind.wrap .u8 (Int.fdiv (IntKind.wrap .u16 t0_3) (256 : Int)))]]) * (1 : Nat) ≤ (70368744177664 : Nat)) && decide (List.length (putB t1 (4 : Int)) + List.length [[D.int (IntKind.wrap .u8 (t0_1 * (16 : Int)))], [D.int (0 : Int)], [D.int (IntKind.wrap .u8 (IntKind.wrap .u16 t0_3))], [D.int (IntKind.wrap .u8 (Int.fdiv (IntKind.wrap .u16 t0_3) (256 : Int)))]] ≤ (70368744177664 : Nat)))
  (.ask (decide ((List.length (putB t1 (4 : Int) ++ [[D.int (IntKind.wrap .u8 (t0_1 * (16 : Int)))], [D.int (0 : Int)], [D.int (IntKind.wrap .u8 (IntKind.wrap .u16 t0_3))], [D.int (IntKind.wrap .u8 (Int.fdiv (IntKind.wrap .u16 t0_3) (256 : Int)))]]) + List.length (putB t0_4 (8 : Int))) * (1 : Nat) ≤ (70368744177664 : Nat)) && decide (List.length (putB t1 (4 : Int) ++ [[D.int (IntKind.wrap .u8 (t0_1 * (16 : Int)))], [D.int (0 : Int)], [D.int (IntKind.wrap .u8 (IntKind.wrap .u16 t0_3))], [D.int (IntKind.wrap .u8 (Int.fdiv (IntKind.wrap .u16 t0_3) (256 : Int)))]]) + List.length (putB t0_4 (8 : Int)) ≤ (70368744177664 : Nat)))
  (.ask (decide ((List.length (putB t1 (4 : Int) ++ [[D.int (IntKind.wrap .u8 (t0_1 * (16 : Int)))], [D.int (0 : Int)], [D.int (IntKind.wrap .u8 (IntKind.wrap .u16 t0_3))], [D.int (IntKind.wrap .u8 (Int.fdiv (IntKind.wrap .u16 t0_3) (256 : Int)))]] ++ putB t0_4 (8 : Int)) + List.length (putB t0_5 (8 : Int))) * (1 : Nat) ≤ (70368744177664 : Nat)) && decide (List.length (putB t1 (4 : Int) ++ [[D.int (IntKind.wrap .u8 (t0_1 * (16 : Int)))], [D.int (0 : Int)], [D.int (IntKind.wrap .u8 (IntKind.wrap .u16 t0_3))], [D.int (IntKind.wrap .u8 (Int.fdiv (IntKind.wrap .u16 t0_3) (256 : Int)))]] ++ putB t0_4 (8 : Int)) + List.length (putB t0_5 (8 : Int)) ≤ (70368744177664 : Nat)))
  (.ret (.tup [.uni u8s (putB t1 (4 : Int) ++ [[D.int (IntKind.wrap .u8 (t0_1 * (16 : Int)))], [D.int (0 : Int)], [D.int (IntKind.wrap .u8 (IntKind.wrap .u16 t0_3))], [D.int (IntKind.wrap .u8 (Int.fdiv (IntKind.wrap .u16 t0_3) (256 : Int)))]] ++ putB t0_4 (8 : Int) ++ putB t0_5 (8 : Int)), z0], []))
  .fail)
  .fail)
  .fail)))))
set_option maxRecDepth 100000 in
theorem sywp0 (n : Nat) (t0_0 : ByteArray) (t0_1 : Int) (t0_2 : Bool) (t0_3 t0_4 t0_5 t1 : Int) : exec em3 (n + 193) (97, Try.f97, 0) sywk0 (syws0 t0_0 t0_1 t0_2 t0_3 t0_4 t0_5 t1) = Tr.val em3 (97, Try.f97, 0) n (sywt0 t0_0 t0_1 t0_2 t0_3 t0_4 t0_5 t1) := by kernel_rfl
end Go.Proofs.Ytkcopbnaleiocaa.Ev
