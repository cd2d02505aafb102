/- What the pieces of the runs come to, as a program printed it: each is checked by the kernel. -/
import Derived.Test.YthloggdgdklgmaaStE
namespace Go.Proofs.Ythloggdgdklgmaa.Ev
open Go
set_option linter.unusedVariables false
noncomputable def rckk0 : List T := [.code (sub (bodyOf Try.f20) [])]
def rcks0 (t0 : List (List D)) : St := ⟨[(0, .arr [CT.int IntKind.u8] t0)], []⟩
set_option maxRecDepth 100000 in
theorem rckp0 (n : Nat) (t0 : List (List D)) : exec st3 (n + 38) (20, Try.f20, 0) rckk0 (rcks0 t0) = Tr.val st3 (20, Try.f20, 0) n (.ask (decide ((↑(List.length t0) : Int) < (1 : Int)))
  (.ret (.val (.int .i64 ((8 : Int))), []))
  (.ask (decide ((↑(List.length t0) : Int) > (65536 : Int)))
  (.ret (.val (.int .i64 ((8 : Int))), []))
  (.ask (decide ((0 : Int) < (↑(List.length t0) : Int)))
  (.ask (cellI t0 (0 : Nat) (0 : Nat) != (0 : Int))
  (.ret (.val (.int .i64 ((8 : Int))), []))
  (.ask (decide ((0 : Int) ≤ IntKind.wrap IntKind.i64 ((↑(List.length t0) : Int) - (1 : Int))) && decide (IntKind.wrap IntKind.i64 ((↑(List.length t0) : Int) - (1 : Int)) < (↑(List.length t0) : Int)))
  (.ask (cellI t0 (Int.toNat (IntKind.wrap IntKind.i64 ((↑(List.length t0) : Int) - (1 : Int)))) (0 : Nat) != (0 : Int))
  (.ret (.val (.int .i64 ((8 : Int))), []))
  (.ret (.val (.int .i64 ((0 : Int))), [])))
  .fail))
  .fail))) := by kernel_rfl
noncomputable def mayk0 : List T := [.code (sub (bodyOf Try.f24) [])]
def mays0 (t0 : ByteArray) : St := ⟨[(0, .val (.string t0))], []⟩
noncomputable def mayk1 : List T := [.code (sub (bodyOf Try.f24) [1, 0, 1, 0, 0]), .lp (sub (bodyOf Try.f24) [1, 0, 1, 0, 0]), .blk 0, .code (sub (bodyOf Try.f24) [1, 1])]
def mays1 (t0 : ByteArray) (t3 : Int) : St := ⟨[(0, .val (.string t0)), (3, .val (.int .i64 t3))], []⟩
set_option maxRecDepth 100000 in
theorem mayp0 (n : Nat) (t0 : ByteArray) : exec st3 (n + 11) (24, Try.f24, 0) mayk0 (mays0 t0) = Tr.val st3 (24, Try.f24, 0) n (.go 0 mayk1 (mays1 (t0) ((0 : Int)))) := by kernel_rfl
set_option maxRecDepth 100000 in
theorem mayp1 (n : Nat) (t0 : ByteArray) (t3 : Int) : exec st3 (n + 28) (24, Try.f24, 0) mayk1 (mays1 t0 t3) = Tr.val st3 (24, Try.f24, 0) n (.ask (decide (t3 < (↑(ByteArray.size t0) : Int)))
  (.ask (decide ((0 : Int) ≤ t3) && decide (t3 < (↑(ByteArray.size t0) : Int)))
  (.ask (byteAt t0 t3 == (0 : Int))
  (.ret (.val (.bool (false)), []))
  (.go 0 mayk1 (mays1 (t0) (IntKind.wrap IntKind.i64 (t3 + (1 : Int))))))
  .fail)
  (.ret (.val (.bool (decide ((↑(ByteArray.size t0) : Int) ≤ (64 : Int)))), []))) := by kernel_rfl
noncomputable def fstk0 : List T := [.code (sub (bodyOf Try.f29) [])]
def fsts0 (t0 : List (List D)) (t1 : Int) : St := ⟨[(0, .arr [CT.str] t0), (1, .val (.int .i64 t1))], []⟩
noncomputable def fstk1 : List T := [.code (sub (bodyOf Try.f29) [1, 0, 1, 0, 0]), .lp (sub (bodyOf Try.f29) [1, 0, 1, 0, 0]), .blk 0, .code (sub (bodyOf Try.f29) [1, 1])]
def fsts1 (t0 : List (List D)) (t1 : Int) (t5 : Int) : St := ⟨[(0, .arr [CT.str] t0), (1, .val (.int .i64 t1)), (5, .val (.int .i64 t5))], []⟩
set_option maxRecDepth 100000 in
theorem fstp0 (n : Nat) (t0 : List (List D)) (t1 : Int) : exec st3 (n + 11) (29, Try.f29, 0) fstk0 (fsts0 t0 t1) = Tr.val st3 (29, Try.f29, 0) n (.go 0 fstk1 (fsts1 (t0) (t1) ((0 : Int)))) := by kernel_rfl
set_option maxRecDepth 100000 in
theorem fstp1 (n : Nat) (t0 : List (List D)) (t1 : Int) (t5 : Int) : exec st3 (n + 32) (29, Try.f29, 0) fstk1 (fsts1 t0 t1 t5) = Tr.val st3 (29, Try.f29, 0) n (.ask (decide (t5 < t1))
  (.ask (decide ((0 : Int) ≤ t5) && decide (t5 < (↑(List.length t0) : Int)))
  (.ask (decide ((0 : Int) ≤ t1) && decide (t1 < (↑(List.length t0) : Int)))
  (.ask (ByteArray.toList (cellS t0 (Int.toNat t5) (0 : Nat)) == ByteArray.toList (cellS t0 (Int.toNat t1) (0 : Nat)))
  (.ret (.val (.bool (false)), []))
  (.go 0 fstk1 (fsts1 (t0) (t1) (IntKind.wrap IntKind.i64 (t5 + (1 : Int))))))
  .fail)
  .fail)
  (.ask (decide ((0 : Int) ≤ t1) && decide (t1 < (↑(List.length t0) : Int)))
  (.ret (.val (.bool (!ByteArray.toList (cellS t0 (Int.toNat t1) (0 : Nat)) == ByteArray.toList { data := #[] })), []))
  .fail)) := by kernel_rfl
noncomputable def txtk0 : List T := [.code (sub (bodyOf Try.f26) [])]
def txts0 (t0 : List (List D)) (t1 : Int) : St := ⟨[(0, .arr [CT.int IntKind.u8] t0), (1, .val (.int .i64 t1))], []⟩
noncomputable def txtk1 : List T := [.code (sub (bodyOf Try.f26) [1, 0, 1, 0, 0]), .lp (sub (bodyOf Try.f26) [1, 0, 1, 0, 0]), .blk 0, .code (sub (bodyOf Try.f26) [1, 1])]
def txts1 (t0 : List (List D)) (t1 : Int) (t6 : Int) : St := ⟨[(0, .arr [CT.int IntKind.u8] t0), (1, .val (.int .i64 t1)), (6, .val (.int .i64 t6))], []⟩
set_option maxRecDepth 100000 in
theorem txtp0 (n : Nat) (t0 : List (List D)) (t1 : Int) : exec st3 (n + 13) (26, Try.f26, 0) txtk0 (txts0 t0 t1) = Tr.val st3 (26, Try.f26, 0) n (.go 0 txtk1 (txts1 (t0) (t1) (t1))) := by kernel_rfl
set_option maxRecDepth 100000 in
theorem txtp1 (n : Nat) (t0 : List (List D)) (t1 : Int) (t6 : Int) : exec st3 (n + 36) (26, Try.f26, 0) txtk1 (txts1 t0 t1 t6) = Tr.val st3 (26, Try.f26, 0) n (.ask (decide (t6 ≥ (0 : Int)))
  (.ask (decide (t6 < (↑(List.length t0) : Int)))
  (.ask (decide ((0 : Int) ≤ t6) && decide (t6 < (↑(List.length t0) : Int)))
  (.ask (cellI t0 (Int.toNat t6) (0 : Nat) == (0 : Int))
  (.ask (okBounds t1 t6 (↑(List.length t0) : Int))
  (.ret (.tup [.val (.string (rowBytes (cut t0 t1 t6))), .val (.bool (true))], []))
  .fail)
  (.go 3 txtk1 (txts1 (t0) (t1) (IntKind.wrap IntKind.i64 (t6 + (1 : Int))))))
  .fail)
  (.ret (.tup [.val (.string ({ data := #[] })), .val (.bool (false))], [])))
  (.ret (.tup [.val (.string ({ data := #[] })), .val (.bool (false))], []))) := by kernel_rfl
noncomputable def samk0 : List T := [.code (sub (bodyOf Try.f19) [])]
def sams0 (t0 : List (List D)) (t1 : List (List D)) : St := ⟨[(0, .arr [CT.int IntKind.i64] t0), (1, .arr [CT.int IntKind.i64] t1)], []⟩
noncomputable def samk1 : List T := [.code (sub (bodyOf Try.f19) [1, 1, 0, 1, 0, 0]), .lp (sub (bodyOf Try.f19) [1, 1, 0, 1, 0, 0]), .blk 0, .code (sub (bodyOf Try.f19) [1, 1, 1])]
def sams1 (t0 : List (List D)) (t1 : List (List D)) (t5 : Int) : St := ⟨[(0, .arr [CT.int IntKind.i64] t0), (1, .arr [CT.int IntKind.i64] t1), (5, .val (.int .i64 t5))], []⟩
set_option maxRecDepth 100000 in
theorem samp0 (n : Nat) (t0 : List (List D)) (t1 : List (List D)) : exec st3 (n + 22) (19, Try.f19, 0) samk0 (sams0 t0 t1) = Tr.val st3 (19, Try.f19, 0) n (.ask ((↑(List.length t0) : Int) != (↑(List.length t1) : Int))
  (.ret (.val (.bool (false)), []))
  (.go 0 samk1 (sams1 (t0) (t1) ((0 : Int))))) := by kernel_rfl
set_option maxRecDepth 100000 in
theorem samp1 (n : Nat) (t0 : List (List D)) (t1 : List (List D)) (t5 : Int) : exec st3 (n + 33) (19, Try.f19, 0) samk1 (sams1 t0 t1 t5) = Tr.val st3 (19, Try.f19, 0) n (.ask (decide (t5 < (↑(List.length t0) : Int)))
  (.ask (decide ((0 : Int) ≤ t5) && decide (t5 < (↑(List.length t0) : Int)))
  (.ask (decide ((0 : Int) ≤ t5) && decide (t5 < (↑(List.length t1) : Int)))
  (.ask (cellI t0 (Int.toNat t5) (0 : Nat) != cellI t1 (Int.toNat t5) (0 : Nat))
  (.ret (.val (.bool (false)), []))
  (.go 0 samk1 (sams1 (t0) (t1) (IntKind.wrap IntKind.i64 (t5 + (1 : Int))))))
  .fail)
  .fail)
  (.ret (.val (.bool (true)), []))) := by kernel_rfl
noncomputable def rgtk0 : List T := [.code (sub (bodyOf Try.f18) [])]
def rgts0 (t0 : List (List D)) (t1 : Int) : St := ⟨[(0, .arr [CT.int IntKind.u8] t0), (1, .val (.int .i64 t1))], []⟩
set_option maxRecDepth 100000 in
theorem rgtp0 (n : Nat) (t0 : List (List D)) (t1 : Int) : exec st4 (n + 42) (18, Try.f18, 0) rgtk0 (rgts0 t0 t1) = Tr.val st4 (18, Try.f18, 0) n (.ask (chkR t0 != (0 : Int))
  (.ret (.tup [.val (.string ({ data := #[] })), .val (.int .i64 ((8 : Int)))], []))
  (.ask (decide (t1 < (0 : Int)))
  (.ret (.tup [.val (.string ({ data := #[] })), .val (.int .i64 ((8 : Int)))], []))
  (.ask (decide (t1 ≥ (↑(List.length t0) : Int)))
  (.ret (.tup [.val (.string ({ data := #[] })), .val (.int .i64 ((8 : Int)))], []))
  (.ask (Info.pre st4 (26 : Nat) [handed [] (V.arr [CT.int IntKind.u8] t0), handed [] (V.val (Value.int IntKind.i64 t1))] [])
  (.ret (.tup [.val (.string (txtS t0 t1)), .val (.int .i64 ((0 : Int)))], []))
  .fail)))) := by kernel_rfl
noncomputable def tabk0 : List T := [.code (sub (bodyOf Try.f25) [])]
def tabs0 (t0 : List (List D)) : St := ⟨[(0, .arr [CT.str] t0)], []⟩
noncomputable def tabk1 : List T := [.code (sub (bodyOf Try.f25) [1, 1, 1, 0, 1, 0, 0]), .lp (sub (bodyOf Try.f25) [1, 1, 1, 0, 1, 0, 0]), .blk 0, .code (sub (bodyOf Try.f25) [1, 1, 1, 1])]
def tabs1 (t0 : List (List D)) (t4 : List (List D)) (t6 : Int) : St := ⟨[(0, .arr [CT.str] t0), (4, .own [CT.int IntKind.u8] t4), (5, .val nilSlice), (6, .val (.int .i64 t6))], []⟩
noncomputable def tabk2 : List T := [.code (sub (bodyOf Try.f25) [1, 1, 1, 0, 1, 0, 0]), .lp (sub (bodyOf Try.f25) [1, 1, 1, 0, 1, 0, 0]), .blk 0, .code (sub (bodyOf Try.f25) [1, 1, 1, 1])]
def tabs2 (t0 : List (List D)) (t4 : List (List D)) (t5 : List (List D)) (t6 : Int) : St := ⟨[(0, .arr [CT.str] t0), (4, .own [CT.int IntKind.u8] t4), (5, .own [CT.int IntKind.i64] t5), (6, .val (.int .i64 t6))], []⟩
noncomputable def tabk3 : List T := [.code (sub (bodyOf Try.f25) [1, 1, 1, 0, 1, 0, 0, 1, 0, 0, 1, 1, 0, 1, 0, 0]), .lp (sub (bodyOf Try.f25) [1, 1, 1, 0, 1, 0, 0, 1, 0, 0, 1, 1, 0, 1, 0, 0]), .blk 2, .code (sub (bodyOf Try.f25) [1, 1, 1, 0, 1, 0, 0, 1, 0, 0, 1, 1, 1]), .blk 1, .code (sub (bodyOf Try.f25) [1, 1, 1, 0, 1, 0, 0, 1, 1]), .lp (sub (bodyOf Try.f25) [1, 1, 1, 0, 1, 0, 0]), .blk 0, .code (sub (bodyOf Try.f25) [1, 1, 1, 1])]
def tabs3 (t0 : List (List D)) (t4 : List (List D)) (t6 : Int) (t7 : Int) (t8 : Int) : St := ⟨[(0, .arr [CT.str] t0), (4, .own [CT.int IntKind.u8] t4), (5, .val nilSlice), (6, .val (.int .i64 t6)), (7, .val (.int .i64 t7)), (8, .val (.int .i64 t8))], []⟩
noncomputable def tabk4 : List T := [.code (sub (bodyOf Try.f25) [1, 1, 1, 0, 1, 0, 0, 1, 0, 0, 1, 1, 0, 1, 0, 0]), .lp (sub (bodyOf Try.f25) [1, 1, 1, 0, 1, 0, 0, 1, 0, 0, 1, 1, 0, 1, 0, 0]), .blk 2, .code (sub (bodyOf Try.f25) [1, 1, 1, 0, 1, 0, 0, 1, 0, 0, 1, 1, 1]), .blk 1, .code (sub (bodyOf Try.f25) [1, 1, 1, 0, 1, 0, 0, 1, 1]), .lp (sub (bodyOf Try.f25) [1, 1, 1, 0, 1, 0, 0]), .blk 0, .code (sub (bodyOf Try.f25) [1, 1, 1, 1])]
def tabs4 (t0 : List (List D)) (t4 : List (List D)) (t5 : List (List D)) (t6 : Int) (t7 : Int) (t8 : Int) : St := ⟨[(0, .arr [CT.str] t0), (4, .own [CT.int IntKind.u8] t4), (5, .own [CT.int IntKind.i64] t5), (6, .val (.int .i64 t6)), (7, .val (.int .i64 t7)), (8, .val (.int .i64 t8))], []⟩
set_option maxRecDepth 100000 in
theorem tabp0 (n : Nat) (t0 : List (List D)) : exec st4 (n + 21) (25, Try.f25, 0) tabk0 (tabs0 t0) = Tr.val st4 (25, Try.f25, 0) n (.go 0 tabk1 (tabs1 (t0) ([[D.int (0 : Int)]]) ((0 : Int)))) := by kernel_rfl
set_option maxRecDepth 100000 in
theorem tabp1 (n : Nat) (t0 : List (List D)) (t4 : List (List D)) (t6 : Int) : exec st4 (n + 53) (25, Try.f25, 0) tabk1 (tabs1 t0 t4 t6) = Tr.val st4 (25, Try.f25, 0) n (.ask (decide (t6 < (↑(List.length t0) : Int)))
  (.ask (Info.pre st4 (29 : Nat) [handed [] (V.arr [CT.str] t0), handed [] (V.val (Value.int IntKind.i64 t6))] [])
  (.ask (fstR t0 t6)
  (.ask (decide ((0 : Int) ≤ t6) && decide (t6 < (↑(List.length t0) : Int)))
  (.ask (decide ((List.length t4 + List.length (bytesRow (cellS t0 (Int.toNat t6) (0 : Nat)))) * (1 : Nat) ≤ (70368744177664 : Nat)) && decide (List.length t4 + List.length (bytesRow (cellS t0 (Int.toNat t6) (0 : Nat))) ≤ (70368744177664 : Nat)))
  (.ask (decide ((List.length (t4 ++ bytesRow (cellS t0 (Int.toNat t6) (0 : Nat))) + (1 : Nat)) * (1 : Nat) ≤ (70368744177664 : Nat)) && decide (List.length (t4 ++ bytesRow (cellS t0 (Int.toNat t6) (0 : Nat))) + (1 : Nat) ≤ (70368744177664 : Nat)))
  (.go 0 tabk2 (tabs2 (t0) (t4 ++ bytesRow (cellS t0 (Int.toNat t6) (0 : Nat)) ++ [[D.int (0 : Int)]]) ([[D.int (↑(List.length t4) : Int)]]) (IntKind.wrap IntKind.i64 (t6 + (1 : Int)))))
  .fail)
  .fail)
  .fail)
  (.go 19 tabk3 (tabs3 (t0) (t4) (t6) ((0 : Int)) (IntKind.wrap IntKind.i64 (t6 - (1 : Int))))))
  .fail)
  (.ret (.tup [.own [CT.int IntKind.u8] (t4), .val nilSlice], []))) := by kernel_rfl
set_option maxRecDepth 100000 in
theorem tabp2 (n : Nat) (t0 : List (List D)) (t4 : List (List D)) (t5 : List (List D)) (t6 : Int) : exec st4 (n + 53) (25, Try.f25, 0) tabk2 (tabs2 t0 t4 t5 t6) = Tr.val st4 (25, Try.f25, 0) n (.ask (decide (t6 < (↑(List.length t0) : Int)))
  (.ask (Info.pre st4 (29 : Nat) [handed [] (V.arr [CT.str] t0), handed [] (V.val (Value.int IntKind.i64 t6))] [])
  (.ask (fstR t0 t6)
  (.ask (decide ((List.length t5 + List.length [[D.int (↑(List.length t4) : Int)]]) * (8 : Nat) ≤ (70368744177664 : Nat)) && decide (List.length t5 + List.length [[D.int (↑(List.length t4) : Int)]] ≤ (70368744177664 : Nat)))
  (.ask (decide ((0 : Int) ≤ t6) && decide (t6 < (↑(List.length t0) : Int)))
  (.ask (decide ((List.length t4 + List.length (bytesRow (cellS t0 (Int.toNat t6) (0 : Nat)))) * (1 : Nat) ≤ (70368744177664 : Nat)) && decide (List.length t4 + List.length (bytesRow (cellS t0 (Int.toNat t6) (0 : Nat))) ≤ (70368744177664 : Nat)))
  (.ask (decide ((List.length (t4 ++ bytesRow (cellS t0 (Int.toNat t6) (0 : Nat))) + (1 : Nat)) * (1 : Nat) ≤ (70368744177664 : Nat)) && decide (List.length (t4 ++ bytesRow (cellS t0 (Int.toNat t6) (0 : Nat))) + (1 : Nat) ≤ (70368744177664 : Nat)))
  (.go 0 tabk2 (tabs2 (t0) (t4 ++ bytesRow (cellS t0 (Int.toNat t6) (0 : Nat)) ++ [[D.int (0 : Int)]]) (t5 ++ [[D.int (↑(List.length t4) : Int)]]) (IntKind.wrap IntKind.i64 (t6 + (1 : Int)))))
  .fail)
  .fail)
  .fail)
  .fail)
  (.go 19 tabk4 (tabs4 (t0) (t4) (t5) (t6) ((0 : Int)) (IntKind.wrap IntKind.i64 (t6 - (1 : Int))))))
  .fail)
  (.ret (.tup [.own [CT.int IntKind.u8] (t4), .own [CT.int IntKind.i64] (t5)], []))) := by kernel_rfl
set_option maxRecDepth 100000 in
theorem tabp3 (n : Nat) (t0 : List (List D)) (t4 : List (List D)) (t6 : Int) (t7 : Int) (t8 : Int) : exec st4 (n + 31) (25, Try.f25, 0) tabk3 (tabs3 t0 t4 t6 t7 t8) = Tr.val st4 (25, Try.f25, 0) n (.ask (decide (t8 ≥ (0 : Int)))
  (.ask (decide ((0 : Int) ≤ t8) && decide (t8 < (↑(List.length t0) : Int)))
  (.ask (decide ((0 : Int) ≤ t6) && decide (t6 < (↑(List.length t0) : Int)))
  (.ask (ByteArray.toList (cellS t0 (Int.toNat t8) (0 : Nat)) == ByteArray.toList (cellS t0 (Int.toNat t6) (0 : Nat)))
  .fail
  (.go 0 tabk3 (tabs3 (t0) (t4) (t6) (t7) (IntKind.wrap IntKind.i64 (t8 - (1 : Int))))))
  .fail)
  .fail)
  (.go 9 tabk2 (tabs2 (t0) (t4) ([[D.int t7]]) (IntKind.wrap IntKind.i64 (t6 + (1 : Int)))))) := by kernel_rfl
set_option maxRecDepth 100000 in
theorem tabp4 (n : Nat) (t0 : List (List D)) (t4 : List (List D)) (t5 : List (List D)) (t6 : Int) (t7 : Int) (t8 : Int) : exec st4 (n + 37) (25, Try.f25, 0) tabk4 (tabs4 t0 t4 t5 t6 t7 t8) = Tr.val st4 (25, Try.f25, 0) n (.ask (decide (t8 ≥ (0 : Int)))
  (.ask (decide ((0 : Int) ≤ t8) && decide (t8 < (↑(List.length t0) : Int)))
  (.ask (decide ((0 : Int) ≤ t6) && decide (t6 < (↑(List.length t0) : Int)))
  (.ask (ByteArray.toList (cellS t0 (Int.toNat t8) (0 : Nat)) == ByteArray.toList (cellS t0 (Int.toNat t6) (0 : Nat)))
  (.ask (decide ((0 : Int) ≤ t8) && decide (t8 < (↑(List.length t5) : Int)))
  (.go 0 tabk4 (tabs4 (t0) (t4) (t5) (t6) (cellI t5 (Int.toNat t8) (0 : Nat)) (IntKind.wrap IntKind.i64 (t8 - (1 : Int)))))
  .fail)
  (.go 6 tabk4 (tabs4 (t0) (t4) (t5) (t6) (t7) (IntKind.wrap IntKind.i64 (t8 - (1 : Int))))))
  .fail)
  .fail)
  (.ask (decide ((List.length t5 + List.length [[D.int t7]]) * (8 : Nat) ≤ (70368744177664 : Nat)) && decide (List.length t5 + List.length [[D.int t7]] ≤ (70368744177664 : Nat)))
  (.go 15 tabk2 (tabs2 (t0) (t4) (t5 ++ [[D.int t7]]) (IntKind.wrap IntKind.i64 (t6 + (1 : Int)))))
  .fail)) := by kernel_rfl
noncomputable def rblk0 : List T := [.code (sub (bodyOf Try.f17) [])]
def rbls0 (t0 : List (List D)) : St := ⟨[(0, .arr [CT.str] t0)], []⟩
noncomputable def rblk1 : List T := [.code (sub (bodyOf Try.f17) [1, 1, 0, 1, 0, 0]), .lp (sub (bodyOf Try.f17) [1, 1, 0, 1, 0, 0]), .blk 0, .code (sub (bodyOf Try.f17) [1, 1, 1])]
def rbls1 (t0 : List (List D)) (t5 : Int) : St := ⟨[(0, .arr [CT.str] t0), (5, .val (.int .i64 t5))], []⟩
set_option maxRecDepth 100000 in
theorem rblp0 (n : Nat) (t0 : List (List D)) : exec st5 (n + 22) (17, Try.f17, 0) rblk0 (rbls0 t0) = Tr.val st5 (17, Try.f17, 0) n (.ask (decide ((↑(List.length t0) : Int) > (1024 : Int)))
  (.ret (.tup [.val nilSlice, .val nilSlice, .val (.int .i64 ((4 : Int)))], []))
  (.go 0 rblk1 (rbls1 (t0) ((0 : Int))))) := by kernel_rfl
set_option maxRecDepth 100000 in
theorem rblp1 (n : Nat) (t0 : List (List D)) (t5 : Int) : exec st5 (n + 38) (17, Try.f17, 0) rblk1 (rbls1 t0 t5) = Tr.val st5 (17, Try.f17, 0) n (.ask (decide (t5 < (↑(List.length t0) : Int)))
  (.ask (decide ((0 : Int) ≤ t5) && decide (t5 < (↑(List.length t0) : Int)))
  (.ask (Info.pre st5 (24 : Nat) [handed [] (V.val (Value.string (cellS t0 (Int.toNat t5) (0 : Nat))))] [])
  (.ask (!mayR (cellS t0 (Int.toNat t5) (0 : Nat)))
  (.ret (.tup [.val nilSlice, .val nilSlice, .val (.int .i64 ((3 : Int)))], []))
  (.go 8 rblk1 (rbls1 (t0) (IntKind.wrap IntKind.i64 (t5 + (1 : Int))))))
  .fail)
  .fail)
  (.ask (Info.pre st5 (25 : Nat) [handed [] (V.arr [CT.str] t0)] [])
  (.ask (decide ((↑(List.length ([D.int (0 : Int)] :: flat (uqs t0))) : Int) > (65536 : Int)))
  (.ret (.tup [.val nilSlice, .val nilSlice, .val (.int .i64 ((9 : Int)))], []))
  (.ret (.tup [.own [CT.int IntKind.u8] ([D.int (0 : Int)] :: flat (uqs t0)), .own [CT.int IntKind.i64] (List.map (fun s ↦ [D.int (plc (uqs t0) s)]) (namesOf t0)), .val (.int .i64 ((0 : Int)))], [])))
  .fail)) := by kernel_rfl
noncomputable def bldsk0 : List T := [.code (sub (bodyOf Try.f6) [])]
def bldss0 (t0 : List (List D)) (t1 : List (List D)) (t2 : Int) : St := ⟨[(0, .arr [CT.str] t0), (1, .arr [CT.int IntKind.u8] t1), (2, .val (.int .i64 t2))], []⟩
set_option maxRecDepth 100000 in
theorem bldsp0 (n : Nat) (t0 : List (List D)) (t1 : List (List D)) (t2 : Int) : exec st6 (n + 113) (6, Try.f6, 0) bldsk0 (bldss0 t0 t1 t2) = Tr.val st6 (6, Try.f6, 0) n (.ask (grtR t0)
  (.ret (.val (.bool (true)), []))
  (.ask (decide ((↑(List.length t1) : Int) > (70000 : Int)))
  (.ret (.val (.bool (true)), []))
  (.ask (decide (List.length t1 * (1 : Nat) ≤ (70368744177664 : Nat)) && decide (List.length t1 ≤ (70368744177664 : Nat)))
  (.ask (Info.pre st6 (17 : Nat) [handed [] (V.arr [CT.str] t0)] [])
  (.ask (ByteArray.toList (rowBytes (Bld.t (bldR t0))) == ByteArray.toList (rowBytes (Bld.t (bldR t0))))
  (.ask (Info.pre st6 (19 : Nat) [handed [] (V.own [CT.int IntKind.i64] (Bld.p (bldR t0))), handed [] (V.own [CT.int IntKind.i64] (Bld.p (bldR t0)))] [])
  (.ask (sameR (Bld.p (bldR t0)) (Bld.p (bldR t0)))
  (.ask (Bld.e (bldR t0) == Bld.e (bldR t0))
  (.ask (ByteArray.toList (getS t1 t2) == ByteArray.toList (rgetS t1 t2))
  (.ask (getE t1 t2 == getE t1 t2)
  (.ask (chkR t1 == chkR t1)
  (.ret (.val (.bool (ByteArray.toList (rowBytes t1) == ByteArray.toList (rowBytes t1))), []))
  (.ret (.val (.bool (false)), [])))
  (.ret (.val (.bool (false)), [])))
  (.ret (.val (.bool (false)), [])))
  (.ret (.val (.bool (false)), [])))
  (.ret (.val (.bool (false)), [])))
  .fail)
  (.ret (.val (.bool (false)), [])))
  .fail)
  .fail))) := by kernel_rfl
end Go.Proofs.Ythloggdgdklgmaa.Ev
