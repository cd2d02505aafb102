/- What the pieces of the runs come to, as a program printed it: each is checked by the kernel. -/
import Derived.Test.YtacfehneeanlgaaDoorRyD
namespace Go.Proofs.YtacfehneeanlgaaDoor.Ev
open Go
set_option linter.unusedVariables false
noncomputable def fitk0 : List T := [.code (sub (bodyOf Go.Proofs.Tryd.f11) [])]
def fits0 (t0 : List (List D)) (t1_0 : ByteArray) (t1_1 : Int) (t1_2 : Bool) (t1_3 t1_4 t1_5 t2_0 t2_1 : Int) : St := ⟨[(0, .arr [.int .i64, .int .i64, .arr secC, .arr symC, .arr relC, .arr grpC, .arr [.bool]] t0), (1, .agg [.val (.string t1_0), .val (.int .u8 t1_1), .val (.bool t1_2), .val (.int .i64 t1_3), .val (.int .i64 t1_4), .val (.int .i64 t1_5)]), (2, .agg [.val (.int .i64 t2_0), .val (.int .i64 t2_1)])], []⟩
noncomputable def fitk1 : List T := [.code (sub (bodyOf Go.Proofs.Tryd.f11) [1, 1, 0, 1, 0, 1, 1]), .code (sub (bodyOf Go.Proofs.Tryd.f11) [1, 1, 1])]
def fits1 (t0 : List (List D)) (b4_0 : ByteArray) (b4_1 : Int) (b4_2 : Bool) (b4_3 b4_4 b4_5 b5_0 b5_1 : Int) (b7_0 : ByteArray) (b7_1 : Int) (b7_2 : Bool) (b7_3 b7_4 b7_5 : Int) : St := ⟨[(0, .arr [.int .i64, .int .i64, .arr secC, .arr symC, .arr relC, .arr grpC, .arr [.bool]] t0), (4, .ptr (.loc 4) 0), (5, .ptr (.loc 5) 0), (7, .ptr (.loc 7) 0)], [(.loc 4, [.val (.string b4_0), .val (.int .u8 b4_1), .val (.bool b4_2), .val (.int .i64 b4_3), .val (.int .i64 b4_4), .val (.int .i64 b4_5)]), (.loc 5, [.val (.int .i64 b5_0), .val (.int .i64 b5_1)]), (.loc 7, [.val (.string b7_0), .val (.int .u8 b7_1), .val (.bool b7_2), .val (.int .i64 b7_3), .val (.int .i64 b7_4), .val (.int .i64 b7_5)])]⟩
noncomputable def fitk2 : List T := [.code (sub (bodyOf Go.Proofs.Tryd.f11) [1, 1, 1, 0, 1, 0, 0]), .lp (sub (bodyOf Go.Proofs.Tryd.f11) [1, 1, 1, 0, 1, 0, 0]), .blk 0, .code (sub (bodyOf Go.Proofs.Tryd.f11) [1, 1, 1, 1])]
def fits2 (t0 : List (List D)) (t8 : Int) (b4_0 : ByteArray) (b4_1 : Int) (b4_2 : Bool) (b4_3 b4_4 b4_5 b5_0 b5_1 : Int) (b7_0 : ByteArray) (b7_1 : Int) (b7_2 : Bool) (b7_3 b7_4 b7_5 : Int) : St := ⟨[(0, .arr [.int .i64, .int .i64, .arr secC, .arr symC, .arr relC, .arr grpC, .arr [.bool]] t0), (4, .ptr (.loc 4) 0), (5, .ptr (.loc 5) 0), (7, .ptr (.loc 7) 0), (8, .val (.int .i64 t8))], [(.loc 4, [.val (.string b4_0), .val (.int .u8 b4_1), .val (.bool b4_2), .val (.int .i64 b4_3), .val (.int .i64 b4_4), .val (.int .i64 b4_5)]), (.loc 5, [.val (.int .i64 b5_0), .val (.int .i64 b5_1)]), (.loc 7, [.val (.string b7_0), .val (.int .u8 b7_1), .val (.bool b7_2), .val (.int .i64 b7_3), .val (.int .i64 b7_4), .val (.int .i64 b7_5)])]⟩
noncomputable def fitk3 : List T := [.code (sub (bodyOf Go.Proofs.Tryd.f11) [1, 1, 1, 0, 1, 0, 0, 1, 0, 0, 1, 0, 0]), .lp (sub (bodyOf Go.Proofs.Tryd.f11) [1, 1, 1, 0, 1, 0, 0, 1, 0, 0, 1, 0, 0]), .blk 2, .blk 1, .code (sub (bodyOf Go.Proofs.Tryd.f11) [1, 1, 1, 0, 1, 0, 0, 1, 1]), .lp (sub (bodyOf Go.Proofs.Tryd.f11) [1, 1, 1, 0, 1, 0, 0]), .blk 0, .code (sub (bodyOf Go.Proofs.Tryd.f11) [1, 1, 1, 1])]
def fits3 (t0 : List (List D)) (t8 t9 : Int) (b4_0 : ByteArray) (b4_1 : Int) (b4_2 : Bool) (b4_3 b4_4 b4_5 b5_0 b5_1 : Int) (b7_0 : ByteArray) (b7_1 : Int) (b7_2 : Bool) (b7_3 b7_4 b7_5 : Int) : St := ⟨[(0, .arr [.int .i64, .int .i64, .arr secC, .arr symC, .arr relC, .arr grpC, .arr [.bool]] t0), (4, .ptr (.loc 4) 0), (5, .ptr (.loc 5) 0), (7, .ptr (.loc 7) 0), (8, .val (.int .i64 t8)), (9, .val (.int .i64 t9))], [(.loc 4, [.val (.string b4_0), .val (.int .u8 b4_1), .val (.bool b4_2), .val (.int .i64 b4_3), .val (.int .i64 b4_4), .val (.int .i64 b4_5)]), (.loc 5, [.val (.int .i64 b5_0), .val (.int .i64 b5_1)]), (.loc 7, [.val (.string b7_0), .val (.int .u8 b7_1), .val (.bool b7_2), .val (.int .i64 b7_3), .val (.int .i64 b7_4), .val (.int .i64 b7_5)])]⟩
noncomputable def fitk4 : List T := [.code (sub (bodyOf Go.Proofs.Tryd.f11) [1, 1, 1, 0, 1, 0, 0, 1, 0, 0, 1, 0, 0, 1, 0, 0, 1, 0, 1]), .code (sub (bodyOf Go.Proofs.Tryd.f11) [1, 1, 1, 0, 1, 0, 0, 1, 0, 0, 1, 0, 0, 1, 0, 0, 1, 1]), .blk 3, .code (sub (bodyOf Go.Proofs.Tryd.f11) [1, 1, 1, 0, 1, 0, 0, 1, 0, 0, 1, 0, 0, 1, 1]), .lp (sub (bodyOf Go.Proofs.Tryd.f11) [1, 1, 1, 0, 1, 0, 0, 1, 0, 0, 1, 0, 0]), .blk 2, .blk 1, .code (sub (bodyOf Go.Proofs.Tryd.f11) [1, 1, 1, 0, 1, 0, 0, 1, 1]), .lp (sub (bodyOf Go.Proofs.Tryd.f11) [1, 1, 1, 0, 1, 0, 0]), .blk 0, .code (sub (bodyOf Go.Proofs.Tryd.f11) [1, 1, 1, 1])]
def fits4 (t0 : List (List D)) (t8 t9 : Int) (t107 : Bool) (b4_0 : ByteArray) (b4_1 : Int) (b4_2 : Bool) (b4_3 b4_4 b4_5 b5_0 b5_1 : Int) (b7_0 : ByteArray) (b7_1 : Int) (b7_2 : Bool) (b7_3 b7_4 b7_5 : Int) (b10_0 : ByteArray) (b10_1 : Int) (b10_2 : Bool) (b10_3 b10_4 b10_5 : Int) : St := ⟨[(0, .arr [.int .i64, .int .i64, .arr secC, .arr symC, .arr relC, .arr grpC, .arr [.bool]] t0), (4, .ptr (.loc 4) 0), (5, .ptr (.loc 5) 0), (7, .ptr (.loc 7) 0), (8, .val (.int .i64 t8)), (9, .val (.int .i64 t9)), (10, .ptr (.loc 10) 0), (107, .val (.bool t107))], [(.loc 4, [.val (.string b4_0), .val (.int .u8 b4_1), .val (.bool b4_2), .val (.int .i64 b4_3), .val (.int .i64 b4_4), .val (.int .i64 b4_5)]), (.loc 5, [.val (.int .i64 b5_0), .val (.int .i64 b5_1)]), (.loc 7, [.val (.string b7_0), .val (.int .u8 b7_1), .val (.bool b7_2), .val (.int .i64 b7_3), .val (.int .i64 b7_4), .val (.int .i64 b7_5)]), (.loc 10, [.val (.string b10_0), .val (.int .u8 b10_1), .val (.bool b10_2), .val (.int .i64 b10_3), .val (.int .i64 b10_4), .val (.int .i64 b10_5)])]⟩
noncomputable def fitk5 : List T := [.code (sub (bodyOf Go.Proofs.Tryd.f11) [1, 1, 1, 0, 1, 0, 0, 1, 0, 0, 1, 0, 0, 1, 0, 0, 1, 1, 1, 1, 1]), .blk 3, .code (sub (bodyOf Go.Proofs.Tryd.f11) [1, 1, 1, 0, 1, 0, 0, 1, 0, 0, 1, 0, 0, 1, 1]), .lp (sub (bodyOf Go.Proofs.Tryd.f11) [1, 1, 1, 0, 1, 0, 0, 1, 0, 0, 1, 0, 0]), .blk 2, .blk 1, .code (sub (bodyOf Go.Proofs.Tryd.f11) [1, 1, 1, 0, 1, 0, 0, 1, 1]), .lp (sub (bodyOf Go.Proofs.Tryd.f11) [1, 1, 1, 0, 1, 0, 0]), .blk 0, .code (sub (bodyOf Go.Proofs.Tryd.f11) [1, 1, 1, 1])]
def fits5 (t0 : List (List D)) (t8 t9 : Int) (t162 : Bool) (b4_0 : ByteArray) (b4_1 : Int) (b4_2 : Bool) (b4_3 b4_4 b4_5 b5_0 b5_1 : Int) (b7_0 : ByteArray) (b7_1 : Int) (b7_2 : Bool) (b7_3 b7_4 b7_5 : Int) : St := ⟨[(0, .arr [.int .i64, .int .i64, .arr secC, .arr symC, .arr relC, .arr grpC, .arr [.bool]] t0), (4, .ptr (.loc 4) 0), (5, .ptr (.loc 5) 0), (7, .ptr (.loc 7) 0), (8, .val (.int .i64 t8)), (9, .val (.int .i64 t9)), (162, .val (.bool t162))], [(.loc 4, [.val (.string b4_0), .val (.int .u8 b4_1), .val (.bool b4_2), .val (.int .i64 b4_3), .val (.int .i64 b4_4), .val (.int .i64 b4_5)]), (.loc 5, [.val (.int .i64 b5_0), .val (.int .i64 b5_1)]), (.loc 7, [.val (.string b7_0), .val (.int .u8 b7_1), .val (.bool b7_2), .val (.int .i64 b7_3), .val (.int .i64 b7_4), .val (.int .i64 b7_5)])]⟩
noncomputable def fitt0 (t0 : List (List D)) (t1_0 : ByteArray) (t1_1 : Int) (t1_2 : Bool) (t1_3 t1_4 t1_5 t2_0 t2_1 : Int) : Tr := (.ask (decide (t2_0 ≥ (0 : Int)))
  (.ask (decide (t2_0 ≥ (↑(List.length t0) : Int)))
  (.ret (.val (.bool (false)), []))
  (.ask (decide (t2_1 < (0 : Int)))
  (.ret (.val (.bool (false)), []))
  (.ask (decide ((0 : Int) ≤ t2_0) && decide (t2_0 < (↑(List.length t0) : Int)))
  (.ask (decide (t2_1 ≥ (↑(List.length (cellA t0 (Int.toNat t2_0) (3 : Nat))) : Int)))
  (.ret (.val (.bool (false)), []))
  (.ask (decide ((0 : Int) ≤ t2_0) && decide (t2_0 < (↑(List.length t0) : Int)))
  (.ask (decide ((0 : Int) ≤ t2_1) && decide (t2_1 < (↑(List.length (cellA t0 (Int.toNat t2_0) (3 : Nat))) : Int)))
  (.go 0 fitk1 (fits1 (t0) (t1_0) (t1_1) (t1_2) (t1_3) (t1_4) (t1_5) (t2_0) (t2_1) (cellS (cellA t0 (Int.toNat t2_0) (3 : Nat)) (Int.toNat t2_1) (0 : Nat)) (cellI (cellA t0 (Int.toNat t2_0) (3 : Nat)) (Int.toNat t2_1) (1 : Nat)) (cellB (cellA t0 (Int.toNat t2_0) (3 : Nat)) (Int.toNat t2_1) (2 : Nat)) (cellI (cellA t0 (Int.toNat t2_0) (3 : Nat)) (Int.toNat t2_1) (3 : Nat)) (cellI (cellA t0 (Int.toNat t2_0) (3 : Nat)) (Int.toNat t2_1) (4 : Nat)) (cellI (cellA t0 (Int.toNat t2_0) (3 : Nat)) (Int.toNat t2_1) (5 : Nat))))
  .fail)
  .fail))
  .fail)))
  (.ask (t1_1 == (1 : Int))
  (.ret (.val (.bool (false)), []))
  (.go 29 fitk2 (fits2 (t0) ((0 : Int)) (t1_0) (t1_1) (t1_2) (t1_3) (t1_4) (t1_5) (t2_0) (t2_1) ({ data := #[] }) ((0 : Int)) (false) ((0 : Int)) ((0 : Int)) ((0 : Int))))))
set_option maxRecDepth 100000 in
theorem fitp0 (n : Nat) (t0 : List (List D)) (t1_0 : ByteArray) (t1_1 : Int) (t1_2 : Bool) (t1_3 t1_4 t1_5 t2_0 t2_1 : Int) : exec lv1i (n + 62) (11, Go.Proofs.Tryd.f11, 0) fitk0 (fits0 t0 t1_0 t1_1 t1_2 t1_3 t1_4 t1_5 t2_0 t2_1) = Tr.val lv1i (11, Go.Proofs.Tryd.f11, 0) n (fitt0 t0 t1_0 t1_1 t1_2 t1_3 t1_4 t1_5 t2_0 t2_1) := by kernel_rfl
noncomputable def fitt1 (t0 : List (List D)) (b4_0 : ByteArray) (b4_1 : Int) (b4_2 : Bool) (b4_3 b4_4 b4_5 b5_0 b5_1 : Int) (b7_0 : ByteArray) (b7_1 : Int) (b7_2 : Bool) (b7_3 b7_4 b7_5 : Int) : Tr := (.ask (!ByteArray.toList b7_0 == ByteArray.toList b4_0)
  (.ret (.val (.bool (false)), []))
  (.ask (decide ((0 : Int) ≤ b5_0) && decide (b5_0 < (↑(List.length t0) : Int)))
  (.ask (Info.pre lv1i (20 : Nat) [handed [] (.agg [V.val (.int .i64 (cellI t0 (Int.toNat b5_0) (0 : Nat))), V.val (.int .i64 (cellI t0 (Int.toNat b5_0) (1 : Nat))), V.arr secC (cellA t0 (Int.toNat b5_0) (2 : Nat)), V.arr symC (cellA t0 (Int.toNat b5_0) (3 : Nat)), V.arr relC (cellA t0 (Int.toNat b5_0) (4 : Nat)), V.arr grpC (cellA t0 (Int.toNat b5_0) (5 : Nat)), V.arr [.bool] (cellA t0 (Int.toNat b5_0) (6 : Nat))]), handed [] (.agg [V.val (Value.string b7_0), V.val (.int .u8 b7_1), V.val (Value.bool b7_2), V.val (.int .i64 b7_3), V.val (.int .i64 b7_4), V.val (.int .i64 b7_5)])] [])
  (.ask (!thrB (cellA t0 (Int.toNat b5_0) (6 : Nat)) b7_1 b7_3)
  (.ret (.val (.bool (false)), []))
  (.go 0 fitk2 (fits2 (t0) ((0 : Int)) (b4_0) (b4_1) (b4_2) (b4_3) (b4_4) (b4_5) (b5_0) (b5_1) (b7_0) (b7_1) (b7_2) (b7_3) (b7_4) (b7_5))))
  .fail)
  .fail))
set_option maxRecDepth 100000 in
theorem fitp1 (n : Nat) (t0 : List (List D)) (b4_0 : ByteArray) (b4_1 : Int) (b4_2 : Bool) (b4_3 b4_4 b4_5 b5_0 b5_1 : Int) (b7_0 : ByteArray) (b7_1 : Int) (b7_2 : Bool) (b7_3 b7_4 b7_5 : Int) : exec lv1i (n + 27) (11, Go.Proofs.Tryd.f11, 0) fitk1 (fits1 t0 b4_0 b4_1 b4_2 b4_3 b4_4 b4_5 b5_0 b5_1 b7_0 b7_1 b7_2 b7_3 b7_4 b7_5) = Tr.val lv1i (11, Go.Proofs.Tryd.f11, 0) n (fitt1 t0 b4_0 b4_1 b4_2 b4_3 b4_4 b4_5 b5_0 b5_1 b7_0 b7_1 b7_2 b7_3 b7_4 b7_5) := by kernel_rfl
noncomputable def fitt2 (t0 : List (List D)) (t8 : Int) (b4_0 : ByteArray) (b4_1 : Int) (b4_2 : Bool) (b4_3 b4_4 b4_5 b5_0 b5_1 : Int) (b7_0 : ByteArray) (b7_1 : Int) (b7_2 : Bool) (b7_3 b7_4 b7_5 : Int) : Tr := (.ask (decide (t8 < (↑(List.length t0) : Int)))
  (.go 0 fitk3 (fits3 (t0) (t8) ((0 : Int)) (b4_0) (b4_1) (b4_2) (b4_3) (b4_4) (b4_5) (b5_0) (b5_1) (b7_0) (b7_1) (b7_2) (b7_3) (b7_4) (b7_5)))
  (.ret (.val (.bool (true)), [])))
set_option maxRecDepth 100000 in
theorem fitp2 (n : Nat) (t0 : List (List D)) (t8 : Int) (b4_0 : ByteArray) (b4_1 : Int) (b4_2 : Bool) (b4_3 b4_4 b4_5 b5_0 b5_1 : Int) (b7_0 : ByteArray) (b7_1 : Int) (b7_2 : Bool) (b7_3 b7_4 b7_5 : Int) : exec lv1i (n + 18) (11, Go.Proofs.Tryd.f11, 0) fitk2 (fits2 t0 t8 b4_0 b4_1 b4_2 b4_3 b4_4 b4_5 b5_0 b5_1 b7_0 b7_1 b7_2 b7_3 b7_4 b7_5) = Tr.val lv1i (11, Go.Proofs.Tryd.f11, 0) n (fitt2 t0 t8 b4_0 b4_1 b4_2 b4_3 b4_4 b4_5 b5_0 b5_1 b7_0 b7_1 b7_2 b7_3 b7_4 b7_5) := by kernel_rfl
noncomputable def fitt3 (t0 : List (List D)) (t8 t9 : Int) (b4_0 : ByteArray) (b4_1 : Int) (b4_2 : Bool) (b4_3 b4_4 b4_5 b5_0 b5_1 : Int) (b7_0 : ByteArray) (b7_1 : Int) (b7_2 : Bool) (b7_3 b7_4 b7_5 : Int) : Tr := (.ask (decide ((0 : Int) ≤ t8) && decide (t8 < (↑(List.length t0) : Int)))
  (.ask (decide (t9 < (↑(List.length (cellA t0 (Int.toNat t8) (3 : Nat))) : Int)))
  (.ask (decide ((0 : Int) ≤ t8) && decide (t8 < (↑(List.length t0) : Int)))
  (.ask (decide ((0 : Int) ≤ t9) && decide (t9 < (↑(List.length (cellA t0 (Int.toNat t8) (3 : Nat))) : Int)))
  (.ask (!ByteArray.toList (cellS (cellA t0 (Int.toNat t8) (3 : Nat)) (Int.toNat t9) (0 : Nat)) == ByteArray.toList b4_0)
  (.go 0 fitk3 (fits3 (t0) (t8) (IntKind.wrap .i64 (t9 + (1 : Int))) (b4_0) (b4_1) (b4_2) (b4_3) (b4_4) (b4_5) (b5_0) (b5_1) (b7_0) (b7_1) (b7_2) (b7_3) (b7_4) (b7_5)))
  (.ask (decide ((0 : Int) ≤ t8) && decide (t8 < (↑(List.length t0) : Int)))
  (.ask (Info.pre lv1i (20 : Nat) [handed [] (.agg [V.val (.int .i64 (cellI t0 (Int.toNat t8) (0 : Nat))), V.val (.int .i64 (cellI t0 (Int.toNat t8) (1 : Nat))), V.arr secC (cellA t0 (Int.toNat t8) (2 : Nat)), V.arr symC (cellA t0 (Int.toNat t8) (3 : Nat)), V.arr relC (cellA t0 (Int.toNat t8) (4 : Nat)), V.arr grpC (cellA t0 (Int.toNat t8) (5 : Nat)), V.arr [.bool] (cellA t0 (Int.toNat t8) (6 : Nat))]), handed [] (.agg [V.val (Value.string (cellS (cellA t0 (Int.toNat t8) (3 : Nat)) (Int.toNat t9) (0 : Nat))), V.val (.int .u8 (cellI (cellA t0 (Int.toNat t8) (3 : Nat)) (Int.toNat t9) (1 : Nat))), V.val (Value.bool (cellB (cellA t0 (Int.toNat t8) (3 : Nat)) (Int.toNat t9) (2 : Nat))), V.val (.int .i64 (cellI (cellA t0 (Int.toNat t8) (3 : Nat)) (Int.toNat t9) (3 : Nat))), V.val (.int .i64 (cellI (cellA t0 (Int.toNat t8) (3 : Nat)) (Int.toNat t9) (4 : Nat))), V.val (.int .i64 (cellI (cellA t0 (Int.toNat t8) (3 : Nat)) (Int.toNat t9) (5 : Nat)))])] [])
  (.go 8 fitk4 (fits4 (t0) (t8) (t9) (!thrB (cellA t0 (Int.toNat t8) (6 : Nat)) (cellI (cellA t0 (Int.toNat t8) (3 : Nat)) (Int.toNat t9) (1 : Nat)) (cellI (cellA t0 (Int.toNat t8) (3 : Nat)) (Int.toNat t9) (3 : Nat))) (b4_0) (b4_1) (b4_2) (b4_3) (b4_4) (b4_5) (b5_0) (b5_1) (b7_0) (b7_1) (b7_2) (b7_3) (b7_4) (b7_5) (cellS (cellA t0 (Int.toNat t8) (3 : Nat)) (Int.toNat t9) (0 : Nat)) (cellI (cellA t0 (Int.toNat t8) (3 : Nat)) (Int.toNat t9) (1 : Nat)) (cellB (cellA t0 (Int.toNat t8) (3 : Nat)) (Int.toNat t9) (2 : Nat)) (cellI (cellA t0 (Int.toNat t8) (3 : Nat)) (Int.toNat t9) (3 : Nat)) (cellI (cellA t0 (Int.toNat t8) (3 : Nat)) (Int.toNat t9) (4 : Nat)) (cellI (cellA t0 (Int.toNat t8) (3 : Nat)) (Int.toNat t9) (5 : Nat))))
  .fail)
  .fail))
  .fail)
  .fail)
  (.go 35 fitk2 (fits2 (t0) (IntKind.wrap .i64 (t8 + (1 : Int))) (b4_0) (b4_1) (b4_2) (b4_3) (b4_4) (b4_5) (b5_0) (b5_1) (b7_0) (b7_1) (b7_2) (b7_3) (b7_4) (b7_5))))
  .fail)
set_option maxRecDepth 100000 in
theorem fitp3 (n : Nat) (t0 : List (List D)) (t8 t9 : Int) (b4_0 : ByteArray) (b4_1 : Int) (b4_2 : Bool) (b4_3 b4_4 b4_5 b5_0 b5_1 : Int) (b7_0 : ByteArray) (b7_1 : Int) (b7_2 : Bool) (b7_3 b7_4 b7_5 : Int) : exec lv1i (n + 57) (11, Go.Proofs.Tryd.f11, 0) fitk3 (fits3 t0 t8 t9 b4_0 b4_1 b4_2 b4_3 b4_4 b4_5 b5_0 b5_1 b7_0 b7_1 b7_2 b7_3 b7_4 b7_5) = Tr.val lv1i (11, Go.Proofs.Tryd.f11, 0) n (fitt3 t0 t8 t9 b4_0 b4_1 b4_2 b4_3 b4_4 b4_5 b5_0 b5_1 b7_0 b7_1 b7_2 b7_3 b7_4 b7_5) := by kernel_rfl
noncomputable def fitt4z (t0 : List (List D)) (t8 t9 : Int) (b4_0 : ByteArray) (b4_1 : Int) (b4_2 : Bool) (b4_3 b4_4 b4_5 b5_0 b5_1 : Int) (b7_0 : ByteArray) (b7_1 : Int) (b7_2 : Bool) (b7_3 b7_4 b7_5 : Int) (b10_5 : Int) : Tr := (.go 0 fitk3 (fits3 (t0) (t8) (IntKind.wrap .i64 (t9 + (1 : Int))) (b4_0) (b4_1) (b4_2) (b4_3) (b4_4) (b4_5) (b5_0) (b5_1) (b7_0) (b7_1) (b7_2) (b7_3) (b7_4) (b7_5)))
set_option maxRecDepth 100000 in
theorem fitp4z (n : Nat) (t0 : List (List D)) (t8 t9 : Int) (b4_0 : ByteArray) (b4_1 : Int) (b4_2 : Bool) (b4_3 b4_4 b4_5 b5_0 b5_1 : Int) (b7_0 : ByteArray) (b7_1 : Int) (b7_2 : Bool) (b7_3 b7_4 b7_5 : Int) (b10_0 : ByteArray) (b10_1 : Int) (b10_2 : Bool) (b10_3 b10_4 b10_5 : Int) : exec lv1i (n + 8) (11, Go.Proofs.Tryd.f11, 0) fitk4 (fits4 t0 t8 t9 true b4_0 b4_1 b4_2 b4_3 b4_4 b4_5 b5_0 b5_1 b7_0 b7_1 b7_2 b7_3 b7_4 b7_5 b10_0 b10_1 b10_2 b10_3 b10_4 b10_5) = Tr.val lv1i (11, Go.Proofs.Tryd.f11, 0) n (fitt4z t0 t8 t9 b4_0 b4_1 b4_2 b4_3 b4_4 b4_5 b5_0 b5_1 b7_0 b7_1 b7_2 b7_3 b7_4 b7_5 b10_5) := by kernel_rfl
noncomputable def fitt4a (t0 : List (List D)) (t8 t9 : Int) (b4_0 : ByteArray) (b4_1 : Int) (b4_2 : Bool) (b4_3 b4_4 b4_5 b5_0 b5_1 : Int) (b7_0 : ByteArray) (b7_1 : Int) (b7_2 : Bool) (b7_3 b7_4 b7_5 : Int) (b10_5 : Int) : Tr := (.ask (b5_0 == t8)
  (.ask (decide (b5_0 < (0 : Int)))
  (.ret (.val (.bool (false)), []))
  (.ask (b7_3 == (-2 : Int))
  (.go 6 fitk5 (fits5 (t0) (t8) (t9) (decide (b10_5 > b7_5)) (b4_0) (b4_1) (b4_2) (b4_3) (b4_4) (b4_5) (b5_0) (b5_1) (b7_0) (b7_1) (b7_2) (b7_3) (b7_4) (b7_5)))
  (.go 6 fitk5 (fits5 (t0) (t8) (t9) (false) (b4_0) (b4_1) (b4_2) (b4_3) (b4_4) (b4_5) (b5_0) (b5_1) (b7_0) (b7_1) (b7_2) (b7_3) (b7_4) (b7_5)))))
  (.ask (decide (b5_0 < (0 : Int)))
  (.ret (.val (.bool (false)), []))
  (.ask (b7_3 == (-2 : Int))
  (.go 6 fitk5 (fits5 (t0) (t8) (t9) (decide (b10_5 > b7_5)) (b4_0) (b4_1) (b4_2) (b4_3) (b4_4) (b4_5) (b5_0) (b5_1) (b7_0) (b7_1) (b7_2) (b7_3) (b7_4) (b7_5)))
  (.go 6 fitk5 (fits5 (t0) (t8) (t9) (false) (b4_0) (b4_1) (b4_2) (b4_3) (b4_4) (b4_5) (b5_0) (b5_1) (b7_0) (b7_1) (b7_2) (b7_3) (b7_4) (b7_5))))))
set_option maxRecDepth 100000 in
theorem fitp4a (n : Nat) (t0 : List (List D)) (t8 t9 : Int) (b4_0 : ByteArray) (b4_1 : Int) (b4_2 : Bool) (b4_3 b4_4 b4_5 b5_0 b5_1 : Int) (b7_0 : ByteArray) (b7_1 : Int) (b7_2 : Bool) (b7_3 b7_4 b7_5 : Int) (b10_0 : ByteArray) (b10_2 : Bool) (b10_4 b10_5 : Int) : exec lv1i (n + 74) (11, Go.Proofs.Tryd.f11, 0) fitk4 (fits4 t0 t8 t9 false b4_0 b4_1 b4_2 b4_3 b4_4 b4_5 b5_0 b5_1 b7_0 b7_1 b7_2 b7_3 b7_4 b7_5 b10_0 (1 : Int) b10_2 (-2 : Int) b10_4 b10_5) = Tr.val lv1i (11, Go.Proofs.Tryd.f11, 0) n (fitt4a t0 t8 t9 b4_0 b4_1 b4_2 b4_3 b4_4 b4_5 b5_0 b5_1 b7_0 b7_1 b7_2 b7_3 b7_4 b7_5 b10_5) := by kernel_rfl
noncomputable def fitt4b (t0 : List (List D)) (t8 t9 : Int) (b4_0 : ByteArray) (b4_1 : Int) (b4_2 : Bool) (b4_3 b4_4 b4_5 b5_0 b5_1 : Int) (b7_0 : ByteArray) (b7_1 : Int) (b7_2 : Bool) (b7_3 b7_4 b7_5 : Int) (b10_5 : Int) : Tr := (.ask (b5_0 == t8)
  (.ask (decide (b5_0 < (0 : Int)))
  (.ret (.val (.bool (false)), []))
  (.ask (!b5_1 == t9)
  (.go 6 fitk5 (fits5 (t0) (t8) (t9) (true) (b4_0) (b4_1) (b4_2) (b4_3) (b4_4) (b4_5) (b5_0) (b5_1) (b7_0) (b7_1) (b7_2) (b7_3) (b7_4) (b7_5)))
  (.go 6 fitk5 (fits5 (t0) (t8) (t9) (false) (b4_0) (b4_1) (b4_2) (b4_3) (b4_4) (b4_5) (b5_0) (b5_1) (b7_0) (b7_1) (b7_2) (b7_3) (b7_4) (b7_5)))))
  (.ask (decide (b5_0 < (0 : Int)))
  (.ret (.val (.bool (false)), []))
  (.ret (.val (.bool (false)), []))))
set_option maxRecDepth 100000 in
theorem fitp4b (n : Nat) (t0 : List (List D)) (t8 t9 : Int) (b4_0 : ByteArray) (b4_1 : Int) (b4_2 : Bool) (b4_3 b4_4 b4_5 b5_0 b5_1 : Int) (b7_0 : ByteArray) (b7_1 : Int) (b7_2 : Bool) (b7_3 b7_4 b7_5 : Int) (b10_0 : ByteArray) (b10_2 : Bool) (b10_4 b10_5 : Int) : exec lv1i (n + 74) (11, Go.Proofs.Tryd.f11, 0) fitk4 (fits4 t0 t8 t9 false b4_0 b4_1 b4_2 b4_3 b4_4 b4_5 b5_0 b5_1 b7_0 b7_1 b7_2 b7_3 b7_4 b7_5 b10_0 (1 : Int) b10_2 (-1 : Int) b10_4 b10_5) = Tr.val lv1i (11, Go.Proofs.Tryd.f11, 0) n (fitt4b t0 t8 t9 b4_0 b4_1 b4_2 b4_3 b4_4 b4_5 b5_0 b5_1 b7_0 b7_1 b7_2 b7_3 b7_4 b7_5 b10_5) := by kernel_rfl
noncomputable def fitt4c (t0 : List (List D)) (t8 t9 : Int) (b4_0 : ByteArray) (b4_1 : Int) (b4_2 : Bool) (b4_3 b4_4 b4_5 b5_0 b5_1 : Int) (b7_0 : ByteArray) (b7_1 : Int) (b7_2 : Bool) (b7_3 b7_4 b7_5 : Int) (b10_5 : Int) : Tr := (.ask (b5_0 == t8)
  (.ask (decide (b5_0 < (0 : Int)))
  (.ret (.val (.bool (false)), []))
  (.ask (!b5_1 == t9)
  (.go 6 fitk5 (fits5 (t0) (t8) (t9) (true) (b4_0) (b4_1) (b4_2) (b4_3) (b4_4) (b4_5) (b5_0) (b5_1) (b7_0) (b7_1) (b7_2) (b7_3) (b7_4) (b7_5)))
  (.go 6 fitk5 (fits5 (t0) (t8) (t9) (false) (b4_0) (b4_1) (b4_2) (b4_3) (b4_4) (b4_5) (b5_0) (b5_1) (b7_0) (b7_1) (b7_2) (b7_3) (b7_4) (b7_5)))))
  (.ask (decide (b5_0 < (0 : Int)))
  (.ret (.val (.bool (false)), []))
  (.ret (.val (.bool (false)), []))))
set_option maxRecDepth 100000 in
theorem fitp4c (n : Nat) (t0 : List (List D)) (t8 t9 : Int) (b4_0 : ByteArray) (b4_1 : Int) (b4_2 : Bool) (b4_3 b4_4 b4_5 b5_0 b5_1 : Int) (b7_0 : ByteArray) (b7_1 : Int) (b7_2 : Bool) (b7_3 b7_4 b7_5 : Int) (b10_0 : ByteArray) (b10_2 : Bool) (b10_4 b10_5 : Int) (w : Nat) : exec lv1i (n + 74) (11, Go.Proofs.Tryd.f11, 0) fitk4 (fits4 t0 t8 t9 false b4_0 b4_1 b4_2 b4_3 b4_4 b4_5 b5_0 b5_1 b7_0 b7_1 b7_2 b7_3 b7_4 b7_5 b10_0 (1 : Int) b10_2 (Int.ofNat w) b10_4 b10_5) = Tr.val lv1i (11, Go.Proofs.Tryd.f11, 0) n (fitt4c t0 t8 t9 b4_0 b4_1 b4_2 b4_3 b4_4 b4_5 b5_0 b5_1 b7_0 b7_1 b7_2 b7_3 b7_4 b7_5 b10_5) := by kernel_rfl
noncomputable def fitt4d (t0 : List (List D)) (t8 t9 : Int) (b4_0 : ByteArray) (b4_1 : Int) (b4_2 : Bool) (b4_3 b4_4 b4_5 b5_0 b5_1 : Int) (b7_0 : ByteArray) (b7_1 : Int) (b7_2 : Bool) (b7_3 b7_4 b7_5 : Int) (b10_5 : Int) : Tr := (.ask (b5_0 == t8)
  (.ask (decide (b5_0 < (0 : Int)))
  (.ret (.val (.bool (false)), []))
  (.ask (b7_3 == (-2 : Int))
  (.go 6 fitk5 (fits5 (t0) (t8) (t9) (true) (b4_0) (b4_1) (b4_2) (b4_3) (b4_4) (b4_5) (b5_0) (b5_1) (b7_0) (b7_1) (b7_2) (b7_3) (b7_4) (b7_5)))
  (.go 6 fitk5 (fits5 (t0) (t8) (t9) (false) (b4_0) (b4_1) (b4_2) (b4_3) (b4_4) (b4_5) (b5_0) (b5_1) (b7_0) (b7_1) (b7_2) (b7_3) (b7_4) (b7_5)))))
  (.ask (decide (b5_0 < (0 : Int)))
  (.ret (.val (.bool (false)), []))
  (.ask (b7_3 == (-2 : Int))
  (.go 6 fitk5 (fits5 (t0) (t8) (t9) (true) (b4_0) (b4_1) (b4_2) (b4_3) (b4_4) (b4_5) (b5_0) (b5_1) (b7_0) (b7_1) (b7_2) (b7_3) (b7_4) (b7_5)))
  (.go 6 fitk5 (fits5 (t0) (t8) (t9) (false) (b4_0) (b4_1) (b4_2) (b4_3) (b4_4) (b4_5) (b5_0) (b5_1) (b7_0) (b7_1) (b7_2) (b7_3) (b7_4) (b7_5))))))
set_option maxRecDepth 100000 in
theorem fitp4d (n : Nat) (t0 : List (List D)) (t8 t9 : Int) (b4_0 : ByteArray) (b4_1 : Int) (b4_2 : Bool) (b4_3 b4_4 b4_5 b5_0 b5_1 : Int) (b7_0 : ByteArray) (b7_1 : Int) (b7_2 : Bool) (b7_3 b7_4 b7_5 : Int) (b10_0 : ByteArray) (b10_2 : Bool) (b10_4 b10_5 : Int) : exec lv1i (n + 74) (11, Go.Proofs.Tryd.f11, 0) fitk4 (fits4 t0 t8 t9 false b4_0 b4_1 b4_2 b4_3 b4_4 b4_5 b5_0 b5_1 b7_0 b7_1 b7_2 b7_3 b7_4 b7_5 b10_0 (2 : Int) b10_2 (-1 : Int) b10_4 b10_5) = Tr.val lv1i (11, Go.Proofs.Tryd.f11, 0) n (fitt4d t0 t8 t9 b4_0 b4_1 b4_2 b4_3 b4_4 b4_5 b5_0 b5_1 b7_0 b7_1 b7_2 b7_3 b7_4 b7_5 b10_5) := by kernel_rfl
noncomputable def fitt4e (t0 : List (List D)) (t8 t9 : Int) (b4_0 : ByteArray) (b4_1 : Int) (b4_2 : Bool) (b4_3 b4_4 b4_5 b5_0 b5_1 : Int) (b7_0 : ByteArray) (b7_1 : Int) (b7_2 : Bool) (b7_3 b7_4 b7_5 : Int) (b10_5 : Int) : Tr := (.ask (b5_0 == t8)
  (.ask (decide (b5_0 < (0 : Int)))
  (.ret (.val (.bool (false)), []))
  (.ask (b7_3 == (-2 : Int))
  (.go 6 fitk5 (fits5 (t0) (t8) (t9) (true) (b4_0) (b4_1) (b4_2) (b4_3) (b4_4) (b4_5) (b5_0) (b5_1) (b7_0) (b7_1) (b7_2) (b7_3) (b7_4) (b7_5)))
  (.go 6 fitk5 (fits5 (t0) (t8) (t9) (false) (b4_0) (b4_1) (b4_2) (b4_3) (b4_4) (b4_5) (b5_0) (b5_1) (b7_0) (b7_1) (b7_2) (b7_3) (b7_4) (b7_5)))))
  (.ask (decide (b5_0 < (0 : Int)))
  (.ret (.val (.bool (false)), []))
  (.ask (b7_3 == (-2 : Int))
  (.go 6 fitk5 (fits5 (t0) (t8) (t9) (true) (b4_0) (b4_1) (b4_2) (b4_3) (b4_4) (b4_5) (b5_0) (b5_1) (b7_0) (b7_1) (b7_2) (b7_3) (b7_4) (b7_5)))
  (.go 6 fitk5 (fits5 (t0) (t8) (t9) (false) (b4_0) (b4_1) (b4_2) (b4_3) (b4_4) (b4_5) (b5_0) (b5_1) (b7_0) (b7_1) (b7_2) (b7_3) (b7_4) (b7_5))))))
set_option maxRecDepth 100000 in
theorem fitp4e (n : Nat) (t0 : List (List D)) (t8 t9 : Int) (b4_0 : ByteArray) (b4_1 : Int) (b4_2 : Bool) (b4_3 b4_4 b4_5 b5_0 b5_1 : Int) (b7_0 : ByteArray) (b7_1 : Int) (b7_2 : Bool) (b7_3 b7_4 b7_5 : Int) (b10_0 : ByteArray) (b10_2 : Bool) (b10_4 b10_5 : Int) (w : Nat) : exec lv1i (n + 74) (11, Go.Proofs.Tryd.f11, 0) fitk4 (fits4 t0 t8 t9 false b4_0 b4_1 b4_2 b4_3 b4_4 b4_5 b5_0 b5_1 b7_0 b7_1 b7_2 b7_3 b7_4 b7_5 b10_0 (2 : Int) b10_2 (Int.ofNat w) b10_4 b10_5) = Tr.val lv1i (11, Go.Proofs.Tryd.f11, 0) n (fitt4e t0 t8 t9 b4_0 b4_1 b4_2 b4_3 b4_4 b4_5 b5_0 b5_1 b7_0 b7_1 b7_2 b7_3 b7_4 b7_5 b10_5) := by kernel_rfl
noncomputable def fitt5 (t0 : List (List D)) (t8 t9 : Int) (t162 : Bool) (b4_0 : ByteArray) (b4_1 : Int) (b4_2 : Bool) (b4_3 b4_4 b4_5 b5_0 b5_1 : Int) (b7_0 : ByteArray) (b7_1 : Int) (b7_2 : Bool) (b7_3 b7_4 b7_5 : Int) : Tr := (.ask (t162)
  (.ret (.val (.bool (false)), []))
  (.go 0 fitk3 (fits3 (t0) (t8) (IntKind.wrap .i64 (t9 + (1 : Int))) (b4_0) (b4_1) (b4_2) (b4_3) (b4_4) (b4_5) (b5_0) (b5_1) (b7_0) (b7_1) (b7_2) (b7_3) (b7_4) (b7_5))))
set_option maxRecDepth 100000 in
theorem fitp5 (n : Nat) (t0 : List (List D)) (t8 t9 : Int) (t162 : Bool) (b4_0 : ByteArray) (b4_1 : Int) (b4_2 : Bool) (b4_3 b4_4 b4_5 b5_0 b5_1 : Int) (b7_0 : ByteArray) (b7_1 : Int) (b7_2 : Bool) (b7_3 b7_4 b7_5 : Int) : exec lv1i (n + 9) (11, Go.Proofs.Tryd.f11, 0) fitk5 (fits5 t0 t8 t9 t162 b4_0 b4_1 b4_2 b4_3 b4_4 b4_5 b5_0 b5_1 b7_0 b7_1 b7_2 b7_3 b7_4 b7_5) = Tr.val lv1i (11, Go.Proofs.Tryd.f11, 0) n (fitt5 t0 t8 t9 t162 b4_0 b4_1 b4_2 b4_3 b4_4 b4_5 b5_0 b5_1 b7_0 b7_1 b7_2 b7_3 b7_4 b7_5) := by kernel_rfl
noncomputable def rgtk0 : List T := [.code (sub (bodyOf Go.Proofs.Tryd.f3) [])]
def rgts0 (t0 : List (List D)) : St := ⟨[(0, .arr [.int .i64, .int .i64, .arr secC, .arr symC, .arr relC, .arr grpC, .arr [.bool]] t0)], []⟩
noncomputable def rgtk1 : List T := [.code (sub (bodyOf Go.Proofs.Tryd.f3) [1, 1, 1, 1, 1, 0, 1, 0]), .code (sub (bodyOf Go.Proofs.Tryd.f3) [1, 1, 1, 1, 1, 1])]
def rgts1 (t0 : List (List D)) (t3 : Bool) (t4 : List (List D)) (t24 : Bool) : St := ⟨[(0, .arr [.int .i64, .int .i64, .arr secC, .arr symC, .arr relC, .arr grpC, .arr [.bool]] t0), (3, .val (.bool t3)), (4, .arr [.arr [.int .i64, .int .i64]] t4), (24, .val (.bool t24))], []⟩
noncomputable def rgtk2 : List T := [.code (sub (bodyOf Go.Proofs.Tryd.f3) [1, 1, 1, 1, 1, 1, 1, 0, 1, 0, 0, 1, 0, 0, 1, 1, 0, 0, 1, 0, 0, 1, 1, 1, 1, 0, 0, 1, 0, 0, 1, 0, 0, 1, 0, 0, 1, 1, 1]), .code (sub (bodyOf Go.Proofs.Tryd.f3) [1, 1, 1, 1, 1, 1])]
def rgts2 (t0 : List (List D)) (t3 : Bool) (t4 : List (List D)) (t24 : Bool) : St := ⟨[(0, .arr [.int .i64, .int .i64, .arr secC, .arr symC, .arr relC, .arr grpC, .arr [.bool]] t0), (3, .val (.bool t3)), (4, .arr [.arr [.int .i64, .int .i64]] t4), (24, .val (.bool t24))], []⟩
noncomputable def rgtk3 : List T := [.code (sub (bodyOf Go.Proofs.Tryd.f3) [1, 1, 1, 1, 1, 1, 1, 0, 1, 0, 0]), .lp (sub (bodyOf Go.Proofs.Tryd.f3) [1, 1, 1, 1, 1, 1, 1, 0, 1, 0, 0]), .blk 0, .code (sub (bodyOf Go.Proofs.Tryd.f3) [1, 1, 1, 1, 1, 1, 1, 1])]
def rgts3 (t0 : List (List D)) (t3 : Bool) (t4 : List (List D)) (t6 : Int) : St := ⟨[(0, .arr [.int .i64, .int .i64, .arr secC, .arr symC, .arr relC, .arr grpC, .arr [.bool]] t0), (3, .val (.bool t3)), (4, .arr [.arr [.int .i64, .int .i64]] t4), (6, .val (.int .i64 t6))], []⟩
noncomputable def rgtk4 : List T := [.code (sub (bodyOf Go.Proofs.Tryd.f3) [1, 1, 1, 1, 1, 1, 1, 0, 1, 0, 0, 1, 0, 0, 0, 1]), .code (sub (bodyOf Go.Proofs.Tryd.f3) [1, 1, 1, 1, 1, 1, 1, 0, 1, 0, 0, 1, 0, 0, 1]), .blk 1, .code (sub (bodyOf Go.Proofs.Tryd.f3) [1, 1, 1, 1, 1, 1, 1, 0, 1, 0, 0, 1, 1]), .lp (sub (bodyOf Go.Proofs.Tryd.f3) [1, 1, 1, 1, 1, 1, 1, 0, 1, 0, 0]), .blk 0, .code (sub (bodyOf Go.Proofs.Tryd.f3) [1, 1, 1, 1, 1, 1, 1, 1])]
def rgts4 (t0 : List (List D)) (t3 : Bool) (t4 : List (List D)) (t6 : Int) (t54 : Bool) : St := ⟨[(0, .arr [.int .i64, .int .i64, .arr secC, .arr symC, .arr relC, .arr grpC, .arr [.bool]] t0), (3, .val (.bool t3)), (4, .arr [.arr [.int .i64, .int .i64]] t4), (6, .val (.int .i64 t6)), (54, .val (.bool t54))], []⟩
noncomputable def rgtk5 : List T := [.code (sub (bodyOf Go.Proofs.Tryd.f3) [1, 1, 1, 1, 1, 1, 1, 0, 1, 0, 0, 1, 0, 0, 1, 1, 0, 0]), .lp (sub (bodyOf Go.Proofs.Tryd.f3) [1, 1, 1, 1, 1, 1, 1, 0, 1, 0, 0, 1, 0, 0, 1, 1, 0, 0]), .blk 2, .blk 1, .code (sub (bodyOf Go.Proofs.Tryd.f3) [1, 1, 1, 1, 1, 1, 1, 0, 1, 0, 0, 1, 1]), .lp (sub (bodyOf Go.Proofs.Tryd.f3) [1, 1, 1, 1, 1, 1, 1, 0, 1, 0, 0]), .blk 0, .code (sub (bodyOf Go.Proofs.Tryd.f3) [1, 1, 1, 1, 1, 1, 1, 1])]
def rgts5 (t0 : List (List D)) (t3 : Bool) (t4 : List (List D)) (t6 t7 : Int) : St := ⟨[(0, .arr [.int .i64, .int .i64, .arr secC, .arr symC, .arr relC, .arr grpC, .arr [.bool]] t0), (3, .val (.bool t3)), (4, .arr [.arr [.int .i64, .int .i64]] t4), (6, .val (.int .i64 t6)), (7, .val (.int .i64 t7))], []⟩
noncomputable def rgtk6 : List T := [.code (sub (bodyOf Go.Proofs.Tryd.f3) [1, 1, 1, 1, 1, 1, 1, 0, 1, 0, 0, 1, 0, 0, 1, 1, 0, 0, 1, 0, 0, 1]), .blk 3, .code (sub (bodyOf Go.Proofs.Tryd.f3) [1, 1, 1, 1, 1, 1, 1, 0, 1, 0, 0, 1, 0, 0, 1, 1, 0, 0, 1, 1]), .lp (sub (bodyOf Go.Proofs.Tryd.f3) [1, 1, 1, 1, 1, 1, 1, 0, 1, 0, 0, 1, 0, 0, 1, 1, 0, 0]), .blk 2, .blk 1, .code (sub (bodyOf Go.Proofs.Tryd.f3) [1, 1, 1, 1, 1, 1, 1, 0, 1, 0, 0, 1, 1]), .lp (sub (bodyOf Go.Proofs.Tryd.f3) [1, 1, 1, 1, 1, 1, 1, 0, 1, 0, 0]), .blk 0, .code (sub (bodyOf Go.Proofs.Tryd.f3) [1, 1, 1, 1, 1, 1, 1, 1])]
def rgts6 (t0 : List (List D)) (t3 : Bool) (t4 : List (List D)) (t6 t7 : Int) (b8_0 : ByteArray) (b8_1 : Int) (b8_2 : Bool) (b8_3 b8_4 b8_5 : Int) : St := ⟨[(0, .arr [.int .i64, .int .i64, .arr secC, .arr symC, .arr relC, .arr grpC, .arr [.bool]] t0), (3, .val (.bool t3)), (4, .arr [.arr [.int .i64, .int .i64]] t4), (6, .val (.int .i64 t6)), (7, .val (.int .i64 t7)), (8, .ptr (.loc 8) 0)], [(.loc 8, [.val (.string b8_0), .val (.int .u8 b8_1), .val (.bool b8_2), .val (.int .i64 b8_3), .val (.int .i64 b8_4), .val (.int .i64 b8_5)])]⟩
noncomputable def rgtk7 : List T := [.code (sub (bodyOf Go.Proofs.Tryd.f3) [1, 1, 1, 1, 1, 1, 1, 0, 1, 0, 0, 1, 0, 0, 1, 1, 0, 0, 1, 0, 0, 1, 1, 0, 1]), .code (sub (bodyOf Go.Proofs.Tryd.f3) [1, 1, 1, 1, 1, 1, 1, 0, 1, 0, 0, 1, 0, 0, 1, 1, 0, 0, 1, 0, 0, 1, 1, 1]), .blk 3, .code (sub (bodyOf Go.Proofs.Tryd.f3) [1, 1, 1, 1, 1, 1, 1, 0, 1, 0, 0, 1, 0, 0, 1, 1, 0, 0, 1, 1]), .lp (sub (bodyOf Go.Proofs.Tryd.f3) [1, 1, 1, 1, 1, 1, 1, 0, 1, 0, 0, 1, 0, 0, 1, 1, 0, 0]), .blk 2, .blk 1, .code (sub (bodyOf Go.Proofs.Tryd.f3) [1, 1, 1, 1, 1, 1, 1, 0, 1, 0, 0, 1, 1]), .lp (sub (bodyOf Go.Proofs.Tryd.f3) [1, 1, 1, 1, 1, 1, 1, 0, 1, 0, 0]), .blk 0, .code (sub (bodyOf Go.Proofs.Tryd.f3) [1, 1, 1, 1, 1, 1, 1, 1])]
def rgts7 (t0 : List (List D)) (t3 : Bool) (t4 : List (List D)) (t6 t7 : Int) (t86 : Bool) (b8_0 : ByteArray) (b8_1 : Int) (b8_2 : Bool) (b8_3 b8_4 b8_5 : Int) : St := ⟨[(0, .arr [.int .i64, .int .i64, .arr secC, .arr symC, .arr relC, .arr grpC, .arr [.bool]] t0), (3, .val (.bool t3)), (4, .arr [.arr [.int .i64, .int .i64]] t4), (6, .val (.int .i64 t6)), (7, .val (.int .i64 t7)), (8, .ptr (.loc 8) 0), (86, .val (.bool t86))], [(.loc 8, [.val (.string b8_0), .val (.int .u8 b8_1), .val (.bool b8_2), .val (.int .i64 b8_3), .val (.int .i64 b8_4), .val (.int .i64 b8_5)])]⟩
noncomputable def rgtk8 : List T := [.code (sub (bodyOf Go.Proofs.Tryd.f3) [1, 1, 1, 1, 1, 1, 1, 0, 1, 0, 0, 1, 0, 0, 1, 1, 0, 0, 1, 0, 0, 1, 1, 1, 1, 0, 0]), .lp (sub (bodyOf Go.Proofs.Tryd.f3) [1, 1, 1, 1, 1, 1, 1, 0, 1, 0, 0, 1, 0, 0, 1, 1, 0, 0, 1, 0, 0, 1, 1, 1, 1, 0, 0]), .blk 4, .blk 3, .code (sub (bodyOf Go.Proofs.Tryd.f3) [1, 1, 1, 1, 1, 1, 1, 0, 1, 0, 0, 1, 0, 0, 1, 1, 0, 0, 1, 1]), .lp (sub (bodyOf Go.Proofs.Tryd.f3) [1, 1, 1, 1, 1, 1, 1, 0, 1, 0, 0, 1, 0, 0, 1, 1, 0, 0]), .blk 2, .blk 1, .code (sub (bodyOf Go.Proofs.Tryd.f3) [1, 1, 1, 1, 1, 1, 1, 0, 1, 0, 0, 1, 1]), .lp (sub (bodyOf Go.Proofs.Tryd.f3) [1, 1, 1, 1, 1, 1, 1, 0, 1, 0, 0]), .blk 0, .code (sub (bodyOf Go.Proofs.Tryd.f3) [1, 1, 1, 1, 1, 1, 1, 1])]
def rgts8 (t0 : List (List D)) (t3 : Bool) (t4 : List (List D)) (t6 t7 t9 : Int) (b8_0 : ByteArray) (b8_1 : Int) (b8_2 : Bool) (b8_3 b8_4 b8_5 : Int) : St := ⟨[(0, .arr [.int .i64, .int .i64, .arr secC, .arr symC, .arr relC, .arr grpC, .arr [.bool]] t0), (3, .val (.bool t3)), (4, .arr [.arr [.int .i64, .int .i64]] t4), (6, .val (.int .i64 t6)), (7, .val (.int .i64 t7)), (8, .ptr (.loc 8) 0), (9, .val (.int .i64 t9))], [(.loc 8, [.val (.string b8_0), .val (.int .u8 b8_1), .val (.bool b8_2), .val (.int .i64 b8_3), .val (.int .i64 b8_4), .val (.int .i64 b8_5)])]⟩
noncomputable def rgtk9 : List T := [.code (sub (bodyOf Go.Proofs.Tryd.f3) [1, 1, 1, 1, 1, 1, 1, 0, 1, 0, 0, 1, 0, 0, 1, 1, 0, 0, 1, 0, 0, 1, 1, 1, 1, 0, 0, 1, 0, 0, 1, 0, 0]), .lp (sub (bodyOf Go.Proofs.Tryd.f3) [1, 1, 1, 1, 1, 1, 1, 0, 1, 0, 0, 1, 0, 0, 1, 1, 0, 0, 1, 0, 0, 1, 1, 1, 1, 0, 0, 1, 0, 0, 1, 0, 0]), .blk 6, .blk 5, .code (sub (bodyOf Go.Proofs.Tryd.f3) [1, 1, 1, 1, 1, 1, 1, 0, 1, 0, 0, 1, 0, 0, 1, 1, 0, 0, 1, 0, 0, 1, 1, 1, 1, 0, 0, 1, 1]), .lp (sub (bodyOf Go.Proofs.Tryd.f3) [1, 1, 1, 1, 1, 1, 1, 0, 1, 0, 0, 1, 0, 0, 1, 1, 0, 0, 1, 0, 0, 1, 1, 1, 1, 0, 0]), .blk 4, .blk 3, .code (sub (bodyOf Go.Proofs.Tryd.f3) [1, 1, 1, 1, 1, 1, 1, 0, 1, 0, 0, 1, 0, 0, 1, 1, 0, 0, 1, 1]), .lp (sub (bodyOf Go.Proofs.Tryd.f3) [1, 1, 1, 1, 1, 1, 1, 0, 1, 0, 0, 1, 0, 0, 1, 1, 0, 0]), .blk 2, .blk 1, .code (sub (bodyOf Go.Proofs.Tryd.f3) [1, 1, 1, 1, 1, 1, 1, 0, 1, 0, 0, 1, 1]), .lp (sub (bodyOf Go.Proofs.Tryd.f3) [1, 1, 1, 1, 1, 1, 1, 0, 1, 0, 0]), .blk 0, .code (sub (bodyOf Go.Proofs.Tryd.f3) [1, 1, 1, 1, 1, 1, 1, 1])]
def rgts9 (t0 : List (List D)) (t3 : Bool) (t4 : List (List D)) (t6 t7 t9 t10 : Int) (b8_0 : ByteArray) (b8_1 : Int) (b8_2 : Bool) (b8_3 b8_4 b8_5 : Int) : St := ⟨[(0, .arr [.int .i64, .int .i64, .arr secC, .arr symC, .arr relC, .arr grpC, .arr [.bool]] t0), (3, .val (.bool t3)), (4, .arr [.arr [.int .i64, .int .i64]] t4), (6, .val (.int .i64 t6)), (7, .val (.int .i64 t7)), (8, .ptr (.loc 8) 0), (9, .val (.int .i64 t9)), (10, .val (.int .i64 t10))], [(.loc 8, [.val (.string b8_0), .val (.int .u8 b8_1), .val (.bool b8_2), .val (.int .i64 b8_3), .val (.int .i64 b8_4), .val (.int .i64 b8_5)])]⟩
noncomputable def rgtk10 : List T := [.code (sub (bodyOf Go.Proofs.Tryd.f3) [1, 1, 1, 1, 1, 1, 1, 0, 1, 0, 0, 1, 0, 0, 1, 1, 0, 0, 1, 0, 0, 1, 1, 1, 1, 0, 0, 1, 0, 0, 1, 0, 0, 0, 1]), .code (sub (bodyOf Go.Proofs.Tryd.f3) [1, 1, 1, 1, 1, 1, 1, 0, 1, 0, 0, 1, 0, 0, 1, 1, 0, 0, 1, 0, 0, 1, 1, 1, 1, 0, 0, 1, 0, 0, 1, 0, 0, 1]), .lp (sub (bodyOf Go.Proofs.Tryd.f3) [1, 1, 1, 1, 1, 1, 1, 0, 1, 0, 0, 1, 0, 0, 1, 1, 0, 0, 1, 0, 0, 1, 1, 1, 1, 0, 0, 1, 0, 0, 1, 0, 0]), .blk 6, .blk 5, .code (sub (bodyOf Go.Proofs.Tryd.f3) [1, 1, 1, 1, 1, 1, 1, 0, 1, 0, 0, 1, 0, 0, 1, 1, 0, 0, 1, 0, 0, 1, 1, 1, 1, 0, 0, 1, 1]), .lp (sub (bodyOf Go.Proofs.Tryd.f3) [1, 1, 1, 1, 1, 1, 1, 0, 1, 0, 0, 1, 0, 0, 1, 1, 0, 0, 1, 0, 0, 1, 1, 1, 1, 0, 0]), .blk 4, .blk 3, .code (sub (bodyOf Go.Proofs.Tryd.f3) [1, 1, 1, 1, 1, 1, 1, 0, 1, 0, 0, 1, 0, 0, 1, 1, 0, 0, 1, 1]), .lp (sub (bodyOf Go.Proofs.Tryd.f3) [1, 1, 1, 1, 1, 1, 1, 0, 1, 0, 0, 1, 0, 0, 1, 1, 0, 0]), .blk 2, .blk 1, .code (sub (bodyOf Go.Proofs.Tryd.f3) [1, 1, 1, 1, 1, 1, 1, 0, 1, 0, 0, 1, 1]), .lp (sub (bodyOf Go.Proofs.Tryd.f3) [1, 1, 1, 1, 1, 1, 1, 0, 1, 0, 0]), .blk 0, .code (sub (bodyOf Go.Proofs.Tryd.f3) [1, 1, 1, 1, 1, 1, 1, 1])]
def rgts10 (t0 : List (List D)) (t3 : Bool) (t4 : List (List D)) (t6 t7 t9 t10 : Int) (t110 : Bool) (b8_0 : ByteArray) (b8_1 : Int) (b8_2 : Bool) (b8_3 b8_4 b8_5 : Int) : St := ⟨[(0, .arr [.int .i64, .int .i64, .arr secC, .arr symC, .arr relC, .arr grpC, .arr [.bool]] t0), (3, .val (.bool t3)), (4, .arr [.arr [.int .i64, .int .i64]] t4), (6, .val (.int .i64 t6)), (7, .val (.int .i64 t7)), (8, .ptr (.loc 8) 0), (9, .val (.int .i64 t9)), (10, .val (.int .i64 t10)), (110, .val (.bool t110))], [(.loc 8, [.val (.string b8_0), .val (.int .u8 b8_1), .val (.bool b8_2), .val (.int .i64 b8_3), .val (.int .i64 b8_4), .val (.int .i64 b8_5)])]⟩
noncomputable def rgtk11 : List T := [.code (sub (bodyOf Go.Proofs.Tryd.f3) [1, 1, 1, 1, 1, 1, 1, 0, 1, 0, 0, 1, 0, 0, 1, 1, 0, 0, 1, 0, 0, 1, 1, 1, 1, 0, 0, 1, 0, 0, 1, 0, 0, 1, 0, 0, 1]), .blk 7, .code (sub (bodyOf Go.Proofs.Tryd.f3) [1, 1, 1, 1, 1, 1, 1, 0, 1, 0, 0, 1, 0, 0, 1, 1, 0, 0, 1, 0, 0, 1, 1, 1, 1, 0, 0, 1, 0, 0, 1, 0, 0, 1, 1]), .lp (sub (bodyOf Go.Proofs.Tryd.f3) [1, 1, 1, 1, 1, 1, 1, 0, 1, 0, 0, 1, 0, 0, 1, 1, 0, 0, 1, 0, 0, 1, 1, 1, 1, 0, 0, 1, 0, 0, 1, 0, 0]), .blk 6, .blk 5, .code (sub (bodyOf Go.Proofs.Tryd.f3) [1, 1, 1, 1, 1, 1, 1, 0, 1, 0, 0, 1, 0, 0, 1, 1, 0, 0, 1, 0, 0, 1, 1, 1, 1, 0, 0, 1, 1]), .lp (sub (bodyOf Go.Proofs.Tryd.f3) [1, 1, 1, 1, 1, 1, 1, 0, 1, 0, 0, 1, 0, 0, 1, 1, 0, 0, 1, 0, 0, 1, 1, 1, 1, 0, 0]), .blk 4, .blk 3, .code (sub (bodyOf Go.Proofs.Tryd.f3) [1, 1, 1, 1, 1, 1, 1, 0, 1, 0, 0, 1, 0, 0, 1, 1, 0, 0, 1, 1]), .lp (sub (bodyOf Go.Proofs.Tryd.f3) [1, 1, 1, 1, 1, 1, 1, 0, 1, 0, 0, 1, 0, 0, 1, 1, 0, 0]), .blk 2, .blk 1, .code (sub (bodyOf Go.Proofs.Tryd.f3) [1, 1, 1, 1, 1, 1, 1, 0, 1, 0, 0, 1, 1]), .lp (sub (bodyOf Go.Proofs.Tryd.f3) [1, 1, 1, 1, 1, 1, 1, 0, 1, 0, 0]), .blk 0, .code (sub (bodyOf Go.Proofs.Tryd.f3) [1, 1, 1, 1, 1, 1, 1, 1])]
def rgts11 (t0 : List (List D)) (t3 : Bool) (t4 : List (List D)) (t6 t7 t9 t10 : Int) (b8_0 : ByteArray) (b8_1 : Int) (b8_2 : Bool) (b8_3 b8_4 b8_5 : Int) (b11_0 : ByteArray) (b11_1 : Int) (b11_2 : Bool) (b11_3 b11_4 b11_5 : Int) : St := ⟨[(0, .arr [.int .i64, .int .i64, .arr secC, .arr symC, .arr relC, .arr grpC, .arr [.bool]] t0), (3, .val (.bool t3)), (4, .arr [.arr [.int .i64, .int .i64]] t4), (6, .val (.int .i64 t6)), (7, .val (.int .i64 t7)), (8, .ptr (.loc 8) 0), (9, .val (.int .i64 t9)), (10, .val (.int .i64 t10)), (11, .ptr (.loc 11) 0)], [(.loc 8, [.val (.string b8_0), .val (.int .u8 b8_1), .val (.bool b8_2), .val (.int .i64 b8_3), .val (.int .i64 b8_4), .val (.int .i64 b8_5)]), (.loc 11, [.val (.string b11_0), .val (.int .u8 b11_1), .val (.bool b11_2), .val (.int .i64 b11_3), .val (.int .i64 b11_4), .val (.int .i64 b11_5)])]⟩
noncomputable def rgtk12 : List T := [.code (sub (bodyOf Go.Proofs.Tryd.f3) [1, 1, 1, 1, 1, 1, 1, 0, 1, 0, 0, 1, 0, 0, 1, 1, 0, 0, 1, 0, 0, 1, 1, 1, 1, 0, 0, 1, 0, 0, 1, 0, 0, 1, 0, 0, 1, 1]), .blk 7, .code (sub (bodyOf Go.Proofs.Tryd.f3) [1, 1, 1, 1, 1, 1, 1, 0, 1, 0, 0, 1, 0, 0, 1, 1, 0, 0, 1, 0, 0, 1, 1, 1, 1, 0, 0, 1, 0, 0, 1, 0, 0, 1, 1]), .lp (sub (bodyOf Go.Proofs.Tryd.f3) [1, 1, 1, 1, 1, 1, 1, 0, 1, 0, 0, 1, 0, 0, 1, 1, 0, 0, 1, 0, 0, 1, 1, 1, 1, 0, 0, 1, 0, 0, 1, 0, 0]), .blk 6, .blk 5, .code (sub (bodyOf Go.Proofs.Tryd.f3) [1, 1, 1, 1, 1, 1, 1, 0, 1, 0, 0, 1, 0, 0, 1, 1, 0, 0, 1, 0, 0, 1, 1, 1, 1, 0, 0, 1, 1]), .lp (sub (bodyOf Go.Proofs.Tryd.f3) [1, 1, 1, 1, 1, 1, 1, 0, 1, 0, 0, 1, 0, 0, 1, 1, 0, 0, 1, 0, 0, 1, 1, 1, 1, 0, 0]), .blk 4, .blk 3, .code (sub (bodyOf Go.Proofs.Tryd.f3) [1, 1, 1, 1, 1, 1, 1, 0, 1, 0, 0, 1, 0, 0, 1, 1, 0, 0, 1, 1]), .lp (sub (bodyOf Go.Proofs.Tryd.f3) [1, 1, 1, 1, 1, 1, 1, 0, 1, 0, 0, 1, 0, 0, 1, 1, 0, 0]), .blk 2, .blk 1, .code (sub (bodyOf Go.Proofs.Tryd.f3) [1, 1, 1, 1, 1, 1, 1, 0, 1, 0, 0, 1, 1]), .lp (sub (bodyOf Go.Proofs.Tryd.f3) [1, 1, 1, 1, 1, 1, 1, 0, 1, 0, 0]), .blk 0, .code (sub (bodyOf Go.Proofs.Tryd.f3) [1, 1, 1, 1, 1, 1, 1, 1])]
def rgts12 (t0 : List (List D)) (t3 : Bool) (t4 : List (List D)) (t6 t7 t9 t10 : Int) (t148 : Bool) (b8_0 : ByteArray) (b8_1 : Int) (b8_2 : Bool) (b8_3 b8_4 b8_5 : Int) : St := ⟨[(0, .arr [.int .i64, .int .i64, .arr secC, .arr symC, .arr relC, .arr grpC, .arr [.bool]] t0), (3, .val (.bool t3)), (4, .arr [.arr [.int .i64, .int .i64]] t4), (6, .val (.int .i64 t6)), (7, .val (.int .i64 t7)), (8, .ptr (.loc 8) 0), (9, .val (.int .i64 t9)), (10, .val (.int .i64 t10)), (148, .val (.bool t148))], [(.loc 8, [.val (.string b8_0), .val (.int .u8 b8_1), .val (.bool b8_2), .val (.int .i64 b8_3), .val (.int .i64 b8_4), .val (.int .i64 b8_5)])]⟩
noncomputable def rgtt0 (t0 : List (List D)) : Tr := (.ask (grtL t0)
  (.ret (.val (.bool (true)), []))
  (.ask (Info.pre lv2i (10 : Nat) [handed [] (.arr [.int .i64, .int .i64, .arr secC, .arr symC, .arr relC, .arr grpC, .arr [.bool]] t0)] [])
  (.ask (bindE t0 != (0 : Int))
  (.go 0 rgtk1 (rgts1 (t0) (true) (if bindE t0 = (0 : Int) then bindD t0 else []) (true)))
  (.go 0 rgtk2 (rgts2 (t0) (true) (if bindE t0 = (0 : Int) then bindD t0 else []) (false))))
  .fail))
set_option maxRecDepth 100000 in
theorem rgtp0 (n : Nat) (t0 : List (List D)) : exec lv2i (n + 42) (3, Go.Proofs.Tryd.f3, 0) rgtk0 (rgts0 t0) = Tr.val lv2i (3, Go.Proofs.Tryd.f3, 0) n (rgtt0 t0) := by kernel_rfl
noncomputable def rgtt1 (t3 : Bool) (t4 : List (List D)) : Tr := (.ask (t3)
  (.ret (.val (.bool ((↑(List.length t4) : Int) == (0 : Int))), []))
  (.ret (.val (.bool (false)), [])))
set_option maxRecDepth 100000 in
theorem rgtp1 (n : Nat) (t0 : List (List D)) (t3 : Bool) (t4 : List (List D)) (t24 : Bool) : exec lv2i (n + 11) (3, Go.Proofs.Tryd.f3, 0) rgtk1 (rgts1 t0 t3 t4 t24) = Tr.val lv2i (3, Go.Proofs.Tryd.f3, 0) n (rgtt1 t3 t4) := by kernel_rfl
noncomputable def rgtt2 (t0 : List (List D)) (t3 : Bool) (t4 : List (List D)) : Tr := (.ask ((↑(List.length t4) : Int) != (↑(List.length t0) : Int))
  (.ret (.val (.bool (false)), []))
  (.go 0 rgtk3 (rgts3 (t0) (t3) (t4) ((0 : Int)))))
set_option maxRecDepth 100000 in
theorem rgtp2 (n : Nat) (t0 : List (List D)) (t3 : Bool) (t4 : List (List D)) (t24 : Bool) : exec lv2i (n + 19) (3, Go.Proofs.Tryd.f3, 0) rgtk2 (rgts2 t0 t3 t4 t24) = Tr.val lv2i (3, Go.Proofs.Tryd.f3, 0) n (rgtt2 t0 t3 t4) := by kernel_rfl
noncomputable def rgtt3 (t0 : List (List D)) (t3 : Bool) (t4 : List (List D)) (t6 : Int) : Tr := (.ask (decide (t6 < (↑(List.length t0) : Int)))
  (.ask (decide ((0 : Int) ≤ t6) && decide (t6 < (↑(List.length t4) : Int)))
  (.ask (decide ((0 : Int) ≤ t6) && decide (t6 < (↑(List.length t0) : Int)))
  (.go 0 rgtk4 (rgts4 (t0) (t3) (t4) (t6) ((↑(List.length (cellA t4 (Int.toNat t6) (0 : Nat))) : Int) != (↑(List.length (cellA t0 (Int.toNat t6) (3 : Nat))) : Int))))
  .fail)
  .fail)
  (.ret (.val (.bool (t3)), [])))
set_option maxRecDepth 100000 in
theorem rgtp3 (n : Nat) (t0 : List (List D)) (t3 : Bool) (t4 : List (List D)) (t6 : Int) : exec lv2i (n + 29) (3, Go.Proofs.Tryd.f3, 0) rgtk3 (rgts3 t0 t3 t4 t6) = Tr.val lv2i (3, Go.Proofs.Tryd.f3, 0) n (rgtt3 t0 t3 t4 t6) := by kernel_rfl
noncomputable def rgtt4 (t0 : List (List D)) (t3 : Bool) (t4 : List (List D)) (t6 : Int) (t54 : Bool) : Tr := (.ask (t54)
  (.ret (.val (.bool (false)), []))
  (.go 0 rgtk5 (rgts5 (t0) (t3) (t4) (t6) ((0 : Int)))))
set_option maxRecDepth 100000 in
theorem rgtp4 (n : Nat) (t0 : List (List D)) (t3 : Bool) (t4 : List (List D)) (t6 : Int) (t54 : Bool) : exec lv2i (n + 8) (3, Go.Proofs.Tryd.f3, 0) rgtk4 (rgts4 t0 t3 t4 t6 t54) = Tr.val lv2i (3, Go.Proofs.Tryd.f3, 0) n (rgtt4 t0 t3 t4 t6 t54) := by kernel_rfl
noncomputable def rgtt5 (t0 : List (List D)) (t3 : Bool) (t4 : List (List D)) (t6 t7 : Int) : Tr := (.ask (decide ((0 : Int) ≤ t6) && decide (t6 < (↑(List.length t4) : Int)))
  (.ask (decide (t7 < (↑(List.length (cellA t4 (Int.toNat t6) (0 : Nat))) : Int)))
  (.ask (decide ((0 : Int) ≤ t6) && decide (t6 < (↑(List.length t0) : Int)))
  (.ask (decide ((0 : Int) ≤ t7) && decide (t7 < (↑(List.length (cellA t0 (Int.toNat t6) (3 : Nat))) : Int)))
  (.go 0 rgtk6 (rgts6 (t0) (t3) (t4) (t6) (t7) (cellS (cellA t0 (Int.toNat t6) (3 : Nat)) (Int.toNat t7) (0 : Nat)) (cellI (cellA t0 (Int.toNat t6) (3 : Nat)) (Int.toNat t7) (1 : Nat)) (cellB (cellA t0 (Int.toNat t6) (3 : Nat)) (Int.toNat t7) (2 : Nat)) (cellI (cellA t0 (Int.toNat t6) (3 : Nat)) (Int.toNat t7) (3 : Nat)) (cellI (cellA t0 (Int.toNat t6) (3 : Nat)) (Int.toNat t7) (4 : Nat)) (cellI (cellA t0 (Int.toNat t6) (3 : Nat)) (Int.toNat t7) (5 : Nat))))
  .fail)
  .fail)
  (.go 9 rgtk3 (rgts3 (t0) (t3) (t4) (IntKind.wrap .i64 (t6 + (1 : Int))))))
  .fail)
set_option maxRecDepth 100000 in
theorem rgtp5 (n : Nat) (t0 : List (List D)) (t3 : Bool) (t4 : List (List D)) (t6 t7 : Int) : exec lv2i (n + 29) (3, Go.Proofs.Tryd.f3, 0) rgtk5 (rgts5 t0 t3 t4 t6 t7) = Tr.val lv2i (3, Go.Proofs.Tryd.f3, 0) n (rgtt5 t0 t3 t4 t6 t7) := by kernel_rfl
noncomputable def rgtt6 (t0 : List (List D)) (t3 : Bool) (t4 : List (List D)) (t6 t7 : Int) (b8_0 : ByteArray) (b8_1 : Int) (b8_2 : Bool) (b8_3 b8_4 b8_5 : Int) : Tr := (.ask (b8_1 == (0 : Int))
  (.go 9 rgtk5 (rgts5 (t0) (t3) (t4) (t6) (IntKind.wrap .i64 (t7 + (1 : Int)))))
  (.ask (decide ((0 : Int) ≤ t6) && decide (t6 < (↑(List.length t4) : Int)))
  (.ask (decide ((0 : Int) ≤ t7) && decide (t7 < (↑(List.length (cellA t4 (Int.toNat t6) (0 : Nat))) : Int)))
  (.ask (Info.pre lv2i (11 : Nat) [handed [] (.arr [.int .i64, .int .i64, .arr secC, .arr symC, .arr relC, .arr grpC, .arr [.bool]] t0), handed [] (.agg [V.val (Value.string b8_0), V.val (.int .u8 b8_1), V.val (Value.bool b8_2), V.val (.int .i64 b8_3), V.val (.int .i64 b8_4), V.val (.int .i64 b8_5)]), handed [] (.agg [V.val (.int .i64 (cellI (cellA t4 (Int.toNat t6) (0 : Nat)) (Int.toNat t7) (0 : Nat))), V.val (.int .i64 (cellI (cellA t4 (Int.toNat t6) (0 : Nat)) (Int.toNat t7) (1 : Nat)))])] [])
  (.go 0 rgtk7 (rgts7 (t0) (t3) (t4) (t6) (t7) (false) (b8_0) (b8_1) (b8_2) (b8_3) (b8_4) (b8_5)))
  .fail)
  .fail)
  .fail))
set_option maxRecDepth 100000 in
theorem rgtp6 (n : Nat) (t0 : List (List D)) (t3 : Bool) (t4 : List (List D)) (t6 t7 : Int) (b8_0 : ByteArray) (b8_1 : Int) (b8_2 : Bool) (b8_3 b8_4 b8_5 : Int) : exec lv2i (n + 24) (3, Go.Proofs.Tryd.f3, 0) rgtk6 (rgts6 t0 t3 t4 t6 t7 b8_0 b8_1 b8_2 b8_3 b8_4 b8_5) = Tr.val lv2i (3, Go.Proofs.Tryd.f3, 0) n (rgtt6 t0 t3 t4 t6 t7 b8_0 b8_1 b8_2 b8_3 b8_4 b8_5) := by kernel_rfl
noncomputable def rgtt7 (t0 : List (List D)) (t3 : Bool) (t4 : List (List D)) (t6 t7 : Int) (t86 : Bool) (b8_0 : ByteArray) (b8_1 : Int) (b8_2 : Bool) (b8_3 b8_4 b8_5 : Int) : Tr := (.ask (t86)
  (.ret (.val (.bool (false)), []))
  (.go 0 rgtk8 (rgts8 (t0) (t3) (t4) (t6) (t7) ((0 : Int)) (b8_0) (b8_1) (b8_2) (b8_3) (b8_4) (b8_5))))
set_option maxRecDepth 100000 in
theorem rgtp7 (n : Nat) (t0 : List (List D)) (t3 : Bool) (t4 : List (List D)) (t6 t7 : Int) (t86 : Bool) (b8_0 : ByteArray) (b8_1 : Int) (b8_2 : Bool) (b8_3 b8_4 b8_5 : Int) : exec lv2i (n + 8) (3, Go.Proofs.Tryd.f3, 0) rgtk7 (rgts7 t0 t3 t4 t6 t7 t86 b8_0 b8_1 b8_2 b8_3 b8_4 b8_5) = Tr.val lv2i (3, Go.Proofs.Tryd.f3, 0) n (rgtt7 t0 t3 t4 t6 t7 t86 b8_0 b8_1 b8_2 b8_3 b8_4 b8_5) := by kernel_rfl
noncomputable def rgtt8 (t0 : List (List D)) (t3 : Bool) (t4 : List (List D)) (t6 t7 t9 : Int) (b8_0 : ByteArray) (b8_1 : Int) (b8_2 : Bool) (b8_3 b8_4 b8_5 : Int) : Tr := (.ask (decide (t9 < (↑(List.length t0) : Int)))
  (.go 0 rgtk9 (rgts9 (t0) (t3) (t4) (t6) (t7) (t9) ((0 : Int)) (b8_0) (b8_1) (b8_2) (b8_3) (b8_4) (b8_5)))
  (.go 1 rgtk5 (rgts5 (t0) (t3) (t4) (t6) (IntKind.wrap .i64 (t7 + (1 : Int))))))
set_option maxRecDepth 100000 in
theorem rgtp8 (n : Nat) (t0 : List (List D)) (t3 : Bool) (t4 : List (List D)) (t6 t7 t9 : Int) (b8_0 : ByteArray) (b8_1 : Int) (b8_2 : Bool) (b8_3 b8_4 b8_5 : Int) : exec lv2i (n + 18) (3, Go.Proofs.Tryd.f3, 0) rgtk8 (rgts8 t0 t3 t4 t6 t7 t9 b8_0 b8_1 b8_2 b8_3 b8_4 b8_5) = Tr.val lv2i (3, Go.Proofs.Tryd.f3, 0) n (rgtt8 t0 t3 t4 t6 t7 t9 b8_0 b8_1 b8_2 b8_3 b8_4 b8_5) := by kernel_rfl
noncomputable def rgtt9 (t0 : List (List D)) (t3 : Bool) (t4 : List (List D)) (t6 t7 t9 t10 : Int) (b8_0 : ByteArray) (b8_1 : Int) (b8_2 : Bool) (b8_3 b8_4 b8_5 : Int) : Tr := (.ask (decide ((0 : Int) ≤ t9) && decide (t9 < (↑(List.length t0) : Int)))
  (.ask (decide (t10 < (↑(List.length (cellA t0 (Int.toNat t9) (3 : Nat))) : Int)))
  (.ask (decide ((0 : Int) ≤ t9) && decide (t9 < (↑(List.length t4) : Int)))
  (.go 9 rgtk10 (rgts10 (t0) (t3) (t4) (t6) (t7) (t9) (t10) (decide (t10 < (↑(List.length (cellA t4 (Int.toNat t9) (0 : Nat))) : Int))) (b8_0) (b8_1) (b8_2) (b8_3) (b8_4) (b8_5)))
  .fail)
  (.go 0 rgtk8 (rgts8 (t0) (t3) (t4) (t6) (t7) (IntKind.wrap .i64 (t9 + (1 : Int))) (b8_0) (b8_1) (b8_2) (b8_3) (b8_4) (b8_5))))
  .fail)
set_option maxRecDepth 100000 in
theorem rgtp9 (n : Nat) (t0 : List (List D)) (t3 : Bool) (t4 : List (List D)) (t6 t7 t9 t10 : Int) (b8_0 : ByteArray) (b8_1 : Int) (b8_2 : Bool) (b8_3 b8_4 b8_5 : Int) : exec lv2i (n + 31) (3, Go.Proofs.Tryd.f3, 0) rgtk9 (rgts9 t0 t3 t4 t6 t7 t9 t10 b8_0 b8_1 b8_2 b8_3 b8_4 b8_5) = Tr.val lv2i (3, Go.Proofs.Tryd.f3, 0) n (rgtt9 t0 t3 t4 t6 t7 t9 t10 b8_0 b8_1 b8_2 b8_3 b8_4 b8_5) := by kernel_rfl
noncomputable def rgtt10 (t0 : List (List D)) (t3 : Bool) (t4 : List (List D)) (t6 t7 t9 t10 : Int) (t110 : Bool) (b8_0 : ByteArray) (b8_1 : Int) (b8_2 : Bool) (b8_3 b8_4 b8_5 : Int) : Tr := (.ask (t110)
  (.ask (decide ((0 : Int) ≤ t9) && decide (t9 < (↑(List.length t0) : Int)))
  (.ask (decide ((0 : Int) ≤ t10) && decide (t10 < (↑(List.length (cellA t0 (Int.toNat t9) (3 : Nat))) : Int)))
  (.go 0 rgtk11 (rgts11 (t0) (t3) (t4) (t6) (t7) (t9) (t10) (b8_0) (b8_1) (b8_2) (b8_3) (b8_4) (b8_5) (cellS (cellA t0 (Int.toNat t9) (3 : Nat)) (Int.toNat t10) (0 : Nat)) (cellI (cellA t0 (Int.toNat t9) (3 : Nat)) (Int.toNat t10) (1 : Nat)) (cellB (cellA t0 (Int.toNat t9) (3 : Nat)) (Int.toNat t10) (2 : Nat)) (cellI (cellA t0 (Int.toNat t9) (3 : Nat)) (Int.toNat t10) (3 : Nat)) (cellI (cellA t0 (Int.toNat t9) (3 : Nat)) (Int.toNat t10) (4 : Nat)) (cellI (cellA t0 (Int.toNat t9) (3 : Nat)) (Int.toNat t10) (5 : Nat))))
  .fail)
  .fail)
  (.go 9 rgtk8 (rgts8 (t0) (t3) (t4) (t6) (t7) (IntKind.wrap .i64 (t9 + (1 : Int))) (b8_0) (b8_1) (b8_2) (b8_3) (b8_4) (b8_5))))
set_option maxRecDepth 100000 in
theorem rgtp10 (n : Nat) (t0 : List (List D)) (t3 : Bool) (t4 : List (List D)) (t6 t7 t9 t10 : Int) (t110 : Bool) (b8_0 : ByteArray) (b8_1 : Int) (b8_2 : Bool) (b8_3 b8_4 b8_5 : Int) : exec lv2i (n + 18) (3, Go.Proofs.Tryd.f3, 0) rgtk10 (rgts10 t0 t3 t4 t6 t7 t9 t10 t110 b8_0 b8_1 b8_2 b8_3 b8_4 b8_5) = Tr.val lv2i (3, Go.Proofs.Tryd.f3, 0) n (rgtt10 t0 t3 t4 t6 t7 t9 t10 t110 b8_0 b8_1 b8_2 b8_3 b8_4 b8_5) := by kernel_rfl
noncomputable def rgtt11 (t0 : List (List D)) (t3 : Bool) (t4 : List (List D)) (t6 t7 t9 t10 : Int) (b8_0 : ByteArray) (b8_1 : Int) (b8_2 : Bool) (b8_3 b8_4 b8_5 : Int) (b11_0 : ByteArray) (b11_1 : Int) : Tr := (.ask (b11_1 != (0 : Int))
  (.ask (ByteArray.toList b11_0 == ByteArray.toList b8_0)
  (.ask (decide ((0 : Int) ≤ t9) && decide (t9 < (↑(List.length t4) : Int)))
  (.ask (decide ((0 : Int) ≤ t10) && decide (t10 < (↑(List.length (cellA t4 (Int.toNat t9) (0 : Nat))) : Int)))
  (.ask (decide ((0 : Int) ≤ t6) && decide (t6 < (↑(List.length t4) : Int)))
  (.ask (decide ((0 : Int) ≤ t7) && decide (t7 < (↑(List.length (cellA t4 (Int.toNat t6) (0 : Nat))) : Int)))
  (.go 9 rgtk12 (rgts12 (t0) (t3) (t4) (t6) (t7) (t9) (t10) (!(cellI (cellA t4 (Int.toNat t9) (0 : Nat)) (Int.toNat t10) (0 : Nat) == cellI (cellA t4 (Int.toNat t6) (0 : Nat)) (Int.toNat t7) (0 : Nat) && (cellI (cellA t4 (Int.toNat t9) (0 : Nat)) (Int.toNat t10) (1 : Nat) == cellI (cellA t4 (Int.toNat t6) (0 : Nat)) (Int.toNat t7) (1 : Nat) && true))) (b8_0) (b8_1) (b8_2) (b8_3) (b8_4) (b8_5)))
  .fail)
  .fail)
  .fail)
  .fail)
  (.go 0 rgtk9 (rgts9 (t0) (t3) (t4) (t6) (t7) (t9) (IntKind.wrap .i64 (t10 + (1 : Int))) (b8_0) (b8_1) (b8_2) (b8_3) (b8_4) (b8_5))))
  (.go 0 rgtk9 (rgts9 (t0) (t3) (t4) (t6) (t7) (t9) (IntKind.wrap .i64 (t10 + (1 : Int))) (b8_0) (b8_1) (b8_2) (b8_3) (b8_4) (b8_5))))
set_option maxRecDepth 100000 in
theorem rgtp11 (n : Nat) (t0 : List (List D)) (t3 : Bool) (t4 : List (List D)) (t6 t7 t9 t10 : Int) (b8_0 : ByteArray) (b8_1 : Int) (b8_2 : Bool) (b8_3 b8_4 b8_5 : Int) (b11_0 : ByteArray) (b11_1 : Int) (b11_2 : Bool) (b11_3 b11_4 b11_5 : Int) : exec lv2i (n + 39) (3, Go.Proofs.Tryd.f3, 0) rgtk11 (rgts11 t0 t3 t4 t6 t7 t9 t10 b8_0 b8_1 b8_2 b8_3 b8_4 b8_5 b11_0 b11_1 b11_2 b11_3 b11_4 b11_5) = Tr.val lv2i (3, Go.Proofs.Tryd.f3, 0) n (rgtt11 t0 t3 t4 t6 t7 t9 t10 b8_0 b8_1 b8_2 b8_3 b8_4 b8_5 b11_0 b11_1) := by kernel_rfl
noncomputable def rgtt12 (t0 : List (List D)) (t3 : Bool) (t4 : List (List D)) (t6 t7 t9 t10 : Int) (t148 : Bool) (b8_0 : ByteArray) (b8_1 : Int) (b8_2 : Bool) (b8_3 b8_4 b8_5 : Int) : Tr := (.ask (t148)
  (.ret (.val (.bool (false)), []))
  (.go 0 rgtk9 (rgts9 (t0) (t3) (t4) (t6) (t7) (t9) (IntKind.wrap .i64 (t10 + (1 : Int))) (b8_0) (b8_1) (b8_2) (b8_3) (b8_4) (b8_5))))
set_option maxRecDepth 100000 in
theorem rgtp12 (n : Nat) (t0 : List (List D)) (t3 : Bool) (t4 : List (List D)) (t6 t7 t9 t10 : Int) (t148 : Bool) (b8_0 : ByteArray) (b8_1 : Int) (b8_2 : Bool) (b8_3 b8_4 b8_5 : Int) : exec lv2i (n + 9) (3, Go.Proofs.Tryd.f3, 0) rgtk12 (rgts12 t0 t3 t4 t6 t7 t9 t10 t148 b8_0 b8_1 b8_2 b8_3 b8_4 b8_5) = Tr.val lv2i (3, Go.Proofs.Tryd.f3, 0) n (rgtt12 t0 t3 t4 t6 t7 t9 t10 t148 b8_0 b8_1 b8_2 b8_3 b8_4 b8_5) := by kernel_rfl
end Go.Proofs.YtacfehneeanlgaaDoor.Ev
