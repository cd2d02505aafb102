/- What the pieces of the runs come to, as a program printed it: each is checked by the kernel. -/
import Derived.Test.YtacfehneeanlgaaDoorEoD
namespace Go.Proofs.YtacfehneeanlgaaDoor.Ev
open Go
set_option linter.unusedVariables false
noncomputable def aptk0 : List T := [.code (sub (bodyOf Go.Proofs.Tryd.f48) [])]
def apts0 (t0_0 t0_1 t0_2 t0_3 t0_4 t1_0 t1_1 t1_2 t1_3 t1_4 : Int) : St := ⟨[(0, .agg [.val (.int .i64 t0_0), .val (.int .i64 t0_1), .val (.int .u8 t0_2), .val (.int .i64 t0_3), .val (.int .i64 t0_4)]), (1, .agg [.val (.int .i64 t1_0), .val (.int .i64 t1_1), .val (.int .u8 t1_2), .val (.int .i64 t1_3), .val (.int .i64 t1_4)])], []⟩
noncomputable def aptt0 (t0_1 t0_2 t0_4 t1_1 t1_2 t1_4 : Int) : Tr := (.ask (t0_1 == spanTo t0_1 t0_2 t0_4)
  (.ret (.val (.bool (true)), []))
  (.ask (t1_1 == spanTo t1_1 t1_2 t1_4)
  (.ret (.val (.bool (true)), []))
  (.ask (decide (spanTo t0_1 t0_2 t0_4 ≤ t1_1))
  (.ret (.val (.bool (true)), []))
  (.ask (decide (spanTo t1_1 t1_2 t1_4 ≤ t0_1))
  (.ret (.val (.bool (true)), []))
  (.ask (t0_1 == t1_1)
  (.ret (.val (.bool (sumsB t0_2 t1_2)), []))
  (.ret (.val (.bool (false)), [])))))))
set_option maxRecDepth 100000 in
theorem aptp0 (n : Nat) (t0_0 t0_1 t0_2 t0_3 t0_4 t1_0 t1_1 t1_2 t1_3 t1_4 : Int) : exec en1 (n + 59) (48, Go.Proofs.Tryd.f48, 0) aptk0 (apts0 t0_0 t0_1 t0_2 t0_3 t0_4 t1_0 t1_1 t1_2 t1_3 t1_4) = Tr.val en1 (48, Go.Proofs.Tryd.f48, 0) n (aptt0 t0_1 t0_2 t0_4 t1_1 t1_2 t1_4) := by kernel_rfl
noncomputable def rckk0 : List T := [.code (sub (bodyOf Go.Proofs.Tryd.f46) [])]
def rcks0 (t0_0 t0_1 t0_2 t0_3 t0_4 : Int) (t1 : List (List D)) (t2 : Int) : St := ⟨[(0, .agg [.val (.int .i64 t0_0), .val (.int .i64 t0_1), .val (.int .u8 t0_2), .val (.int .i64 t0_3), .val (.int .i64 t0_4)]), (1, .arr secC t1), (2, .val (.int .i64 t2))], []⟩
noncomputable def rckk1 : List T := [.code (sub (bodyOf Go.Proofs.Tryd.f46) [1, 1, 1, 0, 1, 0, 0]), .lp (sub (bodyOf Go.Proofs.Tryd.f46) [1, 1, 1, 0, 1, 0, 0]), .blk 0, .code (sub (bodyOf Go.Proofs.Tryd.f46) [1, 1, 1, 1])]
def rcks1 (t1 : List (List D)) (t2 : Int) (t19 : List (List D)) (t20 t21 b3_0 b3_1 b3_2 b3_3 b3_4 : Int) : St := ⟨[(1, .arr secC t1), (2, .val (.int .i64 t2)), (3, .ptr (.loc 3) 0), (19, .arr secC t19), (20, .val (.int .i64 t20)), (21, .val (.int .i64 t21))], [(.loc 3, [.val (.int .i64 b3_0), .val (.int .i64 b3_1), .val (.int .u8 b3_2), .val (.int .i64 b3_3), .val (.int .i64 b3_4)])]⟩
noncomputable def rckt0 (t0_0 t0_1 t0_2 t0_3 t0_4 : Int) (t1 : List (List D)) (t2 : Int) : Tr := (.ask (decide ((↑(List.length t1) : Int) > (16 : Int)))
  (.ret (.val (.int .i64 ((4 : Int))), []))
  (.ask (decide (t2 < (0 : Int)))
  (.ret (.val (.int .i64 ((2 : Int))), []))
  (.ask (decide (t2 > (64 : Int)))
  (.ret (.val (.int .i64 ((2 : Int))), []))
  (.go 0 rckk1 (rcks1 (t1) (t2) (t1) ((↑(List.length t1) : Int)) ((0 : Int)) (t0_0) (t0_1) (t0_2) (t0_3) (t0_4))))))
set_option maxRecDepth 100000 in
theorem rckp0 (n : Nat) (t0_0 t0_1 t0_2 t0_3 t0_4 : Int) (t1 : List (List D)) (t2 : Int) : exec eo2 (n + 35) (46, Go.Proofs.Tryd.f46, 0) rckk0 (rcks0 t0_0 t0_1 t0_2 t0_3 t0_4 t1 t2) = Tr.val eo2 (46, Go.Proofs.Tryd.f46, 0) n (rckt0 t0_0 t0_1 t0_2 t0_3 t0_4 t1 t2) := by kernel_rfl
noncomputable def rckt1 (t1 : List (List D)) (t2 : Int) (t19 : List (List D)) (t20 t21 b3_0 b3_1 b3_2 b3_3 b3_4 : Int) : Tr := (.ask (decide (t21 < t20))
  (.ask (decide ((0 : Int) ≤ t21) && decide (t21 < (↑(List.length t19) : Int)))
  (.ask (secE (cellS t19 (Int.toNat t21) (0 : Nat)) (cellI t19 (Int.toNat t21) (1 : Nat)) (↑(List.length (cellA t19 (Int.toNat t21) (2 : Nat))) : Int) (cellI t19 (Int.toNat t21) (3 : Nat)) != (0 : Int))
  (.ret (.val (.int .i64 (secE (cellS t19 (Int.toNat t21) (0 : Nat)) (cellI t19 (Int.toNat t21) (1 : Nat)) (↑(List.length (cellA t19 (Int.toNat t21) (2 : Nat))) : Int) (cellI t19 (Int.toNat t21) (3 : Nat)))), []))
  (.go 5 rckk1 (rcks1 (t1) (t2) (t19) (t20) (IntKind.wrap .i64 (t21 + (1 : Int))) (b3_0) (b3_1) (b3_2) (b3_3) (b3_4))))
  .fail)
  (.ask (decide (b3_0 < (1 : Int)))
  (.ret (.val (.int .i64 ((8 : Int))), []))
  (.ask (decide (b3_0 > (↑(List.length t1) : Int)))
  (.ret (.val (.int .i64 ((8 : Int))), []))
  (.ask (decide ((0 : Int) ≤ IntKind.wrap .i64 (b3_0 - (1 : Int))) && decide (IntKind.wrap .i64 (b3_0 - (1 : Int)) < (↑(List.length t1) : Int)))
  (.ask (pMay [normV CK.no (handed [] (.agg [V.val (.int .i64 b3_0), V.val (.int .i64 b3_1), V.val (.int .u8 b3_2), V.val (.int .i64 b3_3), V.val (.int .i64 b3_4)])), normV (.ag [none, none, some u8s]) (handed [] (.agg [V.val (Value.string (cellS t1 (Int.toNat (IntKind.wrap .i64 (b3_0 - (1 : Int)))) (0 : Nat))), V.val (.int .i64 (cellI t1 (Int.toNat (IntKind.wrap .i64 (b3_0 - (1 : Int)))) (1 : Nat))), V.arr u8s (cellA t1 (Int.toNat (IntKind.wrap .i64 (b3_0 - (1 : Int)))) (2 : Nat)), V.val (.int .i64 (cellI t1 (Int.toNat (IntKind.wrap .i64 (b3_0 - (1 : Int)))) (3 : Nat)))])), normV CK.no (handed [] (.val (.int .i64 t2)))])
  (.ask (!mayB b3_1 b3_2 b3_3 b3_4 (cellS t1 (Int.toNat (IntKind.wrap .i64 (b3_0 - (1 : Int)))) (0 : Nat)) (cellA t1 (Int.toNat (IntKind.wrap .i64 (b3_0 - (1 : Int)))) (2 : Nat)) t2)
  (.ret (.val (.int .i64 ((8 : Int))), []))
  (.ret (z0, [])))
  .fail)
  .fail))))
set_option maxRecDepth 100000 in
theorem rckp1 (n : Nat) (t1 : List (List D)) (t2 : Int) (t19 : List (List D)) (t20 t21 b3_0 b3_1 b3_2 b3_3 b3_4 : Int) : exec eo2 (n + 40) (46, Go.Proofs.Tryd.f46, 0) rckk1 (rcks1 t1 t2 t19 t20 t21 b3_0 b3_1 b3_2 b3_3 b3_4) = Tr.val eo2 (46, Go.Proofs.Tryd.f46, 0) n (rckt1 t1 t2 t19 t20 t21 b3_0 b3_1 b3_2 b3_3 b3_4) := by kernel_rfl
end Go.Proofs.YtacfehneeanlgaaDoor.Ev
