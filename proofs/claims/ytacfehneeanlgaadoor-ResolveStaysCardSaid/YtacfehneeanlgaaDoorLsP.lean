/- What the pieces of the runs come to, as a program printed it: each is checked by the kernel. -/
import Derived.Test.YtacfehneeanlgaaDoorLsD
namespace Go.Proofs.YtacfehneeanlgaaDoor.Ev
open Go
set_option linter.unusedVariables false
noncomputable def grtk0 : List T := [.code (sub (bodyOf Go.Proofs.Tryd.f21) [])]
def grts0 (t0_0 t0_1 t0_2 t0_3 : List (List D)) : St := ⟨[(0, .agg [.arr secC t0_0, .arr symC t0_1, .arr relC t0_2, .arr grpC t0_3])], []⟩
noncomputable def grtk1 : List T := [.code (sub (bodyOf Go.Proofs.Tryd.f21) [1, 1, 0, 1, 0, 0]), .lp (sub (bodyOf Go.Proofs.Tryd.f21) [1, 1, 0, 1, 0, 0]), .blk 0, .code (sub (bodyOf Go.Proofs.Tryd.f21) [1, 1, 1])]
def grts1 (t3 t4 : Int) (b1_0 b1_1 b1_2 b1_3 : List (List D)) : St := ⟨[(1, .ptr (.loc 1) 0), (3, .val (.int .i64 t3)), (4, .val (.int .i64 t4))], [(.loc 1, [.arr secC b1_0, .arr symC b1_1, .arr relC b1_2, .arr grpC b1_3])]⟩
noncomputable def grtk2 : List T := [.code (sub (bodyOf Go.Proofs.Tryd.f21) [1, 1, 1, 0, 1, 0, 0]), .lp (sub (bodyOf Go.Proofs.Tryd.f21) [1, 1, 1, 0, 1, 0, 0]), .blk 2, .code (sub (bodyOf Go.Proofs.Tryd.f21) [1, 1, 1, 1])]
def grts2 (t3 t5 : Int) (b1_0 b1_1 b1_2 b1_3 : List (List D)) : St := ⟨[(1, .ptr (.loc 1) 0), (3, .val (.int .i64 t3)), (5, .val (.int .i64 t5))], [(.loc 1, [.arr secC b1_0, .arr symC b1_1, .arr relC b1_2, .arr grpC b1_3])]⟩
noncomputable def grtk3 : List T := [.code (sub (bodyOf Go.Proofs.Tryd.f21) [1, 1, 1, 1, 0, 1, 0, 0]), .lp (sub (bodyOf Go.Proofs.Tryd.f21) [1, 1, 1, 1, 0, 1, 0, 0]), .blk 4, .code (sub (bodyOf Go.Proofs.Tryd.f21) [1, 1, 1, 1, 1])]
def grts3 (t3 t6 : Int) (b1_0 b1_1 b1_2 b1_3 : List (List D)) : St := ⟨[(1, .ptr (.loc 1) 0), (3, .val (.int .i64 t3)), (6, .val (.int .i64 t6))], [(.loc 1, [.arr secC b1_0, .arr symC b1_1, .arr relC b1_2, .arr grpC b1_3])]⟩
noncomputable def grtt0 (t0_0 t0_1 t0_2 t0_3 : List (List D)) : Tr := (.go 0 grtk1 (grts1 ((0 : Int)) ((0 : Int)) (t0_0) (t0_1) (t0_2) (t0_3)))
set_option maxRecDepth 100000 in
theorem grtp0 (n : Nat) (t0_0 t0_1 t0_2 t0_3 : List (List D)) : exec ld0i (n + 16) (21, Go.Proofs.Tryd.f21, 0) grtk0 (grts0 t0_0 t0_1 t0_2 t0_3) = Tr.val ld0i (21, Go.Proofs.Tryd.f21, 0) n (grtt0 t0_0 t0_1 t0_2 t0_3) := by kernel_rfl
noncomputable def grtt1 (t3 t4 : Int) (b1_0 b1_1 b1_2 b1_3 : List (List D)) : Tr := (.ask (decide (t4 < (↑(List.length b1_0) : Int)))
  (.ask (decide (t4 < (40 : Int)))
  (.ask (decide ((0 : Int) ≤ t4) && decide (t4 < (↑(List.length b1_0) : Int)))
  (.ask (decide ((0 : Int) ≤ t4) && decide (t4 < (↑(List.length b1_0) : Int)))
  (.go 0 grtk1 (grts1 (IntKind.wrap .i64 (IntKind.wrap .i64 (t3 + if (100000 : Int) < (↑(List.length (cellA b1_0 (Int.toNat t4) (2 : Nat))) : Int) then (100000 : Int) else (↑(List.length (cellA b1_0 (Int.toNat t4) (2 : Nat))) : Int)) + if (100000 : Int) < (↑(ByteArray.size (cellS b1_0 (Int.toNat t4) (0 : Nat))) : Int) then (100000 : Int) else (↑(ByteArray.size (cellS b1_0 (Int.toNat t4) (0 : Nat))) : Int))) (IntKind.wrap .i64 (t4 + (1 : Int))) (b1_0) (b1_1) (b1_2) (b1_3)))
  .fail)
  .fail)
  (.go 24 grtk2 (grts2 (t3) ((0 : Int)) (b1_0) (b1_1) (b1_2) (b1_3))))
  (.go 24 grtk2 (grts2 (t3) ((0 : Int)) (b1_0) (b1_1) (b1_2) (b1_3))))
set_option maxRecDepth 100000 in
theorem grtp1 (n : Nat) (t3 t4 : Int) (b1_0 b1_1 b1_2 b1_3 : List (List D)) : exec ld0i (n + 46) (21, Go.Proofs.Tryd.f21, 0) grtk1 (grts1 t3 t4 b1_0 b1_1 b1_2 b1_3) = Tr.val ld0i (21, Go.Proofs.Tryd.f21, 0) n (grtt1 t3 t4 b1_0 b1_1 b1_2 b1_3) := by kernel_rfl
noncomputable def grtt2 (t3 t5 : Int) (b1_0 b1_1 b1_2 b1_3 : List (List D)) : Tr := (.ask (decide (t5 < (↑(List.length b1_1) : Int)))
  (.ask (decide (t5 < (200 : Int)))
  (.ask (decide ((0 : Int) ≤ t5) && decide (t5 < (↑(List.length b1_1) : Int)))
  (.go 0 grtk2 (grts2 (IntKind.wrap .i64 (t3 + if (100000 : Int) < (↑(ByteArray.size (cellS b1_1 (Int.toNat t5) (0 : Nat))) : Int) then (100000 : Int) else (↑(ByteArray.size (cellS b1_1 (Int.toNat t5) (0 : Nat))) : Int))) (IntKind.wrap .i64 (t5 + (1 : Int))) (b1_0) (b1_1) (b1_2) (b1_3)))
  .fail)
  (.go 15 grtk3 (grts3 (t3) ((0 : Int)) (b1_0) (b1_1) (b1_2) (b1_3))))
  (.go 15 grtk3 (grts3 (t3) ((0 : Int)) (b1_0) (b1_1) (b1_2) (b1_3))))
set_option maxRecDepth 100000 in
theorem grtp2 (n : Nat) (t3 t5 : Int) (b1_0 b1_1 b1_2 b1_3 : List (List D)) : exec ld0i (n + 37) (21, Go.Proofs.Tryd.f21, 0) grtk2 (grts2 t3 t5 b1_0 b1_1 b1_2 b1_3) = Tr.val ld0i (21, Go.Proofs.Tryd.f21, 0) n (grtt2 t3 t5 b1_0 b1_1 b1_2 b1_3) := by kernel_rfl
noncomputable def grtt3 (t3 t6 : Int) (b1_0 b1_1 b1_2 b1_3 : List (List D)) : Tr := (.ask (decide (t6 < (↑(List.length b1_3) : Int)))
  (.ask (decide (t6 < (40 : Int)))
  (.ask (decide ((0 : Int) ≤ t6) && decide (t6 < (↑(List.length b1_3) : Int)))
  (.ask (decide ((0 : Int) ≤ t6) && decide (t6 < (↑(List.length b1_3) : Int)))
  (.go 0 grtk3 (grts3 (IntKind.wrap .i64 (IntKind.wrap .i64 (t3 + if (100000 : Int) < (↑(ByteArray.size (cellS b1_3 (Int.toNat t6) (0 : Nat))) : Int) then (100000 : Int) else (↑(ByteArray.size (cellS b1_3 (Int.toNat t6) (0 : Nat))) : Int)) + if (100000 : Int) < (↑(List.length (cellA b1_3 (Int.toNat t6) (1 : Nat))) : Int) then (100000 : Int) else (↑(List.length (cellA b1_3 (Int.toNat t6) (1 : Nat))) : Int))) (IntKind.wrap .i64 (t6 + (1 : Int))) (b1_0) (b1_1) (b1_2) (b1_3)))
  .fail)
  .fail)
  (.ask (decide (t3 > (80000 : Int)))
  (.ret (.val (.bool (true)), []))
  (.ask (decide ((↑(List.length b1_0) : Int) > (30 : Int)))
  (.ret (.val (.bool (true)), []))
  (.ask (decide ((↑(List.length b1_1) : Int) > (100 : Int)))
  (.ret (.val (.bool (true)), []))
  (.ask (decide ((↑(List.length b1_2) : Int) > (300 : Int)))
  (.ret (.val (.bool (true)), []))
  (.ret (.val (.bool (decide ((↑(List.length b1_3) : Int) > (30 : Int)))), [])))))))
  (.ask (decide (t3 > (80000 : Int)))
  (.ret (.val (.bool (true)), []))
  (.ask (decide ((↑(List.length b1_0) : Int) > (30 : Int)))
  (.ret (.val (.bool (true)), []))
  (.ask (decide ((↑(List.length b1_1) : Int) > (100 : Int)))
  (.ret (.val (.bool (true)), []))
  (.ask (decide ((↑(List.length b1_2) : Int) > (300 : Int)))
  (.ret (.val (.bool (true)), []))
  (.ret (.val (.bool (decide ((↑(List.length b1_3) : Int) > (30 : Int)))), [])))))))
set_option maxRecDepth 100000 in
theorem grtp3 (n : Nat) (t3 t6 : Int) (b1_0 b1_1 b1_2 b1_3 : List (List D)) : exec ld0i (n + 46) (21, Go.Proofs.Tryd.f21, 0) grtk3 (grts3 t3 t6 b1_0 b1_1 b1_2 b1_3) = Tr.val ld0i (21, Go.Proofs.Tryd.f21, 0) n (grtt3 t3 t6 b1_0 b1_1 b1_2 b1_3) := by kernel_rfl
end Go.Proofs.YtacfehneeanlgaaDoor.Ev
