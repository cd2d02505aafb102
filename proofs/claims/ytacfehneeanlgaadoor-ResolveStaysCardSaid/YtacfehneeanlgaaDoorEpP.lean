/- What the pieces of the runs come to, as a program printed it: each is checked by the kernel. -/
import Derived.Test.YtacfehneeanlgaaDoorEpD
namespace Go.Proofs.YtacfehneeanlgaaDoor.Ev
open Go
set_option linter.unusedVariables false
noncomputable def rlsk0 : List T := [.code (sub (bodyOf Go.Proofs.Tryd.f35) [])]
def rlss0 (t0_0 t0_1 t0_2 t0_3 : List (List D)) : St := ⟨[(0, .agg [.arr secC t0_0, .arr symC t0_1, .arr relC t0_2, .arr grpC t0_3])], []⟩
noncomputable def rlsk1 : List T := [.code (sub (bodyOf Go.Proofs.Tryd.f35) [1, 1, 0, 1, 0, 0]), .lp (sub (bodyOf Go.Proofs.Tryd.f35) [1, 1, 0, 1, 0, 0]), .blk 0, .code (sub (bodyOf Go.Proofs.Tryd.f35) [1, 1, 1])]
def rlss1 (t12 : List (List D)) (t13 t14 : Int) (b1_0 b1_1 b1_2 b1_3 : List (List D)) : St := ⟨[(1, .ptr (.loc 1) 0), (12, .arr relC t12), (13, .val (.int .i64 t13)), (14, .val (.int .i64 t14))], [(.loc 1, [.arr secC b1_0, .arr symC b1_1, .arr relC b1_2, .arr grpC b1_3])]⟩
noncomputable def rlsk2 : List T := [.code (sub (bodyOf Go.Proofs.Tryd.f35) [1, 1, 0, 1, 0, 0, 1, 1, 0, 0, 1, 1, 1, 1, 0, 0]), .lp (sub (bodyOf Go.Proofs.Tryd.f35) [1, 1, 0, 1, 0, 0, 1, 1, 0, 0, 1, 1, 1, 1, 0, 0]), .blk 2, .blk 1, .code (sub (bodyOf Go.Proofs.Tryd.f35) [1, 1, 0, 1, 0, 0, 1, 1, 1]), .lp (sub (bodyOf Go.Proofs.Tryd.f35) [1, 1, 0, 1, 0, 0]), .blk 0, .code (sub (bodyOf Go.Proofs.Tryd.f35) [1, 1, 1])]
def rlss2 (t12 : List (List D)) (t13 t14 : Int) (t53 : List (List D)) (t54 t55 : Int) (b1_0 b1_1 b1_2 b1_3 : List (List D)) (b4_0 b4_1 b4_2 b4_3 b4_4 : Int) : St := ⟨[(1, .ptr (.loc 1) 0), (4, .ptr (.loc 4) 0), (12, .arr relC t12), (13, .val (.int .i64 t13)), (14, .val (.int .i64 t14)), (53, .arr relC t53), (54, .val (.int .i64 t54)), (55, .val (.int .i64 t55))], [(.loc 1, [.arr secC b1_0, .arr symC b1_1, .arr relC b1_2, .arr grpC b1_3]), (.loc 4, [.val (.int .i64 b4_0), .val (.int .i64 b4_1), .val (.int .u8 b4_2), .val (.int .i64 b4_3), .val (.int .i64 b4_4)])]⟩
noncomputable def rlst0 (t0_0 t0_1 t0_2 t0_3 : List (List D)) : Tr := (.ask (decide ((↑(List.length t0_2) : Int) > (256 : Int)))
  (.ret (.val (.bool (false)), []))
  (.go 0 rlsk1 (rlss1 (t0_2) ((↑(List.length t0_2) : Int)) ((0 : Int)) (t0_0) (t0_1) (t0_2) (t0_3))))
set_option maxRecDepth 100000 in
theorem rlsp0 (n : Nat) (t0_0 t0_1 t0_2 t0_3 : List (List D)) : exec eo3 (n + 25) (35, Go.Proofs.Tryd.f35, 0) rlsk0 (rlss0 t0_0 t0_1 t0_2 t0_3) = Tr.val eo3 (35, Go.Proofs.Tryd.f35, 0) n (rlst0 t0_0 t0_1 t0_2 t0_3) := by kernel_rfl
noncomputable def rlst1 (t12 : List (List D)) (t13 t14 : Int) (b1_0 b1_1 b1_2 b1_3 : List (List D)) : Tr := (.ask (decide (t14 < t13))
  (.ask (decide ((0 : Int) ≤ t14) && decide (t14 < (↑(List.length t12) : Int)))
  (.ask (pRck [normV CK.no (handed [] (.agg [V.val (.int .i64 (cellI t12 (Int.toNat t14) (0 : Nat))), V.val (.int .i64 (cellI t12 (Int.toNat t14) (1 : Nat))), V.val (.int .u8 (cellI t12 (Int.toNat t14) (2 : Nat))), V.val (.int .i64 (cellI t12 (Int.toNat t14) (3 : Nat))), V.val (.int .i64 (cellI t12 (Int.toNat t14) (4 : Nat)))])), normV (.sl secC) (handed [] (.arr secC b1_0)), normV CK.no (handed [] (.val (.int .i64 (↑(List.length b1_1) : Int))))])
  (.ask (relCk (cellI t12 (Int.toNat t14) (0 : Nat)) (cellI t12 (Int.toNat t14) (1 : Nat)) (cellI t12 (Int.toNat t14) (2 : Nat)) (cellI t12 (Int.toNat t14) (3 : Nat)) (cellI t12 (Int.toNat t14) (4 : Nat)) b1_0 (↑(List.length b1_1) : Int) != (0 : Int))
  (.ret (.val (.bool (false)), []))
  (.ask (cellI t12 (Int.toNat t14) (2 : Nat) == (43 : Int))
  (.ask (decide ((0 : Int) ≤ IntKind.wrap .i64 (cellI t12 (Int.toNat t14) (0 : Nat) - (1 : Int))) && decide (IntKind.wrap .i64 (cellI t12 (Int.toNat t14) (0 : Nat) - (1 : Int)) < (↑(List.length b1_0) : Int)))
  (.ask (okBounds (cellI t12 (Int.toNat t14) (1 : Nat)) (IntKind.wrap .i64 (cellI t12 (Int.toNat t14) (1 : Nat) + cellI t12 (Int.toNat t14) (4 : Nat))) (↑(List.length (cellA b1_0 (Int.toNat (IntKind.wrap .i64 (cellI t12 (Int.toNat t14) (0 : Nat) - (1 : Int)))) (2 : Nat))) : Int))
  (.ask (Info.pre eo3 (47 : Nat) [handed [] (.arr u8s (cut (cellA b1_0 (Int.toNat (IntKind.wrap .i64 (cellI t12 (Int.toNat t14) (0 : Nat) - (1 : Int)))) (2 : Nat)) (cellI t12 (Int.toNat t14) (1 : Nat)) (IntKind.wrap .i64 (cellI t12 (Int.toNat t14) (1 : Nat) + cellI t12 (Int.toNat t14) (4 : Nat)))))] [])
  (.ask (!fillB (cut (cellA b1_0 (Int.toNat (IntKind.wrap .i64 (cellI t12 (Int.toNat t14) (0 : Nat) - (1 : Int)))) (2 : Nat)) (cellI t12 (Int.toNat t14) (1 : Nat)) (IntKind.wrap .i64 (cellI t12 (Int.toNat t14) (1 : Nat) + cellI t12 (Int.toNat t14) (4 : Nat)))))
  (.ret (.val (.bool (false)), []))
  (.ask (okBounds (0 : Int) t14 (↑(List.length b1_2) : Int))
  (.go 0 rlsk2 (rlss2 (t12) (t13) (t14) (cut b1_2 (0 : Int) t14) ((↑(List.length (cut b1_2 (0 : Int) t14)) : Int)) ((0 : Int)) (b1_0) (b1_1) (b1_2) (b1_3) (cellI t12 (Int.toNat t14) (0 : Nat)) (cellI t12 (Int.toNat t14) (1 : Nat)) (cellI t12 (Int.toNat t14) (2 : Nat)) (cellI t12 (Int.toNat t14) (3 : Nat)) (cellI t12 (Int.toNat t14) (4 : Nat))))
  .fail))
  .fail)
  .fail)
  .fail)
  (.ask (okBounds (0 : Int) t14 (↑(List.length b1_2) : Int))
  (.go 0 rlsk2 (rlss2 (t12) (t13) (t14) (cut b1_2 (0 : Int) t14) ((↑(List.length (cut b1_2 (0 : Int) t14)) : Int)) ((0 : Int)) (b1_0) (b1_1) (b1_2) (b1_3) (cellI t12 (Int.toNat t14) (0 : Nat)) (cellI t12 (Int.toNat t14) (1 : Nat)) (cellI t12 (Int.toNat t14) (2 : Nat)) (cellI t12 (Int.toNat t14) (3 : Nat)) (cellI t12 (Int.toNat t14) (4 : Nat))))
  .fail)))
  .fail)
  .fail)
  (.ret (.val (.bool (true)), [])))
set_option maxRecDepth 100000 in
theorem rlsp1 (n : Nat) (t12 : List (List D)) (t13 t14 : Int) (b1_0 b1_1 b1_2 b1_3 : List (List D)) : exec eo3 (n + 72) (35, Go.Proofs.Tryd.f35, 0) rlsk1 (rlss1 t12 t13 t14 b1_0 b1_1 b1_2 b1_3) = Tr.val eo3 (35, Go.Proofs.Tryd.f35, 0) n (rlst1 t12 t13 t14 b1_0 b1_1 b1_2 b1_3) := by kernel_rfl
noncomputable def rlst2 (t12 : List (List D)) (t13 t14 : Int) (t53 : List (List D)) (t54 t55 : Int) (b1_0 b1_1 b1_2 b1_3 : List (List D)) (b4_0 b4_1 b4_2 b4_3 b4_4 : Int) : Tr := (.ask (decide (t55 < t54))
  (.ask (decide ((0 : Int) ≤ t55) && decide (t55 < (↑(List.length t53) : Int)))
  (.ask (decide (cellI t53 (Int.toNat t55) (0 : Nat) > b4_0))
  (.ret (.val (.bool (false)), []))
  (.ask (cellI t53 (Int.toNat t55) (0 : Nat) == b4_0)
  (.ask (decide (cellI t53 (Int.toNat t55) (1 : Nat) > b4_1))
  (.ret (.val (.bool (false)), []))
  (.ask (!apartB (cellI t53 (Int.toNat t55) (1 : Nat)) (cellI t53 (Int.toNat t55) (2 : Nat)) (cellI t53 (Int.toNat t55) (4 : Nat)) b4_1 b4_2 b4_4)
  (.ret (.val (.bool (false)), []))
  (.go 0 rlsk2 (rlss2 (t12) (t13) (t14) (t53) (t54) (IntKind.wrap .i64 (t55 + (1 : Int))) (b1_0) (b1_1) (b1_2) (b1_3) (b4_0) (b4_1) (b4_2) (b4_3) (b4_4)))))
  (.go 0 rlsk2 (rlss2 (t12) (t13) (t14) (t53) (t54) (IntKind.wrap .i64 (t55 + (1 : Int))) (b1_0) (b1_1) (b1_2) (b1_3) (b4_0) (b4_1) (b4_2) (b4_3) (b4_4)))))
  .fail)
  (.go 39 rlsk1 (rlss1 (t12) (t13) (IntKind.wrap .i64 (t14 + (1 : Int))) (b1_0) (b1_1) (b1_2) (b1_3))))
set_option maxRecDepth 100000 in
theorem rlsp2 (n : Nat) (t12 : List (List D)) (t13 t14 : Int) (t53 : List (List D)) (t54 t55 : Int) (b1_0 b1_1 b1_2 b1_3 : List (List D)) (b4_0 b4_1 b4_2 b4_3 b4_4 : Int) : exec eo3 (n + 52) (35, Go.Proofs.Tryd.f35, 0) rlsk2 (rlss2 t12 t13 t14 t53 t54 t55 b1_0 b1_1 b1_2 b1_3 b4_0 b4_1 b4_2 b4_3 b4_4) = Tr.val eo3 (35, Go.Proofs.Tryd.f35, 0) n (rlst2 t12 t13 t14 t53 t54 t55 b1_0 b1_1 b1_2 b1_3 b4_0 b4_1 b4_2 b4_3 b4_4) := by kernel_rfl
noncomputable def ckok0 : List T := [.code (sub (bodyOf Go.Proofs.Tryd.f25) [])]
def ckos0 (t0_0 t0_1 t0_2 t0_3 : List (List D)) : St := ⟨[(0, .agg [.arr secC t0_0, .arr symC t0_1, .arr relC t0_2, .arr grpC t0_3])], []⟩
noncomputable def ckok1 : List T := [.code (sub (bodyOf Go.Proofs.Tryd.f25) [1, 1, 0, 1, 0, 0]), .lp (sub (bodyOf Go.Proofs.Tryd.f25) [1, 1, 0, 1, 0, 0]), .blk 0, .code (sub (bodyOf Go.Proofs.Tryd.f25) [1, 1, 1])]
def ckos1 (t3 : Bool) (t11 : List (List D)) (t12 t13 : Int) (b1_0 b1_1 b1_2 b1_3 : List (List D)) : St := ⟨[(1, .ptr (.loc 1) 0), (3, .val (.bool t3)), (11, .arr secC t11), (12, .val (.int .i64 t12)), (13, .val (.int .i64 t13))], [(.loc 1, [.arr secC b1_0, .arr symC b1_1, .arr relC b1_2, .arr grpC b1_3])]⟩
noncomputable def ckot0 (t0_0 t0_1 t0_2 t0_3 : List (List D)) : Tr := (.go 0 ckok1 (ckos1 (decide ((↑(List.length t0_0) : Int) ≤ (16 : Int))) (t0_0) ((↑(List.length t0_0) : Int)) ((0 : Int)) (t0_0) (t0_1) (t0_2) (t0_3)))
set_option maxRecDepth 100000 in
theorem ckop0 (n : Nat) (t0_0 t0_1 t0_2 t0_3 : List (List D)) : exec ep4 (n + 23) (25, Go.Proofs.Tryd.f25, 0) ckok0 (ckos0 t0_0 t0_1 t0_2 t0_3) = Tr.val ep4 (25, Go.Proofs.Tryd.f25, 0) n (ckot0 t0_0 t0_1 t0_2 t0_3) := by kernel_rfl
noncomputable def ckot1 (t3 : Bool) (t11 : List (List D)) (t12 t13 : Int) (b1_0 b1_1 b1_2 b1_3 : List (List D)) : Tr := (.ask (decide (t13 < t12))
  (.ask (decide ((0 : Int) ≤ t13) && decide (t13 < (↑(List.length t11) : Int)))
  (.ask (t3)
  (.go 4 ckok1 (ckos1 (secE (cellS t11 (Int.toNat t13) (0 : Nat)) (cellI t11 (Int.toNat t13) (1 : Nat)) (↑(List.length (cellA t11 (Int.toNat t13) (2 : Nat))) : Int) (cellI t11 (Int.toNat t13) (3 : Nat)) == (0 : Int)) (t11) (t12) (IntKind.wrap .i64 (t13 + (1 : Int))) (b1_0) (b1_1) (b1_2) (b1_3)))
  (.go 4 ckok1 (ckos1 (false) (t11) (t12) (IntKind.wrap .i64 (t13 + (1 : Int))) (b1_0) (b1_1) (b1_2) (b1_3))))
  .fail)
  (.ask (!t3)
  (.ret (.val (.int .i64 ((8 : Int))), []))
  (.ask (pSyms [normV (.ag [some secC, some symC, some relC, some grpC]) (handed [] (.agg [V.arr secC b1_0, V.arr symC b1_1, V.arr relC b1_2, V.arr grpC b1_3]))])
  (.ask (!symsB b1_0 b1_1)
  (.ret (.val (.int .i64 ((8 : Int))), []))
  (.ask (pRls [normV (.ag [some secC, some symC, some relC, some grpC]) (handed [] (.agg [V.arr secC b1_0, V.arr symC b1_1, V.arr relC b1_2, V.arr grpC b1_3]))])
  (.ask (!relsB b1_0 b1_1 b1_2)
  (.ret (.val (.int .i64 ((8 : Int))), []))
  (.ask (pGrps [normV (.ag [some secC, some symC, some relC, some grpC]) (handed [] (.agg [V.arr secC b1_0, V.arr symC b1_1, V.arr relC b1_2, V.arr grpC b1_3]))])
  (.ask (!grpsB b1_0 b1_3)
  (.ret (.val (.int .i64 ((8 : Int))), []))
  (.ret (z0, [])))
  .fail))
  .fail))
  .fail)))
set_option maxRecDepth 100000 in
theorem ckop1 (n : Nat) (t3 : Bool) (t11 : List (List D)) (t12 t13 : Int) (b1_0 b1_1 b1_2 b1_3 : List (List D)) : exec ep4 (n + 35) (25, Go.Proofs.Tryd.f25, 0) ckok1 (ckos1 t3 t11 t12 t13 b1_0 b1_1 b1_2 b1_3) = Tr.val ep4 (25, Go.Proofs.Tryd.f25, 0) n (ckot1 t3 t11 t12 t13 b1_0 b1_1 b1_2 b1_3) := by kernel_rfl
end Go.Proofs.YtacfehneeanlgaaDoor.Ev
