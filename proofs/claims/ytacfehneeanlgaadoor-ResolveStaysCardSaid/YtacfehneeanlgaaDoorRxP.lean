/- What the pieces of the runs come to, as a program printed it: each is checked by the kernel. -/
import Derived.Test.YtacfehneeanlgaaDoorRxD
namespace Go.Proofs.YtacfehneeanlgaaDoor.Ev
open Go
set_option linter.unusedVariables false
noncomputable def thrk0 : List T := [.code (sub (bodyOf Go.Proofs.Tryd.f20) [])]
def thrs0 (t0_0 t0_1 : Int) (t0_2 t0_3 t0_4 t0_5 t0_6 : List (List D)) (t1_0 : ByteArray) (t1_1 : Int) (t1_2 : Bool) (t1_3 t1_4 t1_5 : Int) : St := ⟨[(0, .agg [.val (.int .i64 t0_0), .val (.int .i64 t0_1), .arr secC t0_2, .arr symC t0_3, .arr relC t0_4, .arr grpC t0_5, .arr [.bool] t0_6]), (1, .agg [.val (.string t1_0), .val (.int .u8 t1_1), .val (.bool t1_2), .val (.int .i64 t1_3), .val (.int .i64 t1_4), .val (.int .i64 t1_5)])], []⟩
noncomputable def thrt0 (t0_6 : List (List D)) (t1_1 t1_3 : Int) : Tr := (.ask (t1_1 != (0 : Int))
  (.ask (t1_3 != (0 : Int))
  (.ask (decide (t1_3 ≤ (0 : Int)))
  (.ret (.val (.bool (true)), []))
  (.ask (decide ((0 : Int) ≤ IntKind.wrap .i64 (t1_3 - (1 : Int))) && decide (IntKind.wrap .i64 (t1_3 - (1 : Int)) < (↑(List.length t0_6) : Int)))
  (.ret (.val (.bool (cellB t0_6 (Int.toNat (IntKind.wrap .i64 (t1_3 - (1 : Int)))) (0 : Nat))), []))
  .fail))
  (.ret (.val (.bool (false)), [])))
  (.ret (.val (.bool (false)), [])))
set_option maxRecDepth 100000 in
theorem thrp0 (n : Nat) (t0_0 t0_1 : Int) (t0_2 t0_3 t0_4 t0_5 t0_6 : List (List D)) (t1_0 : ByteArray) (t1_1 : Int) (t1_2 : Bool) (t1_3 t1_4 t1_5 : Int) : exec el0 (n + 33) (20, Go.Proofs.Tryd.f20, 0) thrk0 (thrs0 t0_0 t0_1 t0_2 t0_3 t0_4 t0_5 t0_6 t1_0 t1_1 t1_2 t1_3 t1_4 t1_5) = Tr.val el0 (20, Go.Proofs.Tryd.f20, 0) n (thrt0 t0_6 t1_1 t1_3) := by kernel_rfl
noncomputable def grlk0 : List T := [.code (sub (bodyOf Go.Proofs.Tryd.f9) [])]
def grls0 (t0 : List (List D)) : St := ⟨[(0, .arr [.int .i64, .int .i64, .arr secC, .arr symC, .arr relC, .arr grpC, .arr [.bool]] t0)], []⟩
noncomputable def grlk1 : List T := [.code (sub (bodyOf Go.Proofs.Tryd.f9) [1, 0, 1, 0, 0]), .lp (sub (bodyOf Go.Proofs.Tryd.f9) [1, 0, 1, 0, 0]), .blk 0, .code (sub (bodyOf Go.Proofs.Tryd.f9) [1, 1])]
def grls1 (t0 : List (List D)) (t3 : Int) : St := ⟨[(0, .arr [.int .i64, .int .i64, .arr secC, .arr symC, .arr relC, .arr grpC, .arr [.bool]] t0), (3, .val (.int .i64 t3))], []⟩
noncomputable def grlt0 (t0 : List (List D)) : Tr := (.go 0 grlk1 (grls1 (t0) ((0 : Int))))
set_option maxRecDepth 100000 in
theorem grlp0 (n : Nat) (t0 : List (List D)) : exec lv0i (n + 11) (9, Go.Proofs.Tryd.f9, 0) grlk0 (grls0 t0) = Tr.val lv0i (9, Go.Proofs.Tryd.f9, 0) n (grlt0 t0) := by kernel_rfl
noncomputable def grlt1 (t0 : List (List D)) (t3 : Int) : Tr := (.ask (decide (t3 < (↑(List.length t0) : Int)))
  (.ask (decide (t3 < (20 : Int)))
  (.ask (decide ((0 : Int) ≤ t3) && decide (t3 < (↑(List.length t0) : Int)))
  (.ask (greatB (cellA t0 (Int.toNat t3) (2 : Nat)) (cellA t0 (Int.toNat t3) (3 : Nat)) (cellA t0 (Int.toNat t3) (4 : Nat)) (cellA t0 (Int.toNat t3) (5 : Nat)))
  (.ret (.val (.bool (true)), []))
  (.ask (decide ((0 : Int) ≤ t3) && decide (t3 < (↑(List.length t0) : Int)))
  (.ask (decide ((↑(List.length (cellA t0 (Int.toNat t3) (6 : Nat))) : Int) > (40 : Int)))
  (.ret (.val (.bool (true)), []))
  (.go 0 grlk1 (grls1 (t0) (IntKind.wrap .i64 (t3 + (1 : Int))))))
  .fail))
  .fail)
  (.ask (decide ((↑(List.length t0) : Int) > (12 : Int)))
  (.ask (decide ((↑(List.length t0) : Int) ≤ (64 : Int)))
  (.ret (.val (.bool (true)), []))
  (.ret (.val (.bool (decide ((↑(List.length t0) : Int) > (80 : Int)))), [])))
  (.ret (.val (.bool (decide ((↑(List.length t0) : Int) > (80 : Int)))), []))))
  (.ask (decide ((↑(List.length t0) : Int) > (12 : Int)))
  (.ask (decide ((↑(List.length t0) : Int) ≤ (64 : Int)))
  (.ret (.val (.bool (true)), []))
  (.ret (.val (.bool (decide ((↑(List.length t0) : Int) > (80 : Int)))), [])))
  (.ret (.val (.bool (decide ((↑(List.length t0) : Int) > (80 : Int)))), []))))
set_option maxRecDepth 100000 in
theorem grlp1 (n : Nat) (t0 : List (List D)) (t3 : Int) : exec lv0i (n + 43) (9, Go.Proofs.Tryd.f9, 0) grlk1 (grls1 t0 t3) = Tr.val lv0i (9, Go.Proofs.Tryd.f9, 0) n (grlt1 t0 t3) := by kernel_rfl
noncomputable def stdk0 : List T := [.code (sub (bodyOf Go.Proofs.Tryd.f12) [])]
def stds0 (t0 : List (List D)) : St := ⟨[(0, .arr [.int .i64, .int .i64, .arr secC, .arr symC, .arr relC, .arr grpC, .arr [.bool]] t0)], []⟩
noncomputable def stdt0 (t0 : List (List D)) : Tr := (.ask (Info.pre lv1i (10 : Nat) [handed [] (.arr [.int .i64, .int .i64, .arr secC, .arr symC, .arr relC, .arr grpC, .arr [.bool]] t0)] [])
  (.ask (bindE t0 != (0 : Int))
  (.ret (.tup [.agg [z0, z0], .val (.bool (false))], []))
  (.ask ((↑(List.length (if bindE t0 = (0 : Int) then bindD t0 else [])) : Int) == (0 : Int))
  (.ret (.tup [.agg [z0, z0], .val (.bool (false))], []))
  (.ask (decide ((0 : Int) < (↑(List.length (if bindE t0 = (0 : Int) then bindD t0 else [])) : Int)))
  (.ask ((↑(List.length (cellA (if bindE t0 = (0 : Int) then bindD t0 else []) (0 : Nat) (0 : Nat))) : Int) == (0 : Int))
  (.ret (.tup [.agg [z0, z0], .val (.bool (false))], []))
  (.ask (decide ((0 : Int) < (↑(List.length (if bindE t0 = (0 : Int) then bindD t0 else [])) : Int)))
  (.ask (decide ((0 : Int) < (↑(List.length (cellA (if bindE t0 = (0 : Int) then bindD t0 else []) (0 : Nat) (0 : Nat))) : Int)))
  (.ret (.tup [.agg [.val (.int .i64 (cellI (cellA (if bindE t0 = (0 : Int) then bindD t0 else []) (0 : Nat) (0 : Nat)) (0 : Nat) (0 : Nat))), .val (.int .i64 (cellI (cellA (if bindE t0 = (0 : Int) then bindD t0 else []) (0 : Nat) (0 : Nat)) (0 : Nat) (1 : Nat)))], .val (.bool (true))], []))
  .fail)
  .fail))
  .fail)))
  .fail)
set_option maxRecDepth 100000 in
theorem stdp0 (n : Nat) (t0 : List (List D)) : exec lv1i (n + 46) (12, Go.Proofs.Tryd.f12, 0) stdk0 (stds0 t0) = Tr.val lv1i (12, Go.Proofs.Tryd.f12, 0) n (stdt0 t0) := by kernel_rfl
end Go.Proofs.YtacfehneeanlgaaDoor.Ev
