/- What the pieces of the runs come to, as a program printed it: each is checked by the kernel. -/
import Derived.Test.YtacfehneeanlgaaDoorRsD
namespace Go.Proofs.YtacfehneeanlgaaDoor.Ev
open Go
set_option linter.unusedVariables false
noncomputable def nank0 : List T := [.code (sub (bodyOf Go.Proofs.Tryd.f67) [])]
def nans0 (t0 : Int) : St := ⟨[(0, .val (.int .i64 t0))], []⟩
noncomputable def nant0 (t0 : Int) : Tr := (.ret (.val (.bool (t0 != t0)), []))
set_option maxRecDepth 100000 in
theorem nanp0 (n : Nat) (t0 : Int) : exec el0 (n + 12) (67, Go.Proofs.Tryd.f67, 0) nank0 (nans0 t0) = Tr.val el0 (67, Go.Proofs.Tryd.f67, 0) n (nant0 t0) := by kernel_rfl
noncomputable def gonk0 : List T := [.code (sub (bodyOf Go.Proofs.Tryd.f24) [])]
def gons0 (t0_0 t0_1 : Int) (t0_2 t0_3 t0_4 t0_5 t0_6 : List (List D)) (t1_0 : ByteArray) (t1_1 : Int) (t1_2 : Bool) (t1_3 t1_4 t1_5 : Int) : St := ⟨[(0, .agg [.val (.int .i64 t0_0), .val (.int .i64 t0_1), .arr secC t0_2, .arr symC t0_3, .arr relC t0_4, .arr grpC t0_5, .arr [.bool] t0_6]), (1, .agg [.val (.string t1_0), .val (.int .u8 t1_1), .val (.bool t1_2), .val (.int .i64 t1_3), .val (.int .i64 t1_4), .val (.int .i64 t1_5)])], []⟩
noncomputable def gont0 (t0_6 : List (List D)) (t1_3 : Int) : Tr := (.ask (decide (t1_3 > (0 : Int)))
  (.ask (decide ((0 : Int) ≤ IntKind.wrap .i64 (t1_3 - (1 : Int))) && decide (IntKind.wrap .i64 (t1_3 - (1 : Int)) < (↑(List.length t0_6) : Int)))
  (.ret (.val (.bool (!cellB t0_6 (Int.toNat (IntKind.wrap .i64 (t1_3 - (1 : Int)))) (0 : Nat))), []))
  .fail)
  (.ret (.val (.bool (false)), [])))
set_option maxRecDepth 100000 in
theorem gonp0 (n : Nat) (t0_0 t0_1 : Int) (t0_2 t0_3 t0_4 t0_5 t0_6 : List (List D)) (t1_0 : ByteArray) (t1_1 : Int) (t1_2 : Bool) (t1_3 t1_4 t1_5 : Int) : exec el0 (n + 24) (24, Go.Proofs.Tryd.f24, 0) gonk0 (gons0 t0_0 t0_1 t0_2 t0_3 t0_4 t0_5 t0_6 t1_0 t1_1 t1_2 t1_3 t1_4 t1_5) = Tr.val el0 (24, Go.Proofs.Tryd.f24, 0) n (gont0 t0_6 t1_3) := by kernel_rfl
noncomputable def eqbk0 : List T := [.code (sub (bodyOf Go.Proofs.Tryd.f27) [])]
def eqbs0 (t0 t1 : List (List D)) : St := ⟨[(0, .arr [.bool] t0), (1, .arr [.bool] t1)], []⟩
noncomputable def eqbk1 : List T := [.code (sub (bodyOf Go.Proofs.Tryd.f27) [1, 1, 0, 1, 0, 0]), .lp (sub (bodyOf Go.Proofs.Tryd.f27) [1, 1, 0, 1, 0, 0]), .blk 0, .code (sub (bodyOf Go.Proofs.Tryd.f27) [1, 1, 1])]
def eqbs1 (t0 t1 : List (List D)) (t12 t13 : Int) : St := ⟨[(0, .arr [.bool] t0), (1, .arr [.bool] t1), (12, .val (.int .i64 t12)), (13, .val (.int .i64 t13))], []⟩
noncomputable def eqbt0 (t0 t1 : List (List D)) : Tr := (.ask ((↑(List.length t0) : Int) != (↑(List.length t1) : Int))
  (.ret (.val (.bool (false)), []))
  (.go 0 eqbk1 (eqbs1 (t0) (t1) ((↑(List.length t0) : Int)) ((0 : Int)))))
set_option maxRecDepth 100000 in
theorem eqbp0 (n : Nat) (t0 t1 : List (List D)) : exec el0 (n + 24) (27, Go.Proofs.Tryd.f27, 0) eqbk0 (eqbs0 t0 t1) = Tr.val el0 (27, Go.Proofs.Tryd.f27, 0) n (eqbt0 t0 t1) := by kernel_rfl
noncomputable def eqbt1 (t0 t1 : List (List D)) (t12 t13 : Int) : Tr := (.ask (decide (t13 < t12))
  (.ask (decide ((0 : Int) ≤ t13) && decide (t13 < (↑(List.length t0) : Int)))
  (.ask (decide ((0 : Int) ≤ t13) && decide (t13 < (↑(List.length t1) : Int)))
  (.ask (!cellB t0 (Int.toNat t13) (0 : Nat) == cellB t1 (Int.toNat t13) (0 : Nat))
  (.ret (.val (.bool (false)), []))
  (.go 0 eqbk1 (eqbs1 (t0) (t1) (t12) (IntKind.wrap .i64 (t13 + (1 : Int))))))
  .fail)
  .fail)
  (.ret (.val (.bool (true)), [])))
set_option maxRecDepth 100000 in
theorem eqbp1 (n : Nat) (t0 t1 : List (List D)) (t12 t13 : Int) : exec el0 (n + 34) (27, Go.Proofs.Tryd.f27, 0) eqbk1 (eqbs1 t0 t1 t12 t13) = Tr.val el0 (27, Go.Proofs.Tryd.f27, 0) n (eqbt1 t0 t1 t12 t13) := by kernel_rfl
noncomputable def cmik0 : List T := [.code (sub (bodyOf Go.Proofs.Tryd.f51) [])]
def cmis0 (t0 t1 : Int) : St := ⟨[(0, .val (.int .i64 t0)), (1, .val (.int .i64 t1))], []⟩
noncomputable def cmit0 (t0 t1 : Int) : Tr := (.ask (decide (t0 < t1))
  (.ret (.val (.int .i64 ((-1 : Int))), []))
  (.ask (decide (t0 > t1))
  (.ret (.val (.int .i64 ((1 : Int))), []))
  (.ret (z0, []))))
set_option maxRecDepth 100000 in
theorem cmip0 (n : Nat) (t0 t1 : Int) : exec rs0 (n + 53) (51, Go.Proofs.Tryd.f51, 0) cmik0 (cmis0 t0 t1) = Tr.val rs0 (51, Go.Proofs.Tryd.f51, 0) n (cmit0 t0 t1) := by kernel_rfl
noncomputable def cmqk0 : List T := [.code (sub (bodyOf Go.Proofs.Tryd.f38) [])]
def cmqs0 (t0 t1 : List (List D)) : St := ⟨[(0, .arr i64s t0), (1, .arr i64s t1)], []⟩
noncomputable def cmqk1 : List T := [.code (sub (bodyOf Go.Proofs.Tryd.f38) [1, 0, 1, 0, 0]), .lp (sub (bodyOf Go.Proofs.Tryd.f38) [1, 0, 1, 0, 0]), .blk 0, .code (sub (bodyOf Go.Proofs.Tryd.f38) [1, 1])]
def cmqs1 (t0 t1 t9 : List (List D)) (t10 t11 : Int) : St := ⟨[(0, .arr i64s t0), (1, .arr i64s t1), (9, .arr i64s t9), (10, .val (.int .i64 t10)), (11, .val (.int .i64 t11))], []⟩
noncomputable def cmqt0 (t0 t1 : List (List D)) : Tr := (.go 0 cmqk1 (cmqs1 (t0) (t1) (t0) ((↑(List.length t0) : Int)) ((0 : Int))))
set_option maxRecDepth 100000 in
theorem cmqp0 (n : Nat) (t0 t1 : List (List D)) : exec rs1 (n + 13) (38, Go.Proofs.Tryd.f38, 0) cmqk0 (cmqs0 t0 t1) = Tr.val rs1 (38, Go.Proofs.Tryd.f38, 0) n (cmqt0 t0 t1) := by kernel_rfl
noncomputable def cmqt1 (t0 t1 t9 : List (List D)) (t10 t11 : Int) : Tr := (.ask (decide (t11 < t10))
  (.ask (decide ((0 : Int) ≤ t11) && decide (t11 < (↑(List.length t9) : Int)))
  (.ask (decide (t11 ≥ (↑(List.length t1) : Int)))
  (.ret (.val (.int .i64 ((1 : Int))), []))
  (.ask (decide ((0 : Int) ≤ t11) && decide (t11 < (↑(List.length t1) : Int)))
  (.ask (cmpI (cellI t9 (Int.toNat t11) (0 : Nat)) (cellI t1 (Int.toNat t11) (0 : Nat)) != (0 : Int))
  (.ret (.val (.int .i64 (cmpI (cellI t9 (Int.toNat t11) (0 : Nat)) (cellI t1 (Int.toNat t11) (0 : Nat)))), []))
  (.go 0 cmqk1 (cmqs1 (t0) (t1) (t9) (t10) (IntKind.wrap .i64 (t11 + (1 : Int))))))
  .fail))
  .fail)
  (.ask (decide ((↑(List.length t0) : Int) < (↑(List.length t1) : Int)))
  (.ret (.val (.int .i64 ((-1 : Int))), []))
  (.ret (z0, []))))
set_option maxRecDepth 100000 in
theorem cmqp1 (n : Nat) (t0 t1 t9 : List (List D)) (t10 t11 : Int) : exec rs1 (n + 55) (38, Go.Proofs.Tryd.f38, 0) cmqk1 (cmqs1 t0 t1 t9 t10 t11) = Tr.val rs1 (38, Go.Proofs.Tryd.f38, 0) n (cmqt1 t0 t1 t9 t10 t11) := by kernel_rfl
end Go.Proofs.YtacfehneeanlgaaDoor.Ev
