/- What the pieces of the runs come to, as a program printed it: each is checked by the kernel. -/
import Derived.Test.YtkcopbnaleiocaaErD
namespace Go.Proofs.Ytkcopbnaleiocaa.Ev
open Go
set_option linter.unusedVariables false
noncomputable def syrk0 : List T := [.code (sub (bodyOf Try.f109) [])]
def syrs0 (t0 : List (List D)) : St := ⟨[(0, .arr u8s t0)], []⟩
noncomputable def syrt0 (t0 : List (List D)) : Tr := (.ask ((↑(List.length t0) : Int) != (24 : Int))
  (.ret (.tup [.agg [.val (.string ({ data := #[] })), .val (.int .u8 ((0 : Int))), .val (.bool (false)), z0, z0, z0], z0, .val (.int .i64 ((3 : Int)))], []))
  (.ask (pGet [normV (.sl u8s) (handed [] (.arr u8s t0)), handed [] (.val (.int .i64 (0 : Int))), handed [] (.val (.int .i64 (4 : Int)))])
  (.ask (decide ((4 : Int) < (↑(List.length t0) : Int)))
  (.ask (decide ((5 : Int) < (↑(List.length t0) : Int)))
  (.ask (pGet [normV (.sl u8s) (handed [] (.arr u8s t0)), handed [] (.val (.int .i64 (6 : Int))), handed [] (.val (.int .i64 (2 : Int)))])
  (.ask (decide (getV t0 (6 : Int) (2 : Int) > (65520 : Int)))
  (.ask (pGet [normV (.sl u8s) (handed [] (.arr u8s t0)), handed [] (.val (.int .i64 (8 : Int))), handed [] (.val (.int .i64 (8 : Int)))])
  (.ask (pGet [normV (.sl u8s) (handed [] (.arr u8s t0)), handed [] (.val (.int .i64 (16 : Int))), handed [] (.val (.int .i64 (8 : Int)))])
  (.ask (pSymW [handed [] (.agg [V.val (Value.string { data := #[(120 : UInt8)] }), V.val (.int .u8 (Int.fdiv (cellI t0 (4 : Nat) (0 : Nat)) (16 : Int))), V.val (Value.bool (cellI t0 (5 : Nat) (0 : Nat) == (2 : Int))), V.val (.int .i64 (IntKind.wrap .i64 ((65520 : Int) - getV t0 (6 : Int) (2 : Int)))), V.val (.int .i64 (getV t0 (8 : Int) (8 : Int))), V.val (.int .i64 (getV t0 (16 : Int) (8 : Int)))]), handed [] (.val (.int .i64 (getV t0 (0 : Int) (4 : Int))))])
  (.ask (symWE { data := #[(120 : UInt8)] } (Int.fdiv (cellI t0 (4 : Nat) (0 : Nat)) (16 : Int)) (cellI t0 (5 : Nat) (0 : Nat) == (2 : Int)) (IntKind.wrap .i64 ((65520 : Int) - getV t0 (6 : Int) (2 : Int))) (getV t0 (8 : Int) (8 : Int)) (getV t0 (16 : Int) (8 : Int)) (getV t0 (0 : Int) (4 : Int)) != (0 : Int))
  (.ret (.tup [.agg [.val (.string ({ data := #[] })), .val (.int .u8 ((0 : Int))), .val (.bool (false)), z0, z0, z0], z0, .val (.int .i64 ((8 : Int)))], []))
  (.ask (!ByteArray.toList (rowBytes (if symWok { data := #[(120 : UInt8)] } (Int.fdiv (cellI t0 (4 : Nat) (0 : Nat)) (16 : Int)) (cellI t0 (5 : Nat) (0 : Nat) == (2 : Int)) (IntKind.wrap .i64 ((65520 : Int) - getV t0 (6 : Int) (2 : Int))) (getV t0 (8 : Int) (8 : Int)) (getV t0 (16 : Int) (8 : Int)) (getV t0 (0 : Int) (4 : Int)) = true then symB (getV t0 (0 : Int) (4 : Int)) (Int.fdiv (cellI t0 (4 : Nat) (0 : Nat)) (16 : Int)) (cellI t0 (5 : Nat) (0 : Nat) == (2 : Int)) (IntKind.wrap .i64 ((65520 : Int) - getV t0 (6 : Int) (2 : Int))) (getV t0 (8 : Int) (8 : Int)) (getV t0 (16 : Int) (8 : Int)) else [])) == ByteArray.toList (rowBytes t0))
  (.ret (.tup [.agg [.val (.string ({ data := #[] })), .val (.int .u8 ((0 : Int))), .val (.bool (false)), z0, z0, z0], z0, .val (.int .i64 ((8 : Int)))], []))
  (.ret (.tup [.agg [.val (.string ({ data := #[] })), .val (.int .u8 (Int.fdiv (cellI t0 (4 : Nat) (0 : Nat)) (16 : Int))), .val (.bool (cellI t0 (5 : Nat) (0 : Nat) == (2 : Int))), .val (.int .i64 (IntKind.wrap .i64 ((65520 : Int) - getV t0 (6 : Int) (2 : Int)))), .val (.int .i64 (getV t0 (8 : Int) (8 : Int))), .val (.int .i64 (getV t0 (16 : Int) (8 : Int)))], .val (.int .i64 (getV t0 (0 : Int) (4 : Int))), z0], []))))
  .fail)
  .fail)
  .fail)
  (.ask (pGet [normV (.sl u8s) (handed [] (.arr u8s t0)), handed [] (.val (.int .i64 (8 : Int))), handed [] (.val (.int .i64 (8 : Int)))])
  (.ask (pGet [normV (.sl u8s) (handed [] (.arr u8s t0)), handed [] (.val (.int .i64 (16 : Int))), handed [] (.val (.int .i64 (8 : Int)))])
  (.ask (pSymW [handed [] (.agg [V.val (Value.string { data := #[(120 : UInt8)] }), V.val (.int .u8 (Int.fdiv (cellI t0 (4 : Nat) (0 : Nat)) (16 : Int))), V.val (Value.bool (cellI t0 (5 : Nat) (0 : Nat) == (2 : Int))), V.val (.int .i64 (getV t0 (6 : Int) (2 : Int))), V.val (.int .i64 (getV t0 (8 : Int) (8 : Int))), V.val (.int .i64 (getV t0 (16 : Int) (8 : Int)))]), handed [] (.val (.int .i64 (getV t0 (0 : Int) (4 : Int))))])
  (.ask (symWE { data := #[(120 : UInt8)] } (Int.fdiv (cellI t0 (4 : Nat) (0 : Nat)) (16 : Int)) (cellI t0 (5 : Nat) (0 : Nat) == (2 : Int)) (getV t0 (6 : Int) (2 : Int)) (getV t0 (8 : Int) (8 : Int)) (getV t0 (16 : Int) (8 : Int)) (getV t0 (0 : Int) (4 : Int)) != (0 : Int))
  (.ret (.tup [.agg [.val (.string ({ data := #[] })), .val (.int .u8 ((0 : Int))), .val (.bool (false)), z0, z0, z0], z0, .val (.int .i64 ((8 : Int)))], []))
  (.ask (!ByteArray.toList (rowBytes (if symWok { data := #[(120 : UInt8)] } (Int.fdiv (cellI t0 (4 : Nat) (0 : Nat)) (16 : Int)) (cellI t0 (5 : Nat) (0 : Nat) == (2 : Int)) (getV t0 (6 : Int) (2 : Int)) (getV t0 (8 : Int) (8 : Int)) (getV t0 (16 : Int) (8 : Int)) (getV t0 (0 : Int) (4 : Int)) = true then symB (getV t0 (0 : Int) (4 : Int)) (Int.fdiv (cellI t0 (4 : Nat) (0 : Nat)) (16 : Int)) (cellI t0 (5 : Nat) (0 : Nat) == (2 : Int)) (getV t0 (6 : Int) (2 : Int)) (getV t0 (8 : Int) (8 : Int)) (getV t0 (16 : Int) (8 : Int)) else [])) == ByteArray.toList (rowBytes t0))
  (.ret (.tup [.agg [.val (.string ({ data := #[] })), .val (.int .u8 ((0 : Int))), .val (.bool (false)), z0, z0, z0], z0, .val (.int .i64 ((8 : Int)))], []))
  (.ret (.tup [.agg [.val (.string ({ data := #[] })), .val (.int .u8 (Int.fdiv (cellI t0 (4 : Nat) (0 : Nat)) (16 : Int))), .val (.bool (cellI t0 (5 : Nat) (0 : Nat) == (2 : Int))), .val (.int .i64 (getV t0 (6 : Int) (2 : Int))), .val (.int .i64 (getV t0 (8 : Int) (8 : Int))), .val (.int .i64 (getV t0 (16 : Int) (8 : Int)))], .val (.int .i64 (getV t0 (0 : Int) (4 : Int))), z0], []))))
  .fail)
  .fail)
  .fail))
  .fail)
  .fail)
  .fail)
  .fail))
set_option maxRecDepth 100000 in
theorem syrp0 (n : Nat) (t0 : List (List D)) : exec eq7 (n + 129) (109, Try.f109, 0) syrk0 (syrs0 t0) = Tr.val eq7 (109, Try.f109, 0) n (syrt0 t0) := by kernel_rfl
noncomputable def rlrk0 : List T := [.code (sub (bodyOf Try.f145) [])]
def rlrs0 (t0 : List (List D)) : St := ⟨[(0, .arr u8s t0)], []⟩
noncomputable def rlrt0 (t0 : List (List D)) : Tr := (.ask ((↑(List.length t0) : Int) != (24 : Int))
  (.ret (.tup [.agg [z0, z0, .val (.int .u8 ((0 : Int))), z0, z0], .val (.int .i64 ((3 : Int)))], []))
  (.ask (pGet [normV (.sl u8s) (handed [] (.arr u8s t0)), handed [] (.val (.int .i64 (8 : Int))), handed [] (.val (.int .i64 (4 : Int)))])
  (.ask (pGet [normV (.sl u8s) (handed [] (.arr u8s t0)), handed [] (.val (.int .i64 (0 : Int))), handed [] (.val (.int .i64 (8 : Int)))])
  (.ask (pGet [normV (.sl u8s) (handed [] (.arr u8s t0)), handed [] (.val (.int .i64 (12 : Int))), handed [] (.val (.int .i64 (4 : Int)))])
  (.ask (pGet [normV (.sl u8s) (handed [] (.arr u8s t0)), handed [] (.val (.int .i64 (16 : Int))), handed [] (.val (.int .i64 (8 : Int)))])
  (.ask ((if relWok (getV t0 (0 : Int) (8 : Int)) (IntKind.wrap .u8 (getV t0 (8 : Int) (4 : Int))) (IntKind.wrap .i64 (getV t0 (12 : Int) (4 : Int) - (1 : Int))) (getV t0 (16 : Int) (8 : Int)) = true then (0 : Int) else (8 : Int)) != (0 : Int))
  (.ret (.tup [.agg [z0, z0, .val (.int .u8 ((0 : Int))), z0, z0], .val (.int .i64 ((8 : Int)))], []))
  (.ask (!ByteArray.toList (rowBytes (if relWok (getV t0 (0 : Int) (8 : Int)) (IntKind.wrap .u8 (getV t0 (8 : Int) (4 : Int))) (IntKind.wrap .i64 (getV t0 (12 : Int) (4 : Int) - (1 : Int))) (getV t0 (16 : Int) (8 : Int)) = true then relB (getV t0 (0 : Int) (8 : Int)) (IntKind.wrap .u8 (getV t0 (8 : Int) (4 : Int))) (IntKind.wrap .i64 (getV t0 (12 : Int) (4 : Int) - (1 : Int))) (getV t0 (16 : Int) (8 : Int)) else [])) == ByteArray.toList (rowBytes t0))
  (.ret (.tup [.agg [z0, z0, .val (.int .u8 ((0 : Int))), z0, z0], .val (.int .i64 ((8 : Int)))], []))
  (.ret (.tup [.agg [z0, .val (.int .i64 (getV t0 (0 : Int) (8 : Int))), .val (.int .u8 (IntKind.wrap .u8 (getV t0 (8 : Int) (4 : Int)))), .val (.int .i64 (IntKind.wrap .i64 (getV t0 (12 : Int) (4 : Int) - (1 : Int)))), .val (.int .i64 (getV t0 (16 : Int) (8 : Int)))], z0], []))))
  .fail)
  .fail)
  .fail)
  .fail))
set_option maxRecDepth 100000 in
theorem rlrp0 (n : Nat) (t0 : List (List D)) : exec eq7 (n + 101) (145, Try.f145, 0) rlrk0 (rlrs0 t0) = Tr.val eq7 (145, Try.f145, 0) n (rlrt0 t0) := by kernel_rfl
noncomputable def bclk0 : List T := [.code (sub (bodyOf Try.f43) [])]
def bcls0 (t0 : List (List D)) : St := ⟨[(0, .arr u8s t0)], []⟩
noncomputable def bclt0 (t0 : List (List D)) : Tr := (.ask (decide ((0 : Nat) < List.length t0))
  (.ask (decide (((0 : Nat) + List.length t0) * (1 : Nat) ≤ (70368744177664 : Nat)) && decide ((0 : Nat) + List.length t0 ≤ (70368744177664 : Nat)))
  (.ret (.own u8s (t0), []))
  .fail)
  .fail)
set_option maxRecDepth 100000 in
theorem bclp0 (n : Nat) (t0 : List (List D)) : exec eq7 (n + 20) (43, Try.f43, 0) bclk0 (bcls0 t0) = Tr.val eq7 (43, Try.f43, 0) n (bclt0 t0) := by kernel_rfl
noncomputable def beqk0 : List T := [.code (sub (bodyOf Try.f46) [])]
def beqs0 (t0 t1 : List (List D)) : St := ⟨[(0, .arr u8s t0), (1, .arr u8s t1)], []⟩
noncomputable def beqt0 (t0 t1 : List (List D)) : Tr := (.ret (.val (.bool (ByteArray.toList (rowBytes t0) == ByteArray.toList (rowBytes t1))), []))
set_option maxRecDepth 100000 in
theorem beqp0 (n : Nat) (t0 t1 : List (List D)) : exec eq7 (n + 14) (46, Try.f46, 0) beqk0 (beqs0 t0 t1) = Tr.val eq7 (46, Try.f46, 0) n (beqt0 t0 t1) := by kernel_rfl
noncomputable def numk0 : List T := [.code (sub (bodyOf Try.f142) [])]
def nums0 (t1 : List (List D)) (t2 t3 : Int) (o0_0 o0_1 o0_2 o0_3 o0_4 o0_5 : List (List D)) (o0_6 : Int) : St := ⟨[(0, .ptr (.out 0) 0), (1, .arr u8s t1), (2, .val (.int .i64 t2)), (3, .val (.int .i64 t3))], [(.out 0, [.arr u8s o0_0, .own hdT o0_1, .own secC o0_2, .own symC o0_3, .own relC o0_4, .own grpC o0_5, .val (.int .i64 o0_6)])]⟩
noncomputable def numt0 (t1 : List (List D)) (t2 t3 : Int) (o0_0 o0_1 o0_2 o0_3 o0_4 o0_5 : List (List D)) (o0_6 : Int) : Tr := (.ask (pGet [normV (.sl u8s) (handed [] (.arr u8s t1)), handed [] (.val (.int .i64 t2)), handed [] (.val (.int .i64 t3))])
  (.ask (getE t1 t2 t3 != (0 : Int))
  (.ask (o0_6 == (0 : Int))
  (.ret (.val (.int .i64 (getV t1 t2 t3)), [[.arr u8s (o0_0), .own hdT (o0_1), .own secC (o0_2), .own symC (o0_3), .own relC (o0_4), .own grpC (o0_5), .val (.int .i64 ((8 : Int)))]]))
  (.ret (.val (.int .i64 (getV t1 t2 t3)), [[.arr u8s (o0_0), .own hdT (o0_1), .own secC (o0_2), .own symC (o0_3), .own relC (o0_4), .own grpC (o0_5), .val (.int .i64 (o0_6))]])))
  (.ret (.val (.int .i64 (getV t1 t2 t3)), [[.arr u8s (o0_0), .own hdT (o0_1), .own secC (o0_2), .own symC (o0_3), .own relC (o0_4), .own grpC (o0_5), .val (.int .i64 (o0_6))]])))
  .fail)
set_option maxRecDepth 100000 in
theorem nump0 (n : Nat) (t1 : List (List D)) (t2 t3 : Int) (o0_0 o0_1 o0_2 o0_3 o0_4 o0_5 : List (List D)) (o0_6 : Int) : exec eq7 (n + 42) (142, Try.f142, 1) numk0 (nums0 t1 t2 t3 o0_0 o0_1 o0_2 o0_3 o0_4 o0_5 o0_6) = Tr.val eq7 (142, Try.f142, 1) n (numt0 t1 t2 t3 o0_0 o0_1 o0_2 o0_3 o0_4 o0_5 o0_6) := by kernel_rfl
noncomputable def rctk0 : List T := [.code (sub (bodyOf Try.f143) [])]
def rcts0 (t1 t2 : Int) (o0_0 o0_1 o0_2 o0_3 o0_4 o0_5 : List (List D)) (o0_6 : Int) : St := ⟨[(0, .ptr (.out 0) 0), (1, .val (.int .i64 t1)), (2, .val (.int .i64 t2))], [(.out 0, [.arr u8s o0_0, .own hdT o0_1, .own secC o0_2, .own symC o0_3, .own relC o0_4, .own grpC o0_5, .val (.int .i64 o0_6)])]⟩
noncomputable def rctt0 (t1 t2 : Int) (o0_0 o0_1 o0_2 o0_3 o0_4 o0_5 : List (List D)) (o0_6 : Int) : Tr := (.ask (o0_6 != (0 : Int))
  (.ret (.val nilSlice, [[.arr u8s (o0_0), .own hdT (o0_1), .own secC (o0_2), .own symC (o0_3), .own relC (o0_4), .own grpC (o0_5), .val (.int .i64 ((8 : Int)))]]))
  (.ask (decide (t1 < (0 : Int)))
  (.ret (.val nilSlice, [[.arr u8s (o0_0), .own hdT (o0_1), .own secC (o0_2), .own symC (o0_3), .own relC (o0_4), .own grpC (o0_5), .val (.int .i64 ((8 : Int)))]]))
  (.ask (decide (t2 < (0 : Int)))
  (.ret (.val nilSlice, [[.arr u8s (o0_0), .own hdT (o0_1), .own secC (o0_2), .own symC (o0_3), .own relC (o0_4), .own grpC (o0_5), .val (.int .i64 ((8 : Int)))]]))
  (.ask (decide (t1 > (↑(List.length o0_0) : Int)))
  (.ret (.val nilSlice, [[.arr u8s (o0_0), .own hdT (o0_1), .own secC (o0_2), .own symC (o0_3), .own relC (o0_4), .own grpC (o0_5), .val (.int .i64 ((8 : Int)))]]))
  (.ask (decide (t2 > IntKind.wrap .i64 ((↑(List.length o0_0) : Int) - t1)))
  (.ret (.val nilSlice, [[.arr u8s (o0_0), .own hdT (o0_1), .own secC (o0_2), .own symC (o0_3), .own relC (o0_4), .own grpC (o0_5), .val (.int .i64 ((8 : Int)))]]))
  (.ask (okBounds t1 (IntKind.wrap .i64 (t1 + t2)) (IntKind.wrap .i64 (t1 + t2)) && decide (IntKind.wrap .i64 (t1 + t2) ≤ (↑(List.length o0_0) : Int)))
  (.ret (.arr u8s (cut o0_0 t1 (IntKind.wrap .i64 (t1 + t2))), [[.arr u8s (o0_0), .own hdT (o0_1), .own secC (o0_2), .own symC (o0_3), .own relC (o0_4), .own grpC (o0_5), .val (.int .i64 (o0_6))]]))
  .fail))))))
set_option maxRecDepth 100000 in
theorem rctp0 (n : Nat) (t1 t2 : Int) (o0_0 o0_1 o0_2 o0_3 o0_4 o0_5 : List (List D)) (o0_6 : Int) : exec eq7 (n + 60) (143, Try.f143, 1) rctk0 (rcts0 t1 t2 o0_0 o0_1 o0_2 o0_3 o0_4 o0_5 o0_6) = Tr.val eq7 (143, Try.f143, 1) n (rctt0 t1 t2 o0_0 o0_1 o0_2 o0_3 o0_4 o0_5 o0_6) := by kernel_rfl
noncomputable def bhpk0 : List T := [.code (sub (bodyOf Try.f94) [])]
def bhps0 (t0 t1 : List (List D)) : St := ⟨[(0, .arr u8s t0), (1, .arr u8s t1)], []⟩
noncomputable def bhpt0 (t0 t1 : List (List D)) : Tr := (.ask (decide ((↑(List.length t0) : Int) ≥ (↑(List.length t1) : Int)))
  (.ask (okBounds (0 : Int) (↑(List.length t1) : Int) (↑(List.length t0) : Int))
  (.ret (.val (.bool (sameB (cut t0 (0 : Int) (↑(List.length t1) : Int)) t1)), []))
  .fail)
  (.ret (.val (.bool (false)), [])))
set_option maxRecDepth 100000 in
theorem bhpp0 (n : Nat) (t0 t1 : List (List D)) : exec er1 (n + 22) (94, Try.f94, 0) bhpk0 (bhps0 t0 t1) = Tr.val er1 (94, Try.f94, 0) n (bhpt0 t0 t1) := by kernel_rfl
noncomputable def rnmk0 : List T := [.code (sub (bodyOf Try.f144) [])]
def rnms0 (t1 t2 : Int) (o0_0 o0_1 o0_2 o0_3 o0_4 o0_5 : List (List D)) (o0_6 : Int) : St := ⟨[(0, .ptr (.out 0) 0), (1, .val (.int .i64 t1)), (2, .val (.int .i64 t2))], [(.out 0, [.arr u8s o0_0, .own hdT o0_1, .own secC o0_2, .own symC o0_3, .own relC o0_4, .own grpC o0_5, .val (.int .i64 o0_6)])]⟩
noncomputable def rnmt0 (t1 t2 : Int) (o0_0 o0_1 o0_2 o0_3 o0_4 o0_5 : List (List D)) (o0_6 : Int) : Tr := (.ask (decide ((0 : Int) ≤ t1) && decide (t1 < (↑(List.length o0_1) : Int)))
  (.ask (pCut [handed [Key.out (0 : Nat)] (V.ptr (Key.out (0 : Nat)) (0 : Nat)), handed [Key.out (0 : Nat)] (V.val (.int .i64 (cellI o0_1 (Int.toNat t1) (4 : Nat)))), handed [Key.out (0 : Nat)] (V.val (.int .i64 (cellI o0_1 (Int.toNat t1) (5 : Nat))))] [V.arr u8s o0_0, V.own hdT o0_1, V.own secC o0_2, V.own symC o0_3, V.own relC o0_4, V.own grpC o0_5, V.val (.int .i64 o0_6)])
  (.ask (getSE (cutV o0_0 (cellI o0_1 (Int.toNat t1) (4 : Nat)) (cellI o0_1 (Int.toNat t1) (5 : Nat)) o0_6) t2 != (0 : Int))
  (.ret (.val (.string (getS (cutV o0_0 (cellI o0_1 (Int.toNat t1) (4 : Nat)) (cellI o0_1 (Int.toNat t1) (5 : Nat)) o0_6) t2)), [[.arr u8s (o0_0), .own hdT (o0_1), .own secC (o0_2), .own symC (o0_3), .own relC (o0_4), .own grpC (o0_5), .val (.int .i64 ((8 : Int)))]]))
  (.ret (.val (.string (getS (cutV o0_0 (cellI o0_1 (Int.toNat t1) (4 : Nat)) (cellI o0_1 (Int.toNat t1) (5 : Nat)) o0_6) t2)), [[.arr u8s (o0_0), .own hdT (o0_1), .own secC (o0_2), .own symC (o0_3), .own relC (o0_4), .own grpC (o0_5), .val (.int .i64 (cutE o0_0 (cellI o0_1 (Int.toNat t1) (4 : Nat)) (cellI o0_1 (Int.toNat t1) (5 : Nat)) o0_6))]])))
  .fail)
  .fail)
set_option maxRecDepth 100000 in
theorem rnmp0 (n : Nat) (t1 t2 : Int) (o0_0 o0_1 o0_2 o0_3 o0_4 o0_5 : List (List D)) (o0_6 : Int) : exec er1 (n + 51) (144, Try.f144, 1) rnmk0 (rnms0 t1 t2 o0_0 o0_1 o0_2 o0_3 o0_4 o0_5 o0_6) = Tr.val er1 (144, Try.f144, 1) n (rnmt0 t1 t2 o0_0 o0_1 o0_2 o0_3 o0_4 o0_5 o0_6) := by kernel_rfl
noncomputable def bcnk0 : List T := [.code (sub (bodyOf Try.f43) [])]
def bcns0  : St := ⟨[(0, .val nilSlice)], []⟩
noncomputable def bcnt0  : Tr := (.ret (.val nilSlice, []))
set_option maxRecDepth 100000 in
theorem bcnp0 (n : Nat)  : exec eq7 (n + 16) (43, Try.f43, 0) bcnk0 (bcns0 ) = Tr.val eq7 (43, Try.f43, 0) n (bcnt0 ) := by kernel_rfl
noncomputable def bcsk0 : List T := [.code (sub (bodyOf Try.f43) [])]
def bcss0 (p : Addr) (c : Nat) : St := ⟨[(0, .val (Value.slice (some p) (0 : Nat) c))], []⟩
noncomputable def bcst0  : Tr := (.ret (.own u8s ([]), []))
set_option maxRecDepth 100000 in
theorem bcsp0 (n : Nat) (p : Addr) (c : Nat) : exec eq7 (n + 20) (43, Try.f43, 0) bcsk0 (bcss0 p c) = Tr.val eq7 (43, Try.f43, 0) n (bcst0 ) := by kernel_rfl
end Go.Proofs.Ytkcopbnaleiocaa.Ev
