/- What the pieces of the runs come to, as a program printed it: each is checked by the kernel. -/
import Derived.Test.YtkcopbnaleiocaaEqD
namespace Go.Proofs.Ytkcopbnaleiocaa.Ev
open Go
set_option linter.unusedVariables false
noncomputable def alvk0 : List T := [.code (sub (bodyOf Try.f25) [])]
def alvs0  : St := ⟨[], []⟩
noncomputable def alvt0  : Tr := (.ret (.val (.bool (true)), []))
set_option maxRecDepth 100000 in
theorem alvp0 (n : Nat)  : exec ep6 (n + 38) (25, Try.f25, 0) alvk0 (alvs0 ) = Tr.val ep6 (25, Try.f25, 0) n (alvt0 ) := by kernel_rfl
noncomputable def txtk0 : List T := [.code (sub (bodyOf Try.f23) [])]
def txts0 (t0 : List (List D)) : St := ⟨[(0, .arr relC t0)], []⟩
noncomputable def txtt0 (t0 : List (List D)) : Tr := (.ret (.agg [.arr secC ([[D.str { data := #[(46 : UInt8), (116 : UInt8), (101 : UInt8), (120 : UInt8), (116 : UInt8)] }, D.int (4 : Int), D.arr [[D.int (0 : Int)], [D.int (0 : Int)], [D.int (0 : Int)], [D.int (0 : Int)], [D.int (0 : Int)], [D.int (0 : Int)], [D.int (0 : Int)], [D.int (0 : Int)]], D.int (0 : Int)]]), .arr symC ([[D.str { data := #[(102 : UInt8)] }, D.int (1 : Int), D.bool false, D.int (0 : Int), D.int (0 : Int), D.int (0 : Int)]]), .arr relC (t0), .val nilSlice], []))
set_option maxRecDepth 100000 in
theorem txtp0 (n : Nat) (t0 : List (List D)) : exec em4 (n + 16) (23, Try.f23, 0) txtk0 (txts0 t0) = Tr.val em4 (23, Try.f23, 0) n (txtt0 t0) := by kernel_rfl
noncomputable def enmk0 : List T := [.code (sub (bodyOf Try.f4) [])]
def enms0  : St := ⟨[], []⟩
noncomputable def enmk1 : List T := [.code (sub (bodyOf Try.f4) [1, 1, 1, 1, 1, 1, 1, 1, 0, 1, 0, 0]), .lp (sub (bodyOf Try.f4) [1, 1, 1, 1, 1, 1, 1, 1, 0, 1, 0, 0]), .blk 0, .code (sub (bodyOf Try.f4) [1, 1, 1, 1, 1, 1, 1, 1, 1])]
def enms1 (t1 t2 t6 : Int) (b3_0 b3_1 b3_2 b4_0 b4_1 b4_2 : List (List D)) : St := ⟨[(1, .val (.int .i64 t1)), (2, .val (.int .i64 t2)), (3, .ptr (.loc 3) 0), (4, .ptr (.loc 4) 0), (5, .ptr (.loc 5) 0), (6, .val (.int .i64 t6))], [(.loc 3, [.arr secC b3_0, .own symC b3_1, .arr relC b3_2, .val nilSlice]), (.loc 4, [.arr secC b4_0, .own symC b4_1, .arr relC b4_2, .val nilSlice]), (.loc 5, [.val nilSlice, .val nilSlice, .val nilSlice, .val nilSlice])]⟩
noncomputable def enmk2 : List T := [.code (sub (bodyOf Try.f4) [1, 1, 1, 1, 1, 1, 1, 1, 0, 1, 0, 0]), .lp (sub (bodyOf Try.f4) [1, 1, 1, 1, 1, 1, 1, 1, 0, 1, 0, 0]), .blk 0, .code (sub (bodyOf Try.f4) [1, 1, 1, 1, 1, 1, 1, 1, 1])]
def enms2 (t1 t2 t6 : Int) (b3_0 b3_1 b3_2 b4_0 b4_1 b4_2 b5_0 : List (List D)) : St := ⟨[(1, .val (.int .i64 t1)), (2, .val (.int .i64 t2)), (3, .ptr (.loc 3) 0), (4, .ptr (.loc 4) 0), (5, .ptr (.loc 5) 0), (6, .val (.int .i64 t6))], [(.loc 3, [.arr secC b3_0, .own symC b3_1, .arr relC b3_2, .val nilSlice]), (.loc 4, [.arr secC b4_0, .own symC b4_1, .arr relC b4_2, .val nilSlice]), (.loc 5, [.own secC b5_0, .val nilSlice, .val nilSlice, .val nilSlice])]⟩
noncomputable def enmt0  : Tr := (.go 0 enmk1 (enms1 ((8 : Int)) ((0 : Int)) ((0 : Int)) ([[D.str sTxt, D.int (4 : Int), D.arr [[D.int (0 : Int)], [D.int (0 : Int)], [D.int (0 : Int)], [D.int (0 : Int)], [D.int (0 : Int)], [D.int (0 : Int)], [D.int (0 : Int)], [D.int (0 : Int)]], D.int (0 : Int)]]) ([[D.str { data := #[(102 : UInt8)] }, D.int (1 : Int), D.bool false, D.int (0 : Int), D.int (0 : Int), D.int (0 : Int)], [D.str { data := #[(108 : UInt8)] }, D.int (0 : Int), D.bool false, D.int (1 : Int), D.int (0 : Int), D.int (0 : Int)]]) ([]) ([[D.str sTxt, D.int (4 : Int), D.arr [[D.int (0 : Int)], [D.int (0 : Int)], [D.int (0 : Int)], [D.int (0 : Int)], [D.int (0 : Int)], [D.int (0 : Int)], [D.int (0 : Int)], [D.int (0 : Int)]], D.int (0 : Int)]]) ([[D.str { data := #[(102 : UInt8)] }, D.int (1 : Int), D.bool false, D.int (0 : Int), D.int (0 : Int), D.int (0 : Int)], [D.str { data := #[(102 : UInt8)] }, D.int (2 : Int), D.bool false, D.int (0 : Int), D.int (0 : Int), D.int (0 : Int)]]) ([])))
set_option maxRecDepth 100000 in
theorem enmp0 (n : Nat)  : exec eq7 (n + 63) (4, Try.f4, 0) enmk0 (enms0 ) = Tr.val eq7 (4, Try.f4, 0) n (enmt0 ) := by kernel_rfl
noncomputable def enmt1 (t1 t2 t6 : Int) (b3_0 b3_1 b3_2 b4_0 b4_1 b4_2 : List (List D)) : Tr := (.ask (decide (t6 < (16 : Int)))
  (.go 21 enmk2 (enms2 (t1) (t2) (IntKind.wrap .i64 (t6 + (1 : Int))) (b3_0) (b3_1) (b3_2) (b4_0) (b4_1) (b4_2) ([[D.str { data := #[(46 : UInt8), (100 : UInt8), (97 : UInt8), (116 : UInt8), (97 : UInt8)] }, D.int (1 : Int), D.arr (List.replicate (4096 : Nat) [D.int (0 : Int)]), D.int (0 : Int)]])))
  (.ask (t1 == (8 : Int))
  (.ask (t2 == (0 : Int))
  (.ask (pChkO [normV (.ag [some secC, some symC, some relC, some grpC]) (handed [] (.agg [V.arr secC b3_0, V.arr symC b3_1, V.arr relC b3_2, V.val (Value.slice none (0 : Nat) (0 : Nat))]))])
  (.ask ((if chkB b3_0 b3_1 b3_2 [] = true then (0 : Int) else (8 : Int)) == (8 : Int))
  (.ask (pChkO [normV (.ag [some secC, some symC, some relC, some grpC]) (handed [] (.agg [V.arr secC b4_0, V.arr symC b4_1, V.arr relC b4_2, V.val (Value.slice none (0 : Nat) (0 : Nat))]))])
  (.ask ((if chkB b4_0 b4_1 b4_2 [] = true then (0 : Int) else (8 : Int)) == (8 : Int))
  (.ret (.val (.bool (false)), []))
  (.ret (.val (.bool (false)), [])))
  .fail)
  (.ret (.val (.bool (false)), [])))
  .fail)
  (.ret (.val (.bool (false)), [])))
  (.ret (.val (.bool (false)), []))))
set_option maxRecDepth 100000 in
theorem enmp1 (n : Nat) (t1 t2 t6 : Int) (b3_0 b3_1 b3_2 b4_0 b4_1 b4_2 : List (List D)) : exec eq7 (n + 48) (4, Try.f4, 0) enmk1 (enms1 t1 t2 t6 b3_0 b3_1 b3_2 b4_0 b4_1 b4_2) = Tr.val eq7 (4, Try.f4, 0) n (enmt1 t1 t2 t6 b3_0 b3_1 b3_2 b4_0 b4_1 b4_2) := by kernel_rfl
noncomputable def enmt2 (t1 t2 t6 : Int) (b3_0 b3_1 b3_2 b4_0 b4_1 b4_2 b5_0 : List (List D)) : Tr := (.ask (decide (t6 < (16 : Int)))
  (.ask (decide ((List.length b5_0 + (1 : Nat)) * (56 : Nat) ≤ (70368744177664 : Nat)) && decide (List.length b5_0 + (1 : Nat) ≤ (70368744177664 : Nat)))
  (.go 21 enmk2 (enms2 (t1) (t2) (IntKind.wrap .i64 (t6 + (1 : Int))) (b3_0) (b3_1) (b3_2) (b4_0) (b4_1) (b4_2) (b5_0 ++ [[D.str { data := #[(46 : UInt8), (100 : UInt8), (97 : UInt8), (116 : UInt8), (97 : UInt8)] }, D.int (1 : Int), D.arr (List.replicate (4096 : Nat) [D.int (0 : Int)]), D.int (0 : Int)]])))
  .fail)
  (.ask (pWrt [normV (.ag [some secC, some symC, some relC, some grpC]) (handed [] (.agg [V.arr secC b5_0, V.val (Value.slice none (0 : Nat) (0 : Nat)), V.val (Value.slice none (0 : Nat) (0 : Nat)), V.val (Value.slice none (0 : Nat) (0 : Nat))]))])
  (.ask (t1 == (8 : Int))
  (.ask (t2 == (0 : Int))
  (.ask (pChkO [normV (.ag [some secC, some symC, some relC, some grpC]) (handed [] (.agg [V.arr secC b3_0, V.arr symC b3_1, V.arr relC b3_2, V.val (Value.slice none (0 : Nat) (0 : Nat))]))])
  (.ask ((if chkB b3_0 b3_1 b3_2 [] = true then (0 : Int) else (8 : Int)) == (8 : Int))
  (.ask (pChkO [normV (.ag [some secC, some symC, some relC, some grpC]) (handed [] (.agg [V.arr secC b4_0, V.arr symC b4_1, V.arr relC b4_2, V.val (Value.slice none (0 : Nat) (0 : Nat))]))])
  (.ask ((if chkB b4_0 b4_1 b4_2 [] = true then (0 : Int) else (8 : Int)) == (8 : Int))
  (.ret (.val (.bool (wrE b5_0 [] [] [] == (9 : Int))), []))
  (.ret (.val (.bool (false)), [])))
  .fail)
  (.ret (.val (.bool (false)), [])))
  .fail)
  (.ret (.val (.bool (false)), [])))
  (.ret (.val (.bool (false)), [])))
  .fail))
set_option maxRecDepth 100000 in
theorem enmp2 (n : Nat) (t1 t2 t6 : Int) (b3_0 b3_1 b3_2 b4_0 b4_1 b4_2 b5_0 : List (List D)) : exec eq7 (n + 48) (4, Try.f4, 0) enmk2 (enms2 t1 t2 t6 b3_0 b3_1 b3_2 b4_0 b4_1 b4_2 b5_0) = Tr.val eq7 (4, Try.f4, 0) n (enmt2 t1 t2 t6 b3_0 b3_1 b3_2 b4_0 b4_1 b4_2 b5_0) := by kernel_rfl
end Go.Proofs.Ytkcopbnaleiocaa.Ev
