/- What the pieces of the runs come to, as a program printed it: each is checked by the kernel. -/
import Derived.Test.YtacfehneeanlgaaDoorRyD
namespace Go.Proofs.YtacfehneeanlgaaDoor.Ev
open Go
set_option linter.unusedVariables false
noncomputable def empk0 : List T := [.code (sub (bodyOf Go.Proofs.Tryd.f7) [])]
def emps0 (t0 : List (List D)) : St := ⟨[(0, .arr [.int .i64, .int .i64, .arr secC, .arr symC, .arr relC, .arr grpC, .arr [.bool]] t0)], []⟩
noncomputable def empk1 : List T := [.code (sub (bodyOf Go.Proofs.Tryd.f7) [1, 1, 1, 0, 1, 0]), .code (sub (bodyOf Go.Proofs.Tryd.f7) [1, 1, 1, 1])]
def emps1 (t0 : List (List D)) (t3 t26 : Bool) : St := ⟨[(0, .arr [.int .i64, .int .i64, .arr secC, .arr symC, .arr relC, .arr grpC, .arr [.bool]] t0), (3, .val (.bool t3)), (26, .val (.bool t26))], []⟩
noncomputable def empk2 : List T := [.code (sub (bodyOf Go.Proofs.Tryd.f7) [1, 1, 1, 1, 1, 1, 1, 1, 1, 1, 1, 1, 1, 1, 0, 1, 0, 0, 1, 0, 0, 1, 1, 0, 0, 1, 0, 0, 1, 1, 1, 1]), .code (sub (bodyOf Go.Proofs.Tryd.f7) [1, 1, 1, 1])]
def emps2 (t0 : List (List D)) (t3 t26 : Bool) : St := ⟨[(0, .arr [.int .i64, .int .i64, .arr secC, .arr symC, .arr relC, .arr grpC, .arr [.bool]] t0), (3, .val (.bool t3)), (26, .val (.bool t26))], []⟩
noncomputable def empk3 : List T := [.code (sub (bodyOf Go.Proofs.Tryd.f7) [1, 1, 1, 1, 1, 1])]
def emps3 (t0 : List (List D)) (t3 : Bool) (t4 t5 : List (List D)) (t6 : Int) : St := ⟨[(0, .arr [.int .i64, .int .i64, .arr secC, .arr symC, .arr relC, .arr grpC, .arr [.bool]] t0), (3, .val (.bool t3)), (4, .own [.int .i64, .int .i64, .arr secC, .arr symC, .arr relC, .arr grpC, .arr [.bool]] t4), (5, .arr [.arr [.int .i64, .int .i64]] t5), (6, .val (.int .i64 t6))], []⟩
noncomputable def empk4 : List T := [.code (sub (bodyOf Go.Proofs.Tryd.f7) [1, 1, 1, 1, 1, 1, 1, 1, 0, 1, 0]), .code (sub (bodyOf Go.Proofs.Tryd.f7) [1, 1, 1, 1, 1, 1, 1, 1, 1])]
def emps4 (t0 : List (List D)) (t3 : Bool) (t4 t5 : List (List D)) (t6 : Int) (t7 : List (List D)) (t8 : Int) (t9 : List (List D)) (t10 : Int) (t52 : Bool) : St := ⟨[(0, .arr [.int .i64, .int .i64, .arr secC, .arr symC, .arr relC, .arr grpC, .arr [.bool]] t0), (3, .val (.bool t3)), (4, .arr [.int .i64, .int .i64, .arr secC, .arr symC, .arr relC, .arr grpC, .arr [.bool]] t4), (5, .arr [.arr [.int .i64, .int .i64]] t5), (6, .val (.int .i64 t6)), (7, .arr [.arr [.int .i64, .int .i64]] t7), (8, .val (.int .i64 t8)), (9, .arr [.str] t9), (10, .val (.int .i64 t10)), (52, .val (.bool t52))], []⟩
noncomputable def empk5 : List T := [.code (sub (bodyOf Go.Proofs.Tryd.f7) [1, 1, 1, 1, 1, 1, 1, 1, 1, 1, 1, 1, 1, 1, 0, 1, 0, 0, 1, 0, 0, 1, 1, 0, 0, 1, 0, 0, 1, 1, 1, 1]), .code (sub (bodyOf Go.Proofs.Tryd.f7) [1, 1, 1, 1, 1, 1, 1, 1, 1])]
def emps5 (t0 : List (List D)) (t3 : Bool) (t4 t5 : List (List D)) (t6 : Int) (t7 : List (List D)) (t8 : Int) (t9 : List (List D)) (t10 : Int) (t52 : Bool) : St := ⟨[(0, .arr [.int .i64, .int .i64, .arr secC, .arr symC, .arr relC, .arr grpC, .arr [.bool]] t0), (3, .val (.bool t3)), (4, .arr [.int .i64, .int .i64, .arr secC, .arr symC, .arr relC, .arr grpC, .arr [.bool]] t4), (5, .arr [.arr [.int .i64, .int .i64]] t5), (6, .val (.int .i64 t6)), (7, .arr [.arr [.int .i64, .int .i64]] t7), (8, .val (.int .i64 t8)), (9, .arr [.str] t9), (10, .val (.int .i64 t10)), (52, .val (.bool t52))], []⟩
noncomputable def empk6 : List T := [.code (sub (bodyOf Go.Proofs.Tryd.f7) [1, 1, 1, 1, 1, 1, 1, 1, 1, 1, 0, 1]), .code (sub (bodyOf Go.Proofs.Tryd.f7) [1, 1, 1, 1, 1, 1, 1, 1, 1, 1, 1])]
def emps6 (t0 : List (List D)) (t3 : Bool) (t5 : List (List D)) (t6 : Int) (t7 t9 t11 : List (List D)) (t80 : Bool) : St := ⟨[(0, .arr [.int .i64, .int .i64, .arr secC, .arr symC, .arr relC, .arr grpC, .arr [.bool]] t0), (3, .val (.bool t3)), (5, .arr [.arr [.int .i64, .int .i64]] t5), (6, .val (.int .i64 t6)), (7, .arr [.arr [.int .i64, .int .i64]] t7), (9, .arr [.str] t9), (11, .arr [.str] t11), (80, .val (.bool t80))], []⟩
noncomputable def empk7 : List T := [.code (sub (bodyOf Go.Proofs.Tryd.f7) [1, 1, 1, 1, 1, 1, 1, 1, 1, 1, 1, 0, 1, 0, 0]), .lp (sub (bodyOf Go.Proofs.Tryd.f7) [1, 1, 1, 1, 1, 1, 1, 1, 1, 1, 1, 0, 1, 0, 0]), .blk 0, .code (sub (bodyOf Go.Proofs.Tryd.f7) [1, 1, 1, 1, 1, 1, 1, 1, 1, 1, 1, 1])]
def emps7 (t0 : List (List D)) (t3 : Bool) (t5 : List (List D)) (t6 : Int) (t7 t9 t11 : List (List D)) (t13 : Int) : St := ⟨[(0, .arr [.int .i64, .int .i64, .arr secC, .arr symC, .arr relC, .arr grpC, .arr [.bool]] t0), (3, .val (.bool t3)), (5, .arr [.arr [.int .i64, .int .i64]] t5), (6, .val (.int .i64 t6)), (7, .arr [.arr [.int .i64, .int .i64]] t7), (9, .arr [.str] t9), (11, .arr [.str] t11), (13, .val (.int .i64 t13))], []⟩
noncomputable def empk8 : List T := [.code (sub (bodyOf Go.Proofs.Tryd.f7) [1, 1, 1, 1, 1, 1, 1, 1, 1, 1, 1, 0, 1, 0, 0, 1, 0, 0, 1]), .blk 1, .code (sub (bodyOf Go.Proofs.Tryd.f7) [1, 1, 1, 1, 1, 1, 1, 1, 1, 1, 1, 0, 1, 0, 0, 1, 1]), .lp (sub (bodyOf Go.Proofs.Tryd.f7) [1, 1, 1, 1, 1, 1, 1, 1, 1, 1, 1, 0, 1, 0, 0]), .blk 0, .code (sub (bodyOf Go.Proofs.Tryd.f7) [1, 1, 1, 1, 1, 1, 1, 1, 1, 1, 1, 1])]
def emps8 (t0 : List (List D)) (t3 : Bool) (t5 : List (List D)) (t6 : Int) (t7 t9 t11 : List (List D)) (t13 : Int) (t111 : Bool) : St := ⟨[(0, .arr [.int .i64, .int .i64, .arr secC, .arr symC, .arr relC, .arr grpC, .arr [.bool]] t0), (3, .val (.bool t3)), (5, .arr [.arr [.int .i64, .int .i64]] t5), (6, .val (.int .i64 t6)), (7, .arr [.arr [.int .i64, .int .i64]] t7), (9, .arr [.str] t9), (11, .arr [.str] t11), (13, .val (.int .i64 t13)), (111, .val (.bool t111))], []⟩
noncomputable def empk9 : List T := [.code (sub (bodyOf Go.Proofs.Tryd.f7) [1, 1, 1, 1, 1, 1, 1, 1, 1, 1, 1, 1, 1, 1, 1, 1]), .code (sub (bodyOf Go.Proofs.Tryd.f7) [1, 1, 1, 1, 1, 1, 1, 1, 1, 1, 1, 1, 1])]
def emps9 (t2 : Bool) : St := ⟨[(2, .val (.bool t2))], []⟩
noncomputable def empk10 : List T := [.code (sub (bodyOf Go.Proofs.Tryd.f7) [1, 1, 1, 1, 1, 1, 1, 1, 1, 1, 1, 1, 1, 0, 1]), .code (sub (bodyOf Go.Proofs.Tryd.f7) [1, 1, 1, 1, 1, 1, 1, 1, 1, 1, 1, 1, 1, 1])]
def emps10 (t0 : List (List D)) (t3 : Bool) (t5 t7 : List (List D)) (t154 : Bool) : St := ⟨[(0, .arr [.int .i64, .int .i64, .arr secC, .arr symC, .arr relC, .arr grpC, .arr [.bool]] t0), (3, .val (.bool t3)), (5, .arr [.arr [.int .i64, .int .i64]] t5), (7, .arr [.arr [.int .i64, .int .i64]] t7), (154, .val (.bool t154))], []⟩
noncomputable def empk11 : List T := [.code (sub (bodyOf Go.Proofs.Tryd.f7) [1, 1, 1, 1, 1, 1, 1, 1, 1, 1, 1, 1, 1, 1, 0, 1, 0, 0]), .lp (sub (bodyOf Go.Proofs.Tryd.f7) [1, 1, 1, 1, 1, 1, 1, 1, 1, 1, 1, 1, 1, 1, 0, 1, 0, 0]), .blk 2, .code (sub (bodyOf Go.Proofs.Tryd.f7) [1, 1, 1, 1, 1, 1, 1, 1, 1, 1, 1, 1, 1, 1, 1])]
def emps11 (t0 : List (List D)) (t3 : Bool) (t5 t7 : List (List D)) (t14 : Int) : St := ⟨[(0, .arr [.int .i64, .int .i64, .arr secC, .arr symC, .arr relC, .arr grpC, .arr [.bool]] t0), (3, .val (.bool t3)), (5, .arr [.arr [.int .i64, .int .i64]] t5), (7, .arr [.arr [.int .i64, .int .i64]] t7), (14, .val (.int .i64 t14))], []⟩
noncomputable def empk12 : List T := [.code (sub (bodyOf Go.Proofs.Tryd.f7) [1, 1, 1, 1, 1, 1, 1, 1, 1, 1, 1, 1, 1, 1, 0, 1, 0, 0, 1, 0, 0, 0, 1]), .code (sub (bodyOf Go.Proofs.Tryd.f7) [1, 1, 1, 1, 1, 1, 1, 1, 1, 1, 1, 1, 1, 1, 0, 1, 0, 0, 1, 0, 0, 1]), .blk 3, .code (sub (bodyOf Go.Proofs.Tryd.f7) [1, 1, 1, 1, 1, 1, 1, 1, 1, 1, 1, 1, 1, 1, 0, 1, 0, 0, 1, 1]), .lp (sub (bodyOf Go.Proofs.Tryd.f7) [1, 1, 1, 1, 1, 1, 1, 1, 1, 1, 1, 1, 1, 1, 0, 1, 0, 0]), .blk 2, .code (sub (bodyOf Go.Proofs.Tryd.f7) [1, 1, 1, 1, 1, 1, 1, 1, 1, 1, 1, 1, 1, 1, 1])]
def emps12 (t0 : List (List D)) (t3 : Bool) (t5 t7 : List (List D)) (t14 : Int) (t186 : Bool) : St := ⟨[(0, .arr [.int .i64, .int .i64, .arr secC, .arr symC, .arr relC, .arr grpC, .arr [.bool]] t0), (3, .val (.bool t3)), (5, .arr [.arr [.int .i64, .int .i64]] t5), (7, .arr [.arr [.int .i64, .int .i64]] t7), (14, .val (.int .i64 t14)), (186, .val (.bool t186))], []⟩
noncomputable def empk13 : List T := [.code (sub (bodyOf Go.Proofs.Tryd.f7) [1, 1, 1, 1, 1, 1, 1, 1, 1, 1, 1, 1, 1, 1, 0, 1, 0, 0, 1, 0, 0, 1, 1, 0, 0]), .lp (sub (bodyOf Go.Proofs.Tryd.f7) [1, 1, 1, 1, 1, 1, 1, 1, 1, 1, 1, 1, 1, 1, 0, 1, 0, 0, 1, 0, 0, 1, 1, 0, 0]), .blk 4, .blk 3, .code (sub (bodyOf Go.Proofs.Tryd.f7) [1, 1, 1, 1, 1, 1, 1, 1, 1, 1, 1, 1, 1, 1, 0, 1, 0, 0, 1, 1]), .lp (sub (bodyOf Go.Proofs.Tryd.f7) [1, 1, 1, 1, 1, 1, 1, 1, 1, 1, 1, 1, 1, 1, 0, 1, 0, 0]), .blk 2, .code (sub (bodyOf Go.Proofs.Tryd.f7) [1, 1, 1, 1, 1, 1, 1, 1, 1, 1, 1, 1, 1, 1, 1])]
def emps13 (t0 : List (List D)) (t3 : Bool) (t5 t7 : List (List D)) (t14 t15 : Int) : St := ⟨[(0, .arr [.int .i64, .int .i64, .arr secC, .arr symC, .arr relC, .arr grpC, .arr [.bool]] t0), (3, .val (.bool t3)), (5, .arr [.arr [.int .i64, .int .i64]] t5), (7, .arr [.arr [.int .i64, .int .i64]] t7), (14, .val (.int .i64 t14)), (15, .val (.int .i64 t15))], []⟩
noncomputable def empk14 : List T := [.code (sub (bodyOf Go.Proofs.Tryd.f7) [1, 1, 1, 1, 1, 1, 1, 1, 1, 1, 1, 1, 1, 1, 0, 1, 0, 0, 1, 0, 0, 1, 1, 0, 0, 1, 0, 0, 1]), .blk 5, .code (sub (bodyOf Go.Proofs.Tryd.f7) [1, 1, 1, 1, 1, 1, 1, 1, 1, 1, 1, 1, 1, 1, 0, 1, 0, 0, 1, 0, 0, 1, 1, 0, 0, 1, 1]), .lp (sub (bodyOf Go.Proofs.Tryd.f7) [1, 1, 1, 1, 1, 1, 1, 1, 1, 1, 1, 1, 1, 1, 0, 1, 0, 0, 1, 0, 0, 1, 1, 0, 0]), .blk 4, .blk 3, .code (sub (bodyOf Go.Proofs.Tryd.f7) [1, 1, 1, 1, 1, 1, 1, 1, 1, 1, 1, 1, 1, 1, 0, 1, 0, 0, 1, 1]), .lp (sub (bodyOf Go.Proofs.Tryd.f7) [1, 1, 1, 1, 1, 1, 1, 1, 1, 1, 1, 1, 1, 1, 0, 1, 0, 0]), .blk 2, .code (sub (bodyOf Go.Proofs.Tryd.f7) [1, 1, 1, 1, 1, 1, 1, 1, 1, 1, 1, 1, 1, 1, 1])]
def emps14 (t0 : List (List D)) (t3 : Bool) (t5 t7 : List (List D)) (t14 t15 b16_0 b16_1 : Int) : St := ⟨[(0, .arr [.int .i64, .int .i64, .arr secC, .arr symC, .arr relC, .arr grpC, .arr [.bool]] t0), (3, .val (.bool t3)), (5, .arr [.arr [.int .i64, .int .i64]] t5), (7, .arr [.arr [.int .i64, .int .i64]] t7), (14, .val (.int .i64 t14)), (15, .val (.int .i64 t15)), (16, .ptr (.loc 16) 0)], [(.loc 16, [.val (.int .i64 b16_0), .val (.int .i64 b16_1)])]⟩
noncomputable def empk15 : List T := [.code (sub (bodyOf Go.Proofs.Tryd.f7) [1, 1, 1, 1, 1, 1, 1, 1, 1, 1, 1, 1, 1, 1, 0, 1, 0, 0, 1, 0, 0, 1, 1, 0, 0, 1, 0, 0, 1, 0, 1, 0]), .code (sub (bodyOf Go.Proofs.Tryd.f7) [1, 1, 1, 1, 1, 1, 1, 1, 1, 1, 1, 1, 1, 1, 0, 1, 0, 0, 1, 0, 0, 1, 1, 0, 0, 1, 0, 0, 1, 1]), .blk 5, .code (sub (bodyOf Go.Proofs.Tryd.f7) [1, 1, 1, 1, 1, 1, 1, 1, 1, 1, 1, 1, 1, 1, 0, 1, 0, 0, 1, 0, 0, 1, 1, 0, 0, 1, 1]), .lp (sub (bodyOf Go.Proofs.Tryd.f7) [1, 1, 1, 1, 1, 1, 1, 1, 1, 1, 1, 1, 1, 1, 0, 1, 0, 0, 1, 0, 0, 1, 1, 0, 0]), .blk 4, .blk 3, .code (sub (bodyOf Go.Proofs.Tryd.f7) [1, 1, 1, 1, 1, 1, 1, 1, 1, 1, 1, 1, 1, 1, 0, 1, 0, 0, 1, 1]), .lp (sub (bodyOf Go.Proofs.Tryd.f7) [1, 1, 1, 1, 1, 1, 1, 1, 1, 1, 1, 1, 1, 1, 0, 1, 0, 0]), .blk 2, .code (sub (bodyOf Go.Proofs.Tryd.f7) [1, 1, 1, 1, 1, 1, 1, 1, 1, 1, 1, 1, 1, 1, 1])]
def emps15 (t0 : List (List D)) (t3 : Bool) (t5 t7 : List (List D)) (t14 t15 : Int) (t211 : Bool) (b16_0 b16_1 : Int) : St := ⟨[(0, .arr [.int .i64, .int .i64, .arr secC, .arr symC, .arr relC, .arr grpC, .arr [.bool]] t0), (3, .val (.bool t3)), (5, .arr [.arr [.int .i64, .int .i64]] t5), (7, .arr [.arr [.int .i64, .int .i64]] t7), (14, .val (.int .i64 t14)), (15, .val (.int .i64 t15)), (16, .ptr (.loc 16) 0), (211, .val (.bool t211))], [(.loc 16, [.val (.int .i64 b16_0), .val (.int .i64 b16_1)])]⟩
noncomputable def empk16 : List T := [.code (sub (bodyOf Go.Proofs.Tryd.f7) [1, 1, 1, 1, 1, 1, 1, 1, 1, 1, 1, 1, 1, 1, 0, 1, 0, 0, 1, 0, 0, 1, 1, 0, 0, 1, 0, 0, 1, 1, 1, 1]), .code (sub (bodyOf Go.Proofs.Tryd.f7) [1, 1, 1, 1, 1, 1, 1, 1, 1, 1, 1, 1, 1, 1, 0, 1, 0, 0, 1, 0, 0, 1, 1, 0, 0, 1, 0, 0, 1, 1]), .blk 5, .code (sub (bodyOf Go.Proofs.Tryd.f7) [1, 1, 1, 1, 1, 1, 1, 1, 1, 1, 1, 1, 1, 1, 0, 1, 0, 0, 1, 0, 0, 1, 1, 0, 0, 1, 1]), .lp (sub (bodyOf Go.Proofs.Tryd.f7) [1, 1, 1, 1, 1, 1, 1, 1, 1, 1, 1, 1, 1, 1, 0, 1, 0, 0, 1, 0, 0, 1, 1, 0, 0]), .blk 4, .blk 3, .code (sub (bodyOf Go.Proofs.Tryd.f7) [1, 1, 1, 1, 1, 1, 1, 1, 1, 1, 1, 1, 1, 1, 0, 1, 0, 0, 1, 1]), .lp (sub (bodyOf Go.Proofs.Tryd.f7) [1, 1, 1, 1, 1, 1, 1, 1, 1, 1, 1, 1, 1, 1, 0, 1, 0, 0]), .blk 2, .code (sub (bodyOf Go.Proofs.Tryd.f7) [1, 1, 1, 1, 1, 1, 1, 1, 1, 1, 1, 1, 1, 1, 1])]
def emps16 (t0 : List (List D)) (t3 : Bool) (t5 t7 : List (List D)) (t14 t15 : Int) (t211 : Bool) (b16_0 b16_1 : Int) : St := ⟨[(0, .arr [.int .i64, .int .i64, .arr secC, .arr symC, .arr relC, .arr grpC, .arr [.bool]] t0), (3, .val (.bool t3)), (5, .arr [.arr [.int .i64, .int .i64]] t5), (7, .arr [.arr [.int .i64, .int .i64]] t7), (14, .val (.int .i64 t14)), (15, .val (.int .i64 t15)), (16, .ptr (.loc 16) 0), (211, .val (.bool t211))], [(.loc 16, [.val (.int .i64 b16_0), .val (.int .i64 b16_1)])]⟩
noncomputable def empk17 : List T := [.code (sub (bodyOf Go.Proofs.Tryd.f7) [1, 1, 1, 1, 1, 1, 1, 1, 1, 1, 1, 1, 1, 1, 0, 1, 0, 0, 1, 0, 0, 1, 1, 0, 0, 1, 0, 0, 1, 1, 1]), .blk 5, .code (sub (bodyOf Go.Proofs.Tryd.f7) [1, 1, 1, 1, 1, 1, 1, 1, 1, 1, 1, 1, 1, 1, 0, 1, 0, 0, 1, 0, 0, 1, 1, 0, 0, 1, 1]), .lp (sub (bodyOf Go.Proofs.Tryd.f7) [1, 1, 1, 1, 1, 1, 1, 1, 1, 1, 1, 1, 1, 1, 0, 1, 0, 0, 1, 0, 0, 1, 1, 0, 0]), .blk 4, .blk 3, .code (sub (bodyOf Go.Proofs.Tryd.f7) [1, 1, 1, 1, 1, 1, 1, 1, 1, 1, 1, 1, 1, 1, 0, 1, 0, 0, 1, 1]), .lp (sub (bodyOf Go.Proofs.Tryd.f7) [1, 1, 1, 1, 1, 1, 1, 1, 1, 1, 1, 1, 1, 1, 0, 1, 0, 0]), .blk 2, .code (sub (bodyOf Go.Proofs.Tryd.f7) [1, 1, 1, 1, 1, 1, 1, 1, 1, 1, 1, 1, 1, 1, 1])]
def emps17 (t0 : List (List D)) (t3 : Bool) (t5 t7 : List (List D)) (t14 t15 : Int) (t245 : Bool) : St := ⟨[(0, .arr [.int .i64, .int .i64, .arr secC, .arr symC, .arr relC, .arr grpC, .arr [.bool]] t0), (3, .val (.bool t3)), (5, .arr [.arr [.int .i64, .int .i64]] t5), (7, .arr [.arr [.int .i64, .int .i64]] t7), (14, .val (.int .i64 t14)), (15, .val (.int .i64 t15)), (245, .val (.bool t245))], []⟩
noncomputable def empt0 (t0 : List (List D)) : Tr := (.ask (grtL t0)
  (.ret (.val (.bool (true)), []))
  (.ask (Info.pre lv3i (19 : Nat) [handed [] (.arr [.int .i64, .int .i64, .arr secC, .arr symC, .arr relC, .arr grpC, .arr [.bool]] t0)] [])
  (.ask ((if chkL t0 = true then (0 : Int) else (8 : Int)) != (0 : Int))
  (.go 6 empk1 (emps1 (t0) (true) (true)))
  (.go 6 empk2 (emps2 (t0) (true) (false))))
  .fail))
set_option maxRecDepth 100000 in
theorem empp0 (n : Nat) (t0 : List (List D)) : exec lv3i (n + 35) (7, Go.Proofs.Tryd.f7, 0) empk0 (emps0 t0) = Tr.val lv3i (7, Go.Proofs.Tryd.f7, 0) n (empt0 t0) := by kernel_rfl
noncomputable def empt1 (t3 : Bool) : Tr := (.ret (.val (.bool (t3)), []))
set_option maxRecDepth 100000 in
theorem empp1 (n : Nat) (t0 : List (List D)) (t3 t26 : Bool) : exec lv3i (n + 6) (7, Go.Proofs.Tryd.f7, 0) empk1 (emps1 t0 t3 t26) = Tr.val lv3i (7, Go.Proofs.Tryd.f7, 0) n (empt1 t3) := by kernel_rfl
noncomputable def empt2 (t0 : List (List D)) (t3 : Bool) : Tr := (.ask (decide (List.length t0 * (136 : Nat) ≤ (70368744177664 : Nat)) && decide (List.length t0 ≤ (70368744177664 : Nat)))
  (.ask (decide ((List.length t0 + List.length [[D.int (↑(List.length t0) : Int), D.int (-1 : Int), D.arr [], D.arr [], D.arr [], D.arr [], D.arr []]]) * (136 : Nat) ≤ (70368744177664 : Nat)) && decide (List.length t0 + List.length [[D.int (↑(List.length t0) : Int), D.int (-1 : Int), D.arr [], D.arr [], D.arr [], D.arr [], D.arr []]] ≤ (70368744177664 : Nat)))
  (.ask (Info.pre lv3i (10 : Nat) [handed [] (.arr [.int .i64, .int .i64, .arr secC, .arr symC, .arr relC, .arr grpC, .arr [.bool]] t0)] [])
  (.go 0 empk3 (emps3 (t0) (t3) (t0 ++ [[D.int (↑(List.length t0) : Int), D.int (-1 : Int), D.arr [], D.arr [], D.arr [], D.arr [], D.arr []]]) (if bindE t0 = (0 : Int) then bindD t0 else []) (bindE t0)))
  .fail)
  .fail)
  .fail)
set_option maxRecDepth 100000 in
theorem empp2 (n : Nat) (t0 : List (List D)) (t3 t26 : Bool) : exec lv3i (n + 22) (7, Go.Proofs.Tryd.f7, 0) empk2 (emps2 t0 t3 t26) = Tr.val lv3i (7, Go.Proofs.Tryd.f7, 0) n (empt2 t0 t3) := by kernel_rfl
noncomputable def empt3 (t0 : List (List D)) (t3 : Bool) (t4 t5 : List (List D)) (t6 : Int) : Tr := (.ask (Info.pre lv3i (10 : Nat) [handed [] (.own [.int .i64, .int .i64, .arr secC, .arr symC, .arr relC, .arr grpC, .arr [.bool]] t4)] [])
  (.ask (Info.pre lv3i (18 : Nat) [handed [] (.arr [.int .i64, .int .i64, .arr secC, .arr symC, .arr relC, .arr grpC, .arr [.bool]] t0)] [])
  (.ask (decide ((↑(List.length t0) : Int) ≥ (64 : Int)))
  (.go 0 empk4 (emps4 (t0) (t3) (t4) (t5) (t6) (if bindE t4 = (0 : Int) then bindD t4 else []) (bindE t4) (if chkL t0 = true then lackD t0 else []) (if chkL t0 = true then (0 : Int) else (8 : Int)) (true)))
  (.go 0 empk5 (emps5 (t0) (t3) (t4) (t5) (t6) (if bindE t4 = (0 : Int) then bindD t4 else []) (bindE t4) (if chkL t0 = true then lackD t0 else []) (if chkL t0 = true then (0 : Int) else (8 : Int)) (false))))
  .fail)
  .fail)
set_option maxRecDepth 100000 in
theorem empp3 (n : Nat) (t0 : List (List D)) (t3 : Bool) (t4 t5 : List (List D)) (t6 : Int) : exec lv3i (n + 28) (7, Go.Proofs.Tryd.f7, 0) empk3 (emps3 t0 t3 t4 t5 t6) = Tr.val lv3i (7, Go.Proofs.Tryd.f7, 0) n (empt3 t0 t3 t4 t5 t6) := by kernel_rfl
noncomputable def empt4 (t3 : Bool) (t8 : Int) : Tr := (.ask (t3)
  (.ret (.val (.bool (t8 == (8 : Int))), []))
  (.ret (.val (.bool (false)), [])))
set_option maxRecDepth 100000 in
theorem empp4 (n : Nat) (t0 : List (List D)) (t3 : Bool) (t4 t5 : List (List D)) (t6 : Int) (t7 : List (List D)) (t8 : Int) (t9 : List (List D)) (t10 : Int) (t52 : Bool) : exec lv3i (n + 10) (7, Go.Proofs.Tryd.f7, 0) empk4 (emps4 t0 t3 t4 t5 t6 t7 t8 t9 t10 t52) = Tr.val lv3i (7, Go.Proofs.Tryd.f7, 0) n (empt4 t3 t8) := by kernel_rfl
noncomputable def empt5 (t0 : List (List D)) (t3 : Bool) (t4 t5 : List (List D)) (t6 : Int) (t7 : List (List D)) (t8 : Int) (t9 : List (List D)) (t10 : Int) : Tr := (.ask (Info.pre lv3i (18 : Nat) [handed [] (.arr [.int .i64, .int .i64, .arr secC, .arr symC, .arr relC, .arr grpC, .arr [.bool]] t4)] [])
  (.ask (t6 != t8)
  (.ret (.val (.bool (false)), []))
  (.ask (t10 != (0 : Int))
  (.go 6 empk6 (emps6 (t0) (t3) (t5) (t6) (t7) (t9) (if chkL t4 = true then lackD t4 else []) (true)))
  (.ask ((if chkL t4 = true then (0 : Int) else (8 : Int)) != (0 : Int))
  (.go 6 empk6 (emps6 (t0) (t3) (t5) (t6) (t7) (t9) (if chkL t4 = true then lackD t4 else []) (true)))
  (.go 6 empk6 (emps6 (t0) (t3) (t5) (t6) (t7) (t9) (if chkL t4 = true then lackD t4 else []) ((↑(List.length t9) : Int) != (↑(List.length (if chkL t4 = true then lackD t4 else [])) : Int)))))))
  .fail)
set_option maxRecDepth 100000 in
theorem empp5 (n : Nat) (t0 : List (List D)) (t3 : Bool) (t4 t5 : List (List D)) (t6 : Int) (t7 : List (List D)) (t8 : Int) (t9 : List (List D)) (t10 : Int) (t52 : Bool) : exec lv3i (n + 39) (7, Go.Proofs.Tryd.f7, 0) empk5 (emps5 t0 t3 t4 t5 t6 t7 t8 t9 t10 t52) = Tr.val lv3i (7, Go.Proofs.Tryd.f7, 0) n (empt5 t0 t3 t4 t5 t6 t7 t8 t9 t10) := by kernel_rfl
noncomputable def empt6 (t0 : List (List D)) (t3 : Bool) (t5 : List (List D)) (t6 : Int) (t7 t9 t11 : List (List D)) (t80 : Bool) : Tr := (.ask (t80)
  (.ret (.val (.bool (false)), []))
  (.go 0 empk7 (emps7 (t0) (t3) (t5) (t6) (t7) (t9) (t11) ((0 : Int)))))
set_option maxRecDepth 100000 in
theorem empp6 (n : Nat) (t0 : List (List D)) (t3 : Bool) (t5 : List (List D)) (t6 : Int) (t7 t9 t11 : List (List D)) (t80 : Bool) : exec lv3i (n + 9) (7, Go.Proofs.Tryd.f7, 0) empk6 (emps6 t0 t3 t5 t6 t7 t9 t11 t80) = Tr.val lv3i (7, Go.Proofs.Tryd.f7, 0) n (empt6 t0 t3 t5 t6 t7 t9 t11 t80) := by kernel_rfl
noncomputable def empt7 (t0 : List (List D)) (t3 : Bool) (t5 : List (List D)) (t6 : Int) (t7 t9 t11 : List (List D)) (t13 : Int) : Tr := (.ask (decide (t13 < (↑(List.length t9) : Int)))
  (.ask (decide ((0 : Int) ≤ t13) && decide (t13 < (↑(List.length t9) : Int)))
  (.ask (decide ((0 : Int) ≤ t13) && decide (t13 < (↑(List.length t11) : Int)))
  (.ask (!ByteArray.toList (cellS t9 (Int.toNat t13) (0 : Nat)) == ByteArray.toList (cellS t11 (Int.toNat t13) (0 : Nat)))
  (.go 9 empk8 (emps8 (t0) (t3) (t5) (t6) (t7) (t9) (t11) (t13) (true)))
  (.ask (decide (t13 > (0 : Int)))
  (.ask (decide ((0 : Int) ≤ IntKind.wrap .i64 (t13 - (1 : Int))) && decide (IntKind.wrap .i64 (t13 - (1 : Int)) < (↑(List.length t9) : Int)))
  (.ask (decide ((0 : Int) ≤ t13) && decide (t13 < (↑(List.length t9) : Int)))
  (.go 9 empk8 (emps8 (t0) (t3) (t5) (t6) (t7) (t9) (t11) (t13) (!Op.bytesLess (ByteArray.toList (cellS t9 (Int.toNat (IntKind.wrap .i64 (t13 - (1 : Int)))) (0 : Nat))) (ByteArray.toList (cellS t9 (Int.toNat t13) (0 : Nat))))))
  .fail)
  .fail)
  (.go 9 empk8 (emps8 (t0) (t3) (t5) (t6) (t7) (t9) (t11) (t13) (false)))))
  .fail)
  .fail)
  (.ask (t6 != (0 : Int))
  (.ask (t3)
  (.ask (t6 == (230 : Int))
  (.go 14 empk9 (emps9 (true)))
  (.ask (t6 == (231 : Int))
  (.go 14 empk9 (emps9 (decide ((↑(List.length t9) : Int) > (0 : Int)))))
  (.go 14 empk9 (emps9 (false)))))
  (.go 14 empk9 (emps9 (false))))
  (.ask ((↑(List.length t5) : Int) != (↑(List.length t0) : Int))
  (.go 0 empk10 (emps10 (t0) (t3) (t5) (t7) (true)))
  (.ask ((↑(List.length t7) : Int) != IntKind.wrap .i64 ((↑(List.length t0) : Int) + (1 : Int)))
  (.go 0 empk10 (emps10 (t0) (t3) (t5) (t7) (true)))
  (.ask (decide ((↑(List.length t0) : Int) < (↑(List.length t7) : Int)))
  (.ask ((↑(List.length (cellA t7 (List.length t0) (0 : Nat))) : Int) != (0 : Int))
  (.go 0 empk10 (emps10 (t0) (t3) (t5) (t7) (true)))
  (.go 0 empk10 (emps10 (t0) (t3) (t5) (t7) ((↑(List.length t9) : Int) != (0 : Int)))))
  .fail)))))
set_option maxRecDepth 100000 in
theorem empp7 (n : Nat) (t0 : List (List D)) (t3 : Bool) (t5 : List (List D)) (t6 : Int) (t7 t9 t11 : List (List D)) (t13 : Int) : exec lv3i (n + 49) (7, Go.Proofs.Tryd.f7, 0) empk7 (emps7 t0 t3 t5 t6 t7 t9 t11 t13) = Tr.val lv3i (7, Go.Proofs.Tryd.f7, 0) n (empt7 t0 t3 t5 t6 t7 t9 t11 t13) := by kernel_rfl
noncomputable def empt8 (t0 : List (List D)) (t3 : Bool) (t5 : List (List D)) (t6 : Int) (t7 t9 t11 : List (List D)) (t13 : Int) (t111 : Bool) : Tr := (.ask (t111)
  (.ret (.val (.bool (false)), []))
  (.go 0 empk7 (emps7 (t0) (t3) (t5) (t6) (t7) (t9) (t11) (IntKind.wrap .i64 (t13 + (1 : Int))))))
set_option maxRecDepth 100000 in
theorem empp8 (n : Nat) (t0 : List (List D)) (t3 : Bool) (t5 : List (List D)) (t6 : Int) (t7 t9 t11 : List (List D)) (t13 : Int) (t111 : Bool) : exec lv3i (n + 9) (7, Go.Proofs.Tryd.f7, 0) empk8 (emps8 t0 t3 t5 t6 t7 t9 t11 t13 t111) = Tr.val lv3i (7, Go.Proofs.Tryd.f7, 0) n (empt8 t0 t3 t5 t6 t7 t9 t11 t13 t111) := by kernel_rfl
noncomputable def empt9 (t2 : Bool) : Tr := (.ret (.val (.bool (t2)), []))
set_option maxRecDepth 100000 in
theorem empp9 (n : Nat) (t2 : Bool) : exec lv3i (n + 1) (7, Go.Proofs.Tryd.f7, 0) empk9 (emps9 t2) = Tr.val lv3i (7, Go.Proofs.Tryd.f7, 0) n (empt9 t2) := by kernel_rfl
noncomputable def empt10 (t0 : List (List D)) (t3 : Bool) (t5 t7 : List (List D)) (t154 : Bool) : Tr := (.ask (t154)
  (.ret (.val (.bool (false)), []))
  (.go 0 empk11 (emps11 (t0) (t3) (t5) (t7) ((0 : Int)))))
set_option maxRecDepth 100000 in
theorem empp10 (n : Nat) (t0 : List (List D)) (t3 : Bool) (t5 t7 : List (List D)) (t154 : Bool) : exec lv3i (n + 9) (7, Go.Proofs.Tryd.f7, 0) empk10 (emps10 t0 t3 t5 t7 t154) = Tr.val lv3i (7, Go.Proofs.Tryd.f7, 0) n (empt10 t0 t3 t5 t7 t154) := by kernel_rfl
noncomputable def empt11 (t0 : List (List D)) (t3 : Bool) (t5 t7 : List (List D)) (t14 : Int) : Tr := (.ask (decide (t14 < (↑(List.length t5) : Int)))
  (.ask (decide ((0 : Int) ≤ t14) && decide (t14 < (↑(List.length t5) : Int)))
  (.ask (decide ((0 : Int) ≤ t14) && decide (t14 < (↑(List.length t7) : Int)))
  (.ask ((↑(List.length (cellA t5 (Int.toNat t14) (0 : Nat))) : Int) != (↑(List.length (cellA t7 (Int.toNat t14) (0 : Nat))) : Int))
  (.go 0 empk12 (emps12 (t0) (t3) (t5) (t7) (t14) (true)))
  (.ask (decide ((0 : Int) ≤ t14) && decide (t14 < (↑(List.length t5) : Int)))
  (.ask (decide ((0 : Int) ≤ t14) && decide (t14 < (↑(List.length t0) : Int)))
  (.go 0 empk12 (emps12 (t0) (t3) (t5) (t7) (t14) ((↑(List.length (cellA t5 (Int.toNat t14) (0 : Nat))) : Int) != (↑(List.length (cellA t0 (Int.toNat t14) (3 : Nat))) : Int))))
  .fail)
  .fail))
  .fail)
  .fail)
  (.ret (.val (.bool (t3)), [])))
set_option maxRecDepth 100000 in
theorem empp11 (n : Nat) (t0 : List (List D)) (t3 : Bool) (t5 t7 : List (List D)) (t14 : Int) : exec lv3i (n + 42) (7, Go.Proofs.Tryd.f7, 0) empk11 (emps11 t0 t3 t5 t7 t14) = Tr.val lv3i (7, Go.Proofs.Tryd.f7, 0) n (empt11 t0 t3 t5 t7 t14) := by kernel_rfl
noncomputable def empt12 (t0 : List (List D)) (t3 : Bool) (t5 t7 : List (List D)) (t14 : Int) (t186 : Bool) : Tr := (.ask (t186)
  (.ret (.val (.bool (false)), []))
  (.go 0 empk13 (emps13 (t0) (t3) (t5) (t7) (t14) ((0 : Int)))))
set_option maxRecDepth 100000 in
theorem empp12 (n : Nat) (t0 : List (List D)) (t3 : Bool) (t5 t7 : List (List D)) (t14 : Int) (t186 : Bool) : exec lv3i (n + 8) (7, Go.Proofs.Tryd.f7, 0) empk12 (emps12 t0 t3 t5 t7 t14 t186) = Tr.val lv3i (7, Go.Proofs.Tryd.f7, 0) n (empt12 t0 t3 t5 t7 t14 t186) := by kernel_rfl
noncomputable def empt13 (t0 : List (List D)) (t3 : Bool) (t5 t7 : List (List D)) (t14 t15 : Int) : Tr := (.ask (decide ((0 : Int) ≤ t14) && decide (t14 < (↑(List.length t5) : Int)))
  (.ask (decide (t15 < (↑(List.length (cellA t5 (Int.toNat t14) (0 : Nat))) : Int)))
  (.ask (decide ((0 : Int) ≤ t14) && decide (t14 < (↑(List.length t5) : Int)))
  (.ask (decide ((0 : Int) ≤ t15) && decide (t15 < (↑(List.length (cellA t5 (Int.toNat t14) (0 : Nat))) : Int)))
  (.go 0 empk14 (emps14 (t0) (t3) (t5) (t7) (t14) (t15) (cellI (cellA t5 (Int.toNat t14) (0 : Nat)) (Int.toNat t15) (0 : Nat)) (cellI (cellA t5 (Int.toNat t14) (0 : Nat)) (Int.toNat t15) (1 : Nat))))
  .fail)
  .fail)
  (.go 7 empk11 (emps11 (t0) (t3) (t5) (t7) (IntKind.wrap .i64 (t14 + (1 : Int))))))
  .fail)
set_option maxRecDepth 100000 in
theorem empp13 (n : Nat) (t0 : List (List D)) (t3 : Bool) (t5 t7 : List (List D)) (t14 t15 : Int) : exec lv3i (n + 27) (7, Go.Proofs.Tryd.f7, 0) empk13 (emps13 t0 t3 t5 t7 t14 t15) = Tr.val lv3i (7, Go.Proofs.Tryd.f7, 0) n (empt13 t0 t3 t5 t7 t14 t15) := by kernel_rfl
noncomputable def empt14 (t0 : List (List D)) (t3 : Bool) (t5 t7 : List (List D)) (t14 t15 b16_0 b16_1 : Int) : Tr := (.ask (decide ((0 : Int) ≤ t14) && decide (t14 < (↑(List.length t7) : Int)))
  (.ask (decide ((0 : Int) ≤ t15) && decide (t15 < (↑(List.length (cellA t7 (Int.toNat t14) (0 : Nat))) : Int)))
  (.ask (!(b16_0 == cellI (cellA t7 (Int.toNat t14) (0 : Nat)) (Int.toNat t15) (0 : Nat) && (b16_1 == cellI (cellA t7 (Int.toNat t14) (0 : Nat)) (Int.toNat t15) (1 : Nat) && true)))
  (.go 0 empk15 (emps15 (t0) (t3) (t5) (t7) (t14) (t15) (true) (b16_0) (b16_1)))
  (.go 0 empk16 (emps16 (t0) (t3) (t5) (t7) (t14) (t15) (false) (b16_0) (b16_1))))
  .fail)
  .fail)
set_option maxRecDepth 100000 in
theorem empp14 (n : Nat) (t0 : List (List D)) (t3 : Bool) (t5 t7 : List (List D)) (t14 t15 b16_0 b16_1 : Int) : exec lv3i (n + 14) (7, Go.Proofs.Tryd.f7, 0) empk14 (emps14 t0 t3 t5 t7 t14 t15 b16_0 b16_1) = Tr.val lv3i (7, Go.Proofs.Tryd.f7, 0) n (empt14 t0 t3 t5 t7 t14 t15 b16_0 b16_1) := by kernel_rfl
noncomputable def empt15  : Tr := (.ret (.val (.bool (false)), []))
set_option maxRecDepth 100000 in
theorem empp15 (n : Nat) (t0 : List (List D)) (t3 : Bool) (t5 t7 : List (List D)) (t14 t15 : Int) (t211 : Bool) (b16_0 b16_1 : Int) : exec lv3i (n + 5) (7, Go.Proofs.Tryd.f7, 0) empk15 (emps15 t0 t3 t5 t7 t14 t15 t211 b16_0 b16_1) = Tr.val lv3i (7, Go.Proofs.Tryd.f7, 0) n (empt15 ) := by kernel_rfl
noncomputable def empt16 (t0 : List (List D)) (t3 : Bool) (t5 t7 : List (List D)) (t14 t15 b16_0 b16_1 : Int) : Tr := (.ask (decide (b16_0 ≥ (0 : Int)))
  (.ask (decide (b16_0 ≥ (↑(List.length t0) : Int)))
  (.ret (.val (.bool (false)), []))
  (.ask (decide ((0 : Int) ≤ b16_0) && decide (b16_0 < (↑(List.length t5) : Int)))
  (.ask (decide (b16_1 ≥ (↑(List.length (cellA t5 (Int.toNat b16_0) (0 : Nat))) : Int)))
  (.go 9 empk17 (emps17 (t0) (t3) (t5) (t7) (t14) (t15) (true)))
  (.ask (decide ((0 : Int) ≤ b16_0) && decide (b16_0 < (↑(List.length t5) : Int)))
  (.ask (decide ((0 : Int) ≤ b16_1) && decide (b16_1 < (↑(List.length (cellA t5 (Int.toNat b16_0) (0 : Nat))) : Int)))
  (.go 9 empk17 (emps17 (t0) (t3) (t5) (t7) (t14) (t15) (!(cellI (cellA t5 (Int.toNat b16_0) (0 : Nat)) (Int.toNat b16_1) (0 : Nat) == b16_0 && (cellI (cellA t5 (Int.toNat b16_0) (0 : Nat)) (Int.toNat b16_1) (1 : Nat) == b16_1 && true)))))
  .fail)
  .fail))
  .fail))
  (.go 0 empk13 (emps13 (t0) (t3) (t5) (t7) (t14) (IntKind.wrap .i64 (t15 + (1 : Int))))))
set_option maxRecDepth 100000 in
theorem empp16 (n : Nat) (t0 : List (List D)) (t3 : Bool) (t5 t7 : List (List D)) (t14 t15 : Int) (t211 : Bool) (b16_0 b16_1 : Int) : exec lv3i (n + 47) (7, Go.Proofs.Tryd.f7, 0) empk16 (emps16 t0 t3 t5 t7 t14 t15 t211 b16_0 b16_1) = Tr.val lv3i (7, Go.Proofs.Tryd.f7, 0) n (empt16 t0 t3 t5 t7 t14 t15 b16_0 b16_1) := by kernel_rfl
noncomputable def empt17 (t0 : List (List D)) (t3 : Bool) (t5 t7 : List (List D)) (t14 t15 : Int) (t245 : Bool) : Tr := (.ask (t245)
  (.ret (.val (.bool (false)), []))
  (.go 0 empk13 (emps13 (t0) (t3) (t5) (t7) (t14) (IntKind.wrap .i64 (t15 + (1 : Int))))))
set_option maxRecDepth 100000 in
theorem empp17 (n : Nat) (t0 : List (List D)) (t3 : Bool) (t5 t7 : List (List D)) (t14 t15 : Int) (t245 : Bool) : exec lv3i (n + 9) (7, Go.Proofs.Tryd.f7, 0) empk17 (emps17 t0 t3 t5 t7 t14 t15 t245) = Tr.val lv3i (7, Go.Proofs.Tryd.f7, 0) n (empt17 t0 t3 t5 t7 t14 t15 t245) := by kernel_rfl
end Go.Proofs.YtacfehneeanlgaaDoor.Ev
