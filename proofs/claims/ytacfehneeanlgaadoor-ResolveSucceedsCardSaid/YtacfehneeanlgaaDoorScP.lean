/- What the pieces of the runs come to, as a program printed it: each is checked by the kernel. -/
import Derived.Test.YtacfehneeanlgaaDoorRyD
namespace Go.Proofs.YtacfehneeanlgaaDoor.Ev
open Go
set_option linter.unusedVariables false
noncomputable def suck0 : List T := [.code (sub (bodyOf Go.Proofs.Tryd.f6) [])]
def sucs0 (t0 : List (List D)) : St := ⟨[(0, .arr [.int .i64, .int .i64, .arr secC, .arr symC, .arr relC, .arr grpC, .arr [.bool]] t0)], []⟩
noncomputable def suck1 : List T := [.code (sub (bodyOf Go.Proofs.Tryd.f6) [1, 1, 1, 0, 1, 0]), .code (sub (bodyOf Go.Proofs.Tryd.f6) [1, 1, 1, 1])]
def sucs1 (t0 : List (List D)) (t3 t25 : Bool) : St := ⟨[(0, .arr [.int .i64, .int .i64, .arr secC, .arr symC, .arr relC, .arr grpC, .arr [.bool]] t0), (3, .val (.bool t3)), (25, .val (.bool t25))], []⟩
noncomputable def suck2 : List T := [.code (sub (bodyOf Go.Proofs.Tryd.f6) [1, 1, 1, 1, 1, 1, 1, 1, 1, 1, 0, 1, 1]), .code (sub (bodyOf Go.Proofs.Tryd.f6) [1, 1, 1, 1])]
def sucs2 (t0 : List (List D)) (t3 t25 : Bool) : St := ⟨[(0, .arr [.int .i64, .int .i64, .arr secC, .arr symC, .arr relC, .arr grpC, .arr [.bool]] t0), (3, .val (.bool t3)), (25, .val (.bool t25))], []⟩
noncomputable def suck3 : List T := [.code (sub (bodyOf Go.Proofs.Tryd.f6) [1, 1, 1, 1, 1, 1, 1, 0, 1, 0, 0]), .lp (sub (bodyOf Go.Proofs.Tryd.f6) [1, 1, 1, 1, 1, 1, 1, 0, 1, 0, 0]), .blk 0, .code (sub (bodyOf Go.Proofs.Tryd.f6) [1, 1, 1, 1, 1, 1, 1, 1])]
def sucs3 (t0 : List (List D)) (t3 : Bool) (t5 : Int) (t6 : List (List D)) (t7 : Int) (t8 : Bool) (t9 : Int) : St := ⟨[(0, .arr [.int .i64, .int .i64, .arr secC, .arr symC, .arr relC, .arr grpC, .arr [.bool]] t0), (3, .val (.bool t3)), (5, .val (.int .i64 t5)), (6, .arr [.str] t6), (7, .val (.int .i64 t7)), (8, .val (.bool t8)), (9, .val (.int .i64 t9))], []⟩
noncomputable def suck4 : List T := [.code (sub (bodyOf Go.Proofs.Tryd.f6) [1, 1, 1, 1, 1, 1, 1, 0, 1, 0, 0, 1, 0, 0, 1, 0, 0]), .lp (sub (bodyOf Go.Proofs.Tryd.f6) [1, 1, 1, 1, 1, 1, 1, 0, 1, 0, 0, 1, 0, 0, 1, 0, 0]), .blk 2, .blk 1, .code (sub (bodyOf Go.Proofs.Tryd.f6) [1, 1, 1, 1, 1, 1, 1, 0, 1, 0, 0, 1, 1]), .lp (sub (bodyOf Go.Proofs.Tryd.f6) [1, 1, 1, 1, 1, 1, 1, 0, 1, 0, 0]), .blk 0, .code (sub (bodyOf Go.Proofs.Tryd.f6) [1, 1, 1, 1, 1, 1, 1, 1])]
def sucs4 (t0 : List (List D)) (t3 : Bool) (t5 : Int) (t6 : List (List D)) (t7 : Int) (t8 : Bool) (t9 t10 : Int) : St := ⟨[(0, .arr [.int .i64, .int .i64, .arr secC, .arr symC, .arr relC, .arr grpC, .arr [.bool]] t0), (3, .val (.bool t3)), (5, .val (.int .i64 t5)), (6, .arr [.str] t6), (7, .val (.int .i64 t7)), (8, .val (.bool t8)), (9, .val (.int .i64 t9)), (10, .val (.int .i64 t10))], []⟩
noncomputable def suck5 : List T := [.code (sub (bodyOf Go.Proofs.Tryd.f6) [1, 1, 1, 1, 1, 1, 1, 1, 1, 1, 0, 1, 0]), .code (sub (bodyOf Go.Proofs.Tryd.f6) [1, 1, 1, 1, 1, 1, 1, 1, 1, 1, 1])]
def sucs5 (t3 : Bool) (t5 t7 t15 : Int) (t134 : Bool) : St := ⟨[(3, .val (.bool t3)), (5, .val (.int .i64 t5)), (7, .val (.int .i64 t7)), (15, .val (.int .i64 t15)), (134, .val (.bool t134))], []⟩
noncomputable def suck6 : List T := [.code (sub (bodyOf Go.Proofs.Tryd.f6) [1, 1, 1, 1, 1, 1, 1, 1, 1, 1, 0, 1, 1]), .code (sub (bodyOf Go.Proofs.Tryd.f6) [1, 1, 1, 1, 1, 1, 1, 1, 1, 1, 1])]
def sucs6 (t3 : Bool) (t5 t7 t15 : Int) (t134 : Bool) : St := ⟨[(3, .val (.bool t3)), (5, .val (.int .i64 t5)), (7, .val (.int .i64 t7)), (15, .val (.int .i64 t15)), (134, .val (.bool t134))], []⟩
noncomputable def suck7 : List T := [.code (sub (bodyOf Go.Proofs.Tryd.f6) [1, 1, 1, 1, 1, 1, 1, 0, 1, 0, 0, 1, 0, 0, 1, 0, 0, 1, 0, 0, 1]), .blk 3, .code (sub (bodyOf Go.Proofs.Tryd.f6) [1, 1, 1, 1, 1, 1, 1, 0, 1, 0, 0, 1, 0, 0, 1, 0, 0, 1, 1]), .lp (sub (bodyOf Go.Proofs.Tryd.f6) [1, 1, 1, 1, 1, 1, 1, 0, 1, 0, 0, 1, 0, 0, 1, 0, 0]), .blk 2, .blk 1, .code (sub (bodyOf Go.Proofs.Tryd.f6) [1, 1, 1, 1, 1, 1, 1, 0, 1, 0, 0, 1, 1]), .lp (sub (bodyOf Go.Proofs.Tryd.f6) [1, 1, 1, 1, 1, 1, 1, 0, 1, 0, 0]), .blk 0, .code (sub (bodyOf Go.Proofs.Tryd.f6) [1, 1, 1, 1, 1, 1, 1, 1])]
def sucs7 (t0 : List (List D)) (t3 : Bool) (t5 : Int) (t6 : List (List D)) (t7 : Int) (t8 : Bool) (t9 t10 : Int) (b11_0 : ByteArray) (b11_1 : Int) (b11_2 : Bool) (b11_3 b11_4 b11_5 : Int) : St := ⟨[(0, .arr [.int .i64, .int .i64, .arr secC, .arr symC, .arr relC, .arr grpC, .arr [.bool]] t0), (3, .val (.bool t3)), (5, .val (.int .i64 t5)), (6, .arr [.str] t6), (7, .val (.int .i64 t7)), (8, .val (.bool t8)), (9, .val (.int .i64 t9)), (10, .val (.int .i64 t10)), (11, .ptr (.loc 11) 0)], [(.loc 11, [.val (.string b11_0), .val (.int .u8 b11_1), .val (.bool b11_2), .val (.int .i64 b11_3), .val (.int .i64 b11_4), .val (.int .i64 b11_5)])]⟩
noncomputable def suck8 : List T := [.code (sub (bodyOf Go.Proofs.Tryd.f6) [1, 1, 1, 1, 1, 1, 1, 0, 1, 0, 0, 1, 0, 0, 1, 0, 0, 1, 0, 0, 1, 0, 1]), .code (sub (bodyOf Go.Proofs.Tryd.f6) [1, 1, 1, 1, 1, 1, 1, 0, 1, 0, 0, 1, 0, 0, 1, 0, 0, 1, 0, 0, 1, 1]), .blk 3, .code (sub (bodyOf Go.Proofs.Tryd.f6) [1, 1, 1, 1, 1, 1, 1, 0, 1, 0, 0, 1, 0, 0, 1, 0, 0, 1, 1]), .lp (sub (bodyOf Go.Proofs.Tryd.f6) [1, 1, 1, 1, 1, 1, 1, 0, 1, 0, 0, 1, 0, 0, 1, 0, 0]), .blk 2, .blk 1, .code (sub (bodyOf Go.Proofs.Tryd.f6) [1, 1, 1, 1, 1, 1, 1, 0, 1, 0, 0, 1, 1]), .lp (sub (bodyOf Go.Proofs.Tryd.f6) [1, 1, 1, 1, 1, 1, 1, 0, 1, 0, 0]), .blk 0, .code (sub (bodyOf Go.Proofs.Tryd.f6) [1, 1, 1, 1, 1, 1, 1, 1])]
def sucs8 (t0 : List (List D)) (t3 : Bool) (t5 : Int) (t6 : List (List D)) (t7 : Int) (t8 : Bool) (t9 t10 : Int) (t79 : Bool) (b11_0 : ByteArray) (b11_1 : Int) (b11_2 : Bool) (b11_3 b11_4 b11_5 : Int) : St := ⟨[(0, .arr [.int .i64, .int .i64, .arr secC, .arr symC, .arr relC, .arr grpC, .arr [.bool]] t0), (3, .val (.bool t3)), (5, .val (.int .i64 t5)), (6, .arr [.str] t6), (7, .val (.int .i64 t7)), (8, .val (.bool t8)), (9, .val (.int .i64 t9)), (10, .val (.int .i64 t10)), (11, .ptr (.loc 11) 0), (79, .val (.bool t79))], [(.loc 11, [.val (.string b11_0), .val (.int .u8 b11_1), .val (.bool b11_2), .val (.int .i64 b11_3), .val (.int .i64 b11_4), .val (.int .i64 b11_5)])]⟩
noncomputable def suck9 : List T := [.code (sub (bodyOf Go.Proofs.Tryd.f6) [1, 1, 1, 1, 1, 1, 1, 0, 1, 0, 0, 1, 0, 0, 1, 0, 0, 1, 0, 0, 1, 1, 1, 0, 0]), .lp (sub (bodyOf Go.Proofs.Tryd.f6) [1, 1, 1, 1, 1, 1, 1, 0, 1, 0, 0, 1, 0, 0, 1, 0, 0, 1, 0, 0, 1, 1, 1, 0, 0]), .blk 4, .blk 3, .code (sub (bodyOf Go.Proofs.Tryd.f6) [1, 1, 1, 1, 1, 1, 1, 0, 1, 0, 0, 1, 0, 0, 1, 0, 0, 1, 1]), .lp (sub (bodyOf Go.Proofs.Tryd.f6) [1, 1, 1, 1, 1, 1, 1, 0, 1, 0, 0, 1, 0, 0, 1, 0, 0]), .blk 2, .blk 1, .code (sub (bodyOf Go.Proofs.Tryd.f6) [1, 1, 1, 1, 1, 1, 1, 0, 1, 0, 0, 1, 1]), .lp (sub (bodyOf Go.Proofs.Tryd.f6) [1, 1, 1, 1, 1, 1, 1, 0, 1, 0, 0]), .blk 0, .code (sub (bodyOf Go.Proofs.Tryd.f6) [1, 1, 1, 1, 1, 1, 1, 1])]
def sucs9 (t0 : List (List D)) (t3 : Bool) (t5 : Int) (t6 : List (List D)) (t7 : Int) (t8 : Bool) (t9 t10 t12 : Int) (b11_0 : ByteArray) (b11_1 : Int) (b11_2 : Bool) (b11_3 b11_4 b11_5 : Int) : St := ⟨[(0, .arr [.int .i64, .int .i64, .arr secC, .arr symC, .arr relC, .arr grpC, .arr [.bool]] t0), (3, .val (.bool t3)), (5, .val (.int .i64 t5)), (6, .arr [.str] t6), (7, .val (.int .i64 t7)), (8, .val (.bool t8)), (9, .val (.int .i64 t9)), (10, .val (.int .i64 t10)), (11, .ptr (.loc 11) 0), (12, .val (.int .i64 t12))], [(.loc 11, [.val (.string b11_0), .val (.int .u8 b11_1), .val (.bool b11_2), .val (.int .i64 b11_3), .val (.int .i64 b11_4), .val (.int .i64 b11_5)])]⟩
noncomputable def suck10 : List T := [.code (sub (bodyOf Go.Proofs.Tryd.f6) [1, 1, 1, 1, 1, 1, 1, 0, 1, 0, 0, 1, 0, 0, 1, 0, 0, 1, 0, 0, 1, 1, 1, 0, 0, 1, 0, 0, 1, 0, 0]), .lp (sub (bodyOf Go.Proofs.Tryd.f6) [1, 1, 1, 1, 1, 1, 1, 0, 1, 0, 0, 1, 0, 0, 1, 0, 0, 1, 0, 0, 1, 1, 1, 0, 0, 1, 0, 0, 1, 0, 0]), .blk 6, .blk 5, .code (sub (bodyOf Go.Proofs.Tryd.f6) [1, 1, 1, 1, 1, 1, 1, 0, 1, 0, 0, 1, 0, 0, 1, 0, 0, 1, 0, 0, 1, 1, 1, 0, 0, 1, 1]), .lp (sub (bodyOf Go.Proofs.Tryd.f6) [1, 1, 1, 1, 1, 1, 1, 0, 1, 0, 0, 1, 0, 0, 1, 0, 0, 1, 0, 0, 1, 1, 1, 0, 0]), .blk 4, .blk 3, .code (sub (bodyOf Go.Proofs.Tryd.f6) [1, 1, 1, 1, 1, 1, 1, 0, 1, 0, 0, 1, 0, 0, 1, 0, 0, 1, 1]), .lp (sub (bodyOf Go.Proofs.Tryd.f6) [1, 1, 1, 1, 1, 1, 1, 0, 1, 0, 0, 1, 0, 0, 1, 0, 0]), .blk 2, .blk 1, .code (sub (bodyOf Go.Proofs.Tryd.f6) [1, 1, 1, 1, 1, 1, 1, 0, 1, 0, 0, 1, 1]), .lp (sub (bodyOf Go.Proofs.Tryd.f6) [1, 1, 1, 1, 1, 1, 1, 0, 1, 0, 0]), .blk 0, .code (sub (bodyOf Go.Proofs.Tryd.f6) [1, 1, 1, 1, 1, 1, 1, 1])]
def sucs10 (t0 : List (List D)) (t3 : Bool) (t5 : Int) (t6 : List (List D)) (t7 : Int) (t8 : Bool) (t9 t10 t12 t13 : Int) (b11_0 : ByteArray) (b11_1 : Int) (b11_2 : Bool) (b11_3 b11_4 b11_5 : Int) : St := ⟨[(0, .arr [.int .i64, .int .i64, .arr secC, .arr symC, .arr relC, .arr grpC, .arr [.bool]] t0), (3, .val (.bool t3)), (5, .val (.int .i64 t5)), (6, .arr [.str] t6), (7, .val (.int .i64 t7)), (8, .val (.bool t8)), (9, .val (.int .i64 t9)), (10, .val (.int .i64 t10)), (11, .ptr (.loc 11) 0), (12, .val (.int .i64 t12)), (13, .val (.int .i64 t13))], [(.loc 11, [.val (.string b11_0), .val (.int .u8 b11_1), .val (.bool b11_2), .val (.int .i64 b11_3), .val (.int .i64 b11_4), .val (.int .i64 b11_5)])]⟩
noncomputable def suck11 : List T := [.code (sub (bodyOf Go.Proofs.Tryd.f6) [1, 1, 1, 1, 1, 1, 1, 0, 1, 0, 0, 1, 0, 0, 1, 0, 0, 1, 0, 0, 1, 1, 1, 0, 0, 1, 0, 0, 1, 0, 0, 1, 0, 0, 1]), .blk 7, .code (sub (bodyOf Go.Proofs.Tryd.f6) [1, 1, 1, 1, 1, 1, 1, 0, 1, 0, 0, 1, 0, 0, 1, 0, 0, 1, 0, 0, 1, 1, 1, 0, 0, 1, 0, 0, 1, 0, 0, 1, 1]), .lp (sub (bodyOf Go.Proofs.Tryd.f6) [1, 1, 1, 1, 1, 1, 1, 0, 1, 0, 0, 1, 0, 0, 1, 0, 0, 1, 0, 0, 1, 1, 1, 0, 0, 1, 0, 0, 1, 0, 0]), .blk 6, .blk 5, .code (sub (bodyOf Go.Proofs.Tryd.f6) [1, 1, 1, 1, 1, 1, 1, 0, 1, 0, 0, 1, 0, 0, 1, 0, 0, 1, 0, 0, 1, 1, 1, 0, 0, 1, 1]), .lp (sub (bodyOf Go.Proofs.Tryd.f6) [1, 1, 1, 1, 1, 1, 1, 0, 1, 0, 0, 1, 0, 0, 1, 0, 0, 1, 0, 0, 1, 1, 1, 0, 0]), .blk 4, .blk 3, .code (sub (bodyOf Go.Proofs.Tryd.f6) [1, 1, 1, 1, 1, 1, 1, 0, 1, 0, 0, 1, 0, 0, 1, 0, 0, 1, 1]), .lp (sub (bodyOf Go.Proofs.Tryd.f6) [1, 1, 1, 1, 1, 1, 1, 0, 1, 0, 0, 1, 0, 0, 1, 0, 0]), .blk 2, .blk 1, .code (sub (bodyOf Go.Proofs.Tryd.f6) [1, 1, 1, 1, 1, 1, 1, 0, 1, 0, 0, 1, 1]), .lp (sub (bodyOf Go.Proofs.Tryd.f6) [1, 1, 1, 1, 1, 1, 1, 0, 1, 0, 0]), .blk 0, .code (sub (bodyOf Go.Proofs.Tryd.f6) [1, 1, 1, 1, 1, 1, 1, 1])]
def sucs11 (t0 : List (List D)) (t3 : Bool) (t5 : Int) (t6 : List (List D)) (t7 : Int) (t8 : Bool) (t9 t10 t12 t13 : Int) (b11_0 : ByteArray) (b11_1 : Int) (b11_2 : Bool) (b11_3 b11_4 b11_5 : Int) (b14_0 : ByteArray) (b14_1 : Int) (b14_2 : Bool) (b14_3 b14_4 b14_5 : Int) : St := ⟨[(0, .arr [.int .i64, .int .i64, .arr secC, .arr symC, .arr relC, .arr grpC, .arr [.bool]] t0), (3, .val (.bool t3)), (5, .val (.int .i64 t5)), (6, .arr [.str] t6), (7, .val (.int .i64 t7)), (8, .val (.bool t8)), (9, .val (.int .i64 t9)), (10, .val (.int .i64 t10)), (11, .ptr (.loc 11) 0), (12, .val (.int .i64 t12)), (13, .val (.int .i64 t13)), (14, .ptr (.loc 14) 0)], [(.loc 11, [.val (.string b11_0), .val (.int .u8 b11_1), .val (.bool b11_2), .val (.int .i64 b11_3), .val (.int .i64 b11_4), .val (.int .i64 b11_5)]), (.loc 14, [.val (.string b14_0), .val (.int .u8 b14_1), .val (.bool b14_2), .val (.int .i64 b14_3), .val (.int .i64 b14_4), .val (.int .i64 b14_5)])]⟩
noncomputable def suck12 : List T := [.code (sub (bodyOf Go.Proofs.Tryd.f6) [1, 1, 1, 1, 1, 1, 1, 0, 1, 0, 0, 1, 0, 0, 1, 0, 0, 1, 0, 0, 1, 1, 1, 0, 0, 1, 0, 0, 1, 0, 0, 1, 1]), .lp (sub (bodyOf Go.Proofs.Tryd.f6) [1, 1, 1, 1, 1, 1, 1, 0, 1, 0, 0, 1, 0, 0, 1, 0, 0, 1, 0, 0, 1, 1, 1, 0, 0, 1, 0, 0, 1, 0, 0]), .blk 6, .blk 5, .code (sub (bodyOf Go.Proofs.Tryd.f6) [1, 1, 1, 1, 1, 1, 1, 0, 1, 0, 0, 1, 0, 0, 1, 0, 0, 1, 0, 0, 1, 1, 1, 0, 0, 1, 1]), .lp (sub (bodyOf Go.Proofs.Tryd.f6) [1, 1, 1, 1, 1, 1, 1, 0, 1, 0, 0, 1, 0, 0, 1, 0, 0, 1, 0, 0, 1, 1, 1, 0, 0]), .blk 4, .blk 3, .code (sub (bodyOf Go.Proofs.Tryd.f6) [1, 1, 1, 1, 1, 1, 1, 0, 1, 0, 0, 1, 0, 0, 1, 0, 0, 1, 1]), .lp (sub (bodyOf Go.Proofs.Tryd.f6) [1, 1, 1, 1, 1, 1, 1, 0, 1, 0, 0, 1, 0, 0, 1, 0, 0]), .blk 2, .blk 1, .code (sub (bodyOf Go.Proofs.Tryd.f6) [1, 1, 1, 1, 1, 1, 1, 0, 1, 0, 0, 1, 1]), .lp (sub (bodyOf Go.Proofs.Tryd.f6) [1, 1, 1, 1, 1, 1, 1, 0, 1, 0, 0]), .blk 0, .code (sub (bodyOf Go.Proofs.Tryd.f6) [1, 1, 1, 1, 1, 1, 1, 1])]
def sucs12 (t0 : List (List D)) (t3 : Bool) (t5 : Int) (t6 : List (List D)) (t7 : Int) (t8 : Bool) (t9 t10 t12 t13 : Int) (b11_0 : ByteArray) (b11_1 : Int) (b11_2 : Bool) (b11_3 b11_4 b11_5 : Int) : St := ⟨[(0, .arr [.int .i64, .int .i64, .arr secC, .arr symC, .arr relC, .arr grpC, .arr [.bool]] t0), (3, .val (.bool t3)), (5, .val (.int .i64 t5)), (6, .arr [.str] t6), (7, .val (.int .i64 t7)), (8, .val (.bool t8)), (9, .val (.int .i64 t9)), (10, .val (.int .i64 t10)), (11, .ptr (.loc 11) 0), (12, .val (.int .i64 t12)), (13, .val (.int .i64 t13))], [(.loc 11, [.val (.string b11_0), .val (.int .u8 b11_1), .val (.bool b11_2), .val (.int .i64 b11_3), .val (.int .i64 b11_4), .val (.int .i64 b11_5)])]⟩
noncomputable def suct0 (t0 : List (List D)) : Tr := (.ask (grtL t0)
  (.ret (.val (.bool (true)), []))
  (.ask (Info.pre lv3i (19 : Nat) [handed [] (.arr [.int .i64, .int .i64, .arr secC, .arr symC, .arr relC, .arr grpC, .arr [.bool]] t0)] [])
  (.ask ((if chkL t0 = true then (0 : Int) else (8 : Int)) != (0 : Int))
  (.go 6 suck1 (sucs1 (t0) (true) (true)))
  (.go 6 suck2 (sucs2 (t0) (true) (false))))
  .fail))
set_option maxRecDepth 100000 in
theorem sucp0 (n : Nat) (t0 : List (List D)) : exec lv3i (n + 35) (6, Go.Proofs.Tryd.f6, 0) suck0 (sucs0 t0) = Tr.val lv3i (6, Go.Proofs.Tryd.f6, 0) n (suct0 t0) := by kernel_rfl
noncomputable def suct1 (t3 : Bool) : Tr := (.ret (.val (.bool (t3)), []))
set_option maxRecDepth 100000 in
theorem sucp1 (n : Nat) (t0 : List (List D)) (t3 t25 : Bool) : exec lv3i (n + 6) (6, Go.Proofs.Tryd.f6, 0) suck1 (sucs1 t0 t3 t25) = Tr.val lv3i (6, Go.Proofs.Tryd.f6, 0) n (suct1 t3) := by kernel_rfl
noncomputable def suct2 (t0 : List (List D)) (t3 : Bool) : Tr := (.ask (Info.pre lv3i (10 : Nat) [handed [] (.arr [.int .i64, .int .i64, .arr secC, .arr symC, .arr relC, .arr grpC, .arr [.bool]] t0)] [])
  (.ask (Info.pre lv3i (18 : Nat) [handed [] (.arr [.int .i64, .int .i64, .arr secC, .arr symC, .arr relC, .arr grpC, .arr [.bool]] t0)] [])
  (.go 0 suck3 (sucs3 (t0) (t3) (bindE t0) (if chkL t0 = true then lackD t0 else []) (if chkL t0 = true then (0 : Int) else (8 : Int)) (false) ((0 : Int))))
  .fail)
  .fail)
set_option maxRecDepth 100000 in
theorem sucp2 (n : Nat) (t0 : List (List D)) (t3 t25 : Bool) : exec lv3i (n + 32) (6, Go.Proofs.Tryd.f6, 0) suck2 (sucs2 t0 t3 t25) = Tr.val lv3i (6, Go.Proofs.Tryd.f6, 0) n (suct2 t0 t3) := by kernel_rfl
noncomputable def suct3 (t0 : List (List D)) (t3 : Bool) (t5 : Int) (t6 : List (List D)) (t7 : Int) (t8 : Bool) (t9 : Int) : Tr := (.ask (decide (t9 < (↑(List.length t0) : Int)))
  (.go 13 suck4 (sucs4 (t0) (t3) (t5) (t6) (t7) (t8) (t9) ((0 : Int))))
  (.ask (decide ((↑(List.length t6) : Int) > (0 : Int)))
  (.ask (t8)
  (.go 0 suck5 (sucs5 (t3) (t5) (t7) ((231 : Int)) (true)))
  (.go 0 suck6 (sucs6 (t3) (t5) (t7) ((231 : Int)) (false))))
  (.ask (t8)
  (.go 2 suck5 (sucs5 (t3) (t5) (t7) ((0 : Int)) (true)))
  (.go 2 suck6 (sucs6 (t3) (t5) (t7) ((0 : Int)) (false))))))
set_option maxRecDepth 100000 in
theorem sucp3 (n : Nat) (t0 : List (List D)) (t3 : Bool) (t5 : Int) (t6 : List (List D)) (t7 : Int) (t8 : Bool) (t9 : Int) : exec lv3i (n + 31) (6, Go.Proofs.Tryd.f6, 0) suck3 (sucs3 t0 t3 t5 t6 t7 t8 t9) = Tr.val lv3i (6, Go.Proofs.Tryd.f6, 0) n (suct3 t0 t3 t5 t6 t7 t8 t9) := by kernel_rfl
noncomputable def suct4 (t0 : List (List D)) (t3 : Bool) (t5 : Int) (t6 : List (List D)) (t7 : Int) (t8 : Bool) (t9 t10 : Int) : Tr := (.ask (decide ((0 : Int) ≤ t9) && decide (t9 < (↑(List.length t0) : Int)))
  (.ask (decide (t10 < (↑(List.length (cellA t0 (Int.toNat t9) (3 : Nat))) : Int)))
  (.ask (decide ((0 : Int) ≤ t9) && decide (t9 < (↑(List.length t0) : Int)))
  (.ask (decide ((0 : Int) ≤ t10) && decide (t10 < (↑(List.length (cellA t0 (Int.toNat t9) (3 : Nat))) : Int)))
  (.go 0 suck7 (sucs7 (t0) (t3) (t5) (t6) (t7) (t8) (t9) (t10) (cellS (cellA t0 (Int.toNat t9) (3 : Nat)) (Int.toNat t10) (0 : Nat)) (cellI (cellA t0 (Int.toNat t9) (3 : Nat)) (Int.toNat t10) (1 : Nat)) (cellB (cellA t0 (Int.toNat t9) (3 : Nat)) (Int.toNat t10) (2 : Nat)) (cellI (cellA t0 (Int.toNat t9) (3 : Nat)) (Int.toNat t10) (3 : Nat)) (cellI (cellA t0 (Int.toNat t9) (3 : Nat)) (Int.toNat t10) (4 : Nat)) (cellI (cellA t0 (Int.toNat t9) (3 : Nat)) (Int.toNat t10) (5 : Nat))))
  .fail)
  .fail)
  (.go 9 suck3 (sucs3 (t0) (t3) (t5) (t6) (t7) (t8) (IntKind.wrap .i64 (t9 + (1 : Int))))))
  .fail)
set_option maxRecDepth 100000 in
theorem sucp4 (n : Nat) (t0 : List (List D)) (t3 : Bool) (t5 : Int) (t6 : List (List D)) (t7 : Int) (t8 : Bool) (t9 t10 : Int) : exec lv3i (n + 31) (6, Go.Proofs.Tryd.f6, 0) suck4 (sucs4 t0 t3 t5 t6 t7 t8 t9 t10) = Tr.val lv3i (6, Go.Proofs.Tryd.f6, 0) n (suct4 t0 t3 t5 t6 t7 t8 t9 t10) := by kernel_rfl
noncomputable def suct5 (t3 : Bool) (t5 t7 : Int) : Tr := (.ask (t3)
  (.ask (t7 == (0 : Int))
  (.ret (.val (.bool (t5 == (230 : Int))), []))
  (.ret (.val (.bool (false)), [])))
  (.ret (.val (.bool (false)), [])))
set_option maxRecDepth 100000 in
theorem sucp5 (n : Nat) (t3 : Bool) (t5 t7 t15 : Int) (t134 : Bool) : exec lv3i (n + 18) (6, Go.Proofs.Tryd.f6, 0) suck5 (sucs5 t3 t5 t7 t15 t134) = Tr.val lv3i (6, Go.Proofs.Tryd.f6, 0) n (suct5 t3 t5 t7) := by kernel_rfl
noncomputable def suct6 (t3 : Bool) (t5 t7 t15 : Int) : Tr := (.ask (t3)
  (.ask (t7 == (0 : Int))
  (.ret (.val (.bool (t5 == t15)), []))
  (.ret (.val (.bool (false)), [])))
  (.ret (.val (.bool (false)), [])))
set_option maxRecDepth 100000 in
theorem sucp6 (n : Nat) (t3 : Bool) (t5 t7 t15 : Int) (t134 : Bool) : exec lv3i (n + 16) (6, Go.Proofs.Tryd.f6, 0) suck6 (sucs6 t3 t5 t7 t15 t134) = Tr.val lv3i (6, Go.Proofs.Tryd.f6, 0) n (suct6 t3 t5 t7 t15) := by kernel_rfl
noncomputable def suct7 (t0 : List (List D)) (t3 : Bool) (t5 : Int) (t6 : List (List D)) (t7 : Int) (t8 : Bool) (t9 t10 : Int) (b11_0 : ByteArray) (b11_1 : Int) (b11_2 : Bool) (b11_3 b11_4 b11_5 : Int) : Tr := (.ask (decide ((0 : Int) ≤ t9) && decide (t9 < (↑(List.length t0) : Int)))
  (.ask (Info.pre lv3i (20 : Nat) [handed [] (.agg [V.val (.int .i64 (cellI t0 (Int.toNat t9) (0 : Nat))), V.val (.int .i64 (cellI t0 (Int.toNat t9) (1 : Nat))), V.arr secC (cellA t0 (Int.toNat t9) (2 : Nat)), V.arr symC (cellA t0 (Int.toNat t9) (3 : Nat)), V.arr relC (cellA t0 (Int.toNat t9) (4 : Nat)), V.arr grpC (cellA t0 (Int.toNat t9) (5 : Nat)), V.arr [.bool] (cellA t0 (Int.toNat t9) (6 : Nat))]), handed [] (.agg [V.val (Value.string b11_0), V.val (.int .u8 b11_1), V.val (Value.bool b11_2), V.val (.int .i64 b11_3), V.val (.int .i64 b11_4), V.val (.int .i64 b11_5)])] [])
  (.ask (!thrB (cellA t0 (Int.toNat t9) (6 : Nat)) b11_1 b11_3)
  (.go 0 suck8 (sucs8 (t0) (t3) (t5) (t6) (t7) (t8) (t9) (t10) (true) (b11_0) (b11_1) (b11_2) (b11_3) (b11_4) (b11_5)))
  (.ask (b11_1 != (1 : Int))
  (.go 0 suck8 (sucs8 (t0) (t3) (t5) (t6) (t7) (t8) (t9) (t10) (true) (b11_0) (b11_1) (b11_2) (b11_3) (b11_4) (b11_5)))
  (.go 0 suck8 (sucs8 (t0) (t3) (t5) (t6) (t7) (t8) (t9) (t10) (b11_3 == (-2 : Int)) (b11_0) (b11_1) (b11_2) (b11_3) (b11_4) (b11_5)))))
  .fail)
  .fail)
set_option maxRecDepth 100000 in
theorem sucp7 (n : Nat) (t0 : List (List D)) (t3 : Bool) (t5 : Int) (t6 : List (List D)) (t7 : Int) (t8 : Bool) (t9 t10 : Int) (b11_0 : ByteArray) (b11_1 : Int) (b11_2 : Bool) (b11_3 b11_4 b11_5 : Int) : exec lv3i (n + 21) (6, Go.Proofs.Tryd.f6, 0) suck7 (sucs7 t0 t3 t5 t6 t7 t8 t9 t10 b11_0 b11_1 b11_2 b11_3 b11_4 b11_5) = Tr.val lv3i (6, Go.Proofs.Tryd.f6, 0) n (suct7 t0 t3 t5 t6 t7 t8 t9 t10 b11_0 b11_1 b11_2 b11_3 b11_4 b11_5) := by kernel_rfl
noncomputable def suct8 (t0 : List (List D)) (t3 : Bool) (t5 : Int) (t6 : List (List D)) (t7 : Int) (t8 : Bool) (t9 t10 : Int) (t79 : Bool) (b11_0 : ByteArray) (b11_1 : Int) (b11_2 : Bool) (b11_3 b11_4 b11_5 : Int) : Tr := (.ask (t79)
  (.go 0 suck4 (sucs4 (t0) (t3) (t5) (t6) (t7) (t8) (t9) (IntKind.wrap .i64 (t10 + (1 : Int)))))
  (.go 0 suck9 (sucs9 (t0) (t3) (t5) (t6) (t7) (t8) (t9) (t10) ((0 : Int)) (b11_0) (b11_1) (b11_2) (b11_3) (b11_4) (b11_5))))
set_option maxRecDepth 100000 in
theorem sucp8 (n : Nat) (t0 : List (List D)) (t3 : Bool) (t5 : Int) (t6 : List (List D)) (t7 : Int) (t8 : Bool) (t9 t10 : Int) (t79 : Bool) (b11_0 : ByteArray) (b11_1 : Int) (b11_2 : Bool) (b11_3 b11_4 b11_5 : Int) : exec lv3i (n + 8) (6, Go.Proofs.Tryd.f6, 0) suck8 (sucs8 t0 t3 t5 t6 t7 t8 t9 t10 t79 b11_0 b11_1 b11_2 b11_3 b11_4 b11_5) = Tr.val lv3i (6, Go.Proofs.Tryd.f6, 0) n (suct8 t0 t3 t5 t6 t7 t8 t9 t10 t79 b11_0 b11_1 b11_2 b11_3 b11_4 b11_5) := by kernel_rfl
noncomputable def suct9 (t0 : List (List D)) (t3 : Bool) (t5 : Int) (t6 : List (List D)) (t7 : Int) (t8 : Bool) (t9 t10 t12 : Int) (b11_0 : ByteArray) (b11_1 : Int) (b11_2 : Bool) (b11_3 b11_4 b11_5 : Int) : Tr := (.ask (decide (t12 < t9))
  (.go 0 suck10 (sucs10 (t0) (t3) (t5) (t6) (t7) (t8) (t9) (t10) (t12) ((0 : Int)) (b11_0) (b11_1) (b11_2) (b11_3) (b11_4) (b11_5)))
  (.go 1 suck4 (sucs4 (t0) (t3) (t5) (t6) (t7) (t8) (t9) (IntKind.wrap .i64 (t10 + (1 : Int))))))
set_option maxRecDepth 100000 in
theorem sucp9 (n : Nat) (t0 : List (List D)) (t3 : Bool) (t5 : Int) (t6 : List (List D)) (t7 : Int) (t8 : Bool) (t9 t10 t12 : Int) (b11_0 : ByteArray) (b11_1 : Int) (b11_2 : Bool) (b11_3 b11_4 b11_5 : Int) : exec lv3i (n + 17) (6, Go.Proofs.Tryd.f6, 0) suck9 (sucs9 t0 t3 t5 t6 t7 t8 t9 t10 t12 b11_0 b11_1 b11_2 b11_3 b11_4 b11_5) = Tr.val lv3i (6, Go.Proofs.Tryd.f6, 0) n (suct9 t0 t3 t5 t6 t7 t8 t9 t10 t12 b11_0 b11_1 b11_2 b11_3 b11_4 b11_5) := by kernel_rfl
noncomputable def suct10 (t0 : List (List D)) (t3 : Bool) (t5 : Int) (t6 : List (List D)) (t7 : Int) (t8 : Bool) (t9 t10 t12 t13 : Int) (b11_0 : ByteArray) (b11_1 : Int) (b11_2 : Bool) (b11_3 b11_4 b11_5 : Int) : Tr := (.ask (decide ((0 : Int) ≤ t12) && decide (t12 < (↑(List.length t0) : Int)))
  (.ask (decide (t13 < (↑(List.length (cellA t0 (Int.toNat t12) (3 : Nat))) : Int)))
  (.ask (decide ((0 : Int) ≤ t12) && decide (t12 < (↑(List.length t0) : Int)))
  (.ask (decide ((0 : Int) ≤ t13) && decide (t13 < (↑(List.length (cellA t0 (Int.toNat t12) (3 : Nat))) : Int)))
  (.go 0 suck11 (sucs11 (t0) (t3) (t5) (t6) (t7) (t8) (t9) (t10) (t12) (t13) (b11_0) (b11_1) (b11_2) (b11_3) (b11_4) (b11_5) (cellS (cellA t0 (Int.toNat t12) (3 : Nat)) (Int.toNat t13) (0 : Nat)) (cellI (cellA t0 (Int.toNat t12) (3 : Nat)) (Int.toNat t13) (1 : Nat)) (cellB (cellA t0 (Int.toNat t12) (3 : Nat)) (Int.toNat t13) (2 : Nat)) (cellI (cellA t0 (Int.toNat t12) (3 : Nat)) (Int.toNat t13) (3 : Nat)) (cellI (cellA t0 (Int.toNat t12) (3 : Nat)) (Int.toNat t13) (4 : Nat)) (cellI (cellA t0 (Int.toNat t12) (3 : Nat)) (Int.toNat t13) (5 : Nat))))
  .fail)
  .fail)
  (.go 9 suck9 (sucs9 (t0) (t3) (t5) (t6) (t7) (t8) (t9) (t10) (IntKind.wrap .i64 (t12 + (1 : Int))) (b11_0) (b11_1) (b11_2) (b11_3) (b11_4) (b11_5))))
  .fail)
set_option maxRecDepth 100000 in
theorem sucp10 (n : Nat) (t0 : List (List D)) (t3 : Bool) (t5 : Int) (t6 : List (List D)) (t7 : Int) (t8 : Bool) (t9 t10 t12 t13 : Int) (b11_0 : ByteArray) (b11_1 : Int) (b11_2 : Bool) (b11_3 b11_4 b11_5 : Int) : exec lv3i (n + 31) (6, Go.Proofs.Tryd.f6, 0) suck10 (sucs10 t0 t3 t5 t6 t7 t8 t9 t10 t12 t13 b11_0 b11_1 b11_2 b11_3 b11_4 b11_5) = Tr.val lv3i (6, Go.Proofs.Tryd.f6, 0) n (suct10 t0 t3 t5 t6 t7 t8 t9 t10 t12 t13 b11_0 b11_1 b11_2 b11_3 b11_4 b11_5) := by kernel_rfl
noncomputable def suct11 (t0 : List (List D)) (t3 : Bool) (t5 : Int) (t6 : List (List D)) (t7 : Int) (t8 : Bool) (t9 t10 t12 t13 : Int) (b11_0 : ByteArray) (b11_1 : Int) (b11_2 : Bool) (b11_3 b11_4 b11_5 : Int) (b14_0 : ByteArray) (b14_1 : Int) (b14_2 : Bool) (b14_3 b14_4 b14_5 : Int) : Tr := (.ask (t8)
  (.go 0 suck10 (sucs10 (t0) (t3) (t5) (t6) (t7) (true) (t9) (t10) (t12) (IntKind.wrap .i64 (t13 + (1 : Int))) (b11_0) (b11_1) (b11_2) (b11_3) (b11_4) (b11_5)))
  (.ask (ByteArray.toList b14_0 == ByteArray.toList b11_0)
  (.ask (decide ((0 : Int) ≤ t12) && decide (t12 < (↑(List.length t0) : Int)))
  (.ask (Info.pre lv3i (20 : Nat) [handed [] (.agg [V.val (.int .i64 (cellI t0 (Int.toNat t12) (0 : Nat))), V.val (.int .i64 (cellI t0 (Int.toNat t12) (1 : Nat))), V.arr secC (cellA t0 (Int.toNat t12) (2 : Nat)), V.arr symC (cellA t0 (Int.toNat t12) (3 : Nat)), V.arr relC (cellA t0 (Int.toNat t12) (4 : Nat)), V.arr grpC (cellA t0 (Int.toNat t12) (5 : Nat)), V.arr [.bool] (cellA t0 (Int.toNat t12) (6 : Nat))]), handed [] (.agg [V.val (Value.string b14_0), V.val (.int .u8 b14_1), V.val (Value.bool b14_2), V.val (.int .i64 b14_3), V.val (.int .i64 b14_4), V.val (.int .i64 b14_5)])] [])
  (.ask (thrB (cellA t0 (Int.toNat t12) (6 : Nat)) b14_1 b14_3)
  (.ask (b14_1 == (1 : Int))
  (.go 6 suck12 (sucs12 (t0) (t3) (t5) (t6) (t7) (b14_3 != (-2 : Int)) (t9) (t10) (t12) (t13) (b11_0) (b11_1) (b11_2) (b11_3) (b11_4) (b11_5)))
  (.go 6 suck12 (sucs12 (t0) (t3) (t5) (t6) (t7) (false) (t9) (t10) (t12) (t13) (b11_0) (b11_1) (b11_2) (b11_3) (b11_4) (b11_5))))
  (.go 6 suck12 (sucs12 (t0) (t3) (t5) (t6) (t7) (false) (t9) (t10) (t12) (t13) (b11_0) (b11_1) (b11_2) (b11_3) (b11_4) (b11_5))))
  .fail)
  .fail)
  (.go 0 suck10 (sucs10 (t0) (t3) (t5) (t6) (t7) (false) (t9) (t10) (t12) (IntKind.wrap .i64 (t13 + (1 : Int))) (b11_0) (b11_1) (b11_2) (b11_3) (b11_4) (b11_5)))))
set_option maxRecDepth 100000 in
theorem sucp11 (n : Nat) (t0 : List (List D)) (t3 : Bool) (t5 : Int) (t6 : List (List D)) (t7 : Int) (t8 : Bool) (t9 t10 t12 t13 : Int) (b11_0 : ByteArray) (b11_1 : Int) (b11_2 : Bool) (b11_3 b11_4 b11_5 : Int) (b14_0 : ByteArray) (b14_1 : Int) (b14_2 : Bool) (b14_3 b14_4 b14_5 : Int) : exec lv3i (n + 36) (6, Go.Proofs.Tryd.f6, 0) suck11 (sucs11 t0 t3 t5 t6 t7 t8 t9 t10 t12 t13 b11_0 b11_1 b11_2 b11_3 b11_4 b11_5 b14_0 b14_1 b14_2 b14_3 b14_4 b14_5) = Tr.val lv3i (6, Go.Proofs.Tryd.f6, 0) n (suct11 t0 t3 t5 t6 t7 t8 t9 t10 t12 t13 b11_0 b11_1 b11_2 b11_3 b11_4 b11_5 b14_0 b14_1 b14_2 b14_3 b14_4 b14_5) := by kernel_rfl
noncomputable def suct12 (t0 : List (List D)) (t3 : Bool) (t5 : Int) (t6 : List (List D)) (t7 : Int) (t8 : Bool) (t9 t10 t12 t13 : Int) (b11_0 : ByteArray) (b11_1 : Int) (b11_2 : Bool) (b11_3 b11_4 b11_5 : Int) : Tr := (.go 0 suck10 (sucs10 (t0) (t3) (t5) (t6) (t7) (t8) (t9) (t10) (t12) (IntKind.wrap .i64 (t13 + (1 : Int))) (b11_0) (b11_1) (b11_2) (b11_3) (b11_4) (b11_5)))
set_option maxRecDepth 100000 in
theorem sucp12 (n : Nat) (t0 : List (List D)) (t3 : Bool) (t5 : Int) (t6 : List (List D)) (t7 : Int) (t8 : Bool) (t9 t10 t12 t13 : Int) (b11_0 : ByteArray) (b11_1 : Int) (b11_2 : Bool) (b11_3 b11_4 b11_5 : Int) : exec lv3i (n + 6) (6, Go.Proofs.Tryd.f6, 0) suck12 (sucs12 t0 t3 t5 t6 t7 t8 t9 t10 t12 t13 b11_0 b11_1 b11_2 b11_3 b11_4 b11_5) = Tr.val lv3i (6, Go.Proofs.Tryd.f6, 0) n (suct12 t0 t3 t5 t6 t7 t8 t9 t10 t12 t13 b11_0 b11_1 b11_2 b11_3 b11_4 b11_5) := by kernel_rfl
end Go.Proofs.YtacfehneeanlgaaDoor.Ev
