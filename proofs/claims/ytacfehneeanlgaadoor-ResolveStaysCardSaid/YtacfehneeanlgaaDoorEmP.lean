/- What the pieces of the runs come to, as a program printed it: each is checked by the kernel. -/
import Derived.Test.YtacfehneeanlgaaDoorEmD
namespace Go.Proofs.YtacfehneeanlgaaDoor.Ev
open Go
set_option linter.unusedVariables false
noncomputable def innk0 : List T := [.code (sub (bodyOf Go.Proofs.Tryd.f60) [])]
def inns0 (t0 t1 t2 : Int) : St := ⟨[(0, .val (.int .i64 t0)), (1, .val (.int .i64 t1)), (2, .val (.int .i64 t2))], []⟩
noncomputable def innt0 (t0 t1 t2 : Int) : Tr := (.ask (decide (t0 ≥ t1))
  (.ret (.val (.bool (decide (t0 ≤ t2))), []))
  (.ret (.val (.bool (false)), [])))
set_option maxRecDepth 100000 in
theorem innp0 (n : Nat) (t0 t1 t2 : Int) : exec el6 (n + 17) (60, Go.Proofs.Tryd.f60, 0) innk0 (inns0 t0 t1 t2) = Tr.val el6 (60, Go.Proofs.Tryd.f60, 0) n (innt0 t0 t1 t2) := by kernel_rfl
noncomputable def namk0 : List T := [.code (sub (bodyOf Go.Proofs.Tryd.f61) [])]
def nams0 (t0 : ByteArray) : St := ⟨[(0, .val (.string t0))], []⟩
noncomputable def namk1 : List T := [.code (sub (bodyOf Go.Proofs.Tryd.f61) [1, 1, 0, 1, 0, 0]), .lp (sub (bodyOf Go.Proofs.Tryd.f61) [1, 1, 0, 1, 0, 0]), .blk 0, .code (sub (bodyOf Go.Proofs.Tryd.f61) [1, 1, 1])]
def nams1 (t0 : ByteArray) (t13 t14 : Int) : St := ⟨[(0, .val (.string t0)), (13, .val (.int .i64 t13)), (14, .val (.int .i64 t14))], []⟩
noncomputable def namt0 (t0 : ByteArray) : Tr := (.ask (ByteArray.toList t0 == ByteArray.toList { data := #[] })
  (.ret (.val (.bool (false)), []))
  (.ask (decide ((↑(ByteArray.size t0) : Int) > (32 : Int)))
  (.ret (.val (.bool (false)), []))
  (.go 0 namk1 (nams1 (t0) ((↑(ByteArray.size t0) : Int)) ((0 : Int))))))
set_option maxRecDepth 100000 in
theorem namp0 (n : Nat) (t0 : ByteArray) : exec el6 (n + 26) (61, Go.Proofs.Tryd.f61, 0) namk0 (nams0 t0) = Tr.val el6 (61, Go.Proofs.Tryd.f61, 0) n (namt0 t0) := by kernel_rfl
noncomputable def namt1 (t0 : ByteArray) (t13 t14 : Int) : Tr := (.ask (decide (t14 < t13))
  (.ask (decide ((0 : Int) ≤ t14) && decide (t14 < (↑(ByteArray.size t0) : Int)))
  (.ask (decide (byteAt t0 t14 < (33 : Int)))
  (.ret (.val (.bool (false)), []))
  (.ask (decide (byteAt t0 t14 > (126 : Int)))
  (.ret (.val (.bool (false)), []))
  (.go 0 namk1 (nams1 (t0) (t13) (IntKind.wrap .i64 (t14 + (1 : Int)))))))
  .fail)
  (.ret (.val (.bool (true)), [])))
set_option maxRecDepth 100000 in
theorem namp1 (n : Nat) (t0 : ByteArray) (t13 t14 : Int) : exec el6 (n + 38) (61, Go.Proofs.Tryd.f61, 0) namk1 (nams1 t0 t13 t14) = Tr.val el6 (61, Go.Proofs.Tryd.f61, 0) n (namt1 t0 t13 t14) := by kernel_rfl
noncomputable def fiek0 : List T := [.code (sub (bodyOf Go.Proofs.Tryd.f81) [])]
def fies0 (t0 : Int) : St := ⟨[(0, .val (.int .u8 t0))], []⟩
noncomputable def fiet0 (t0 : Int) : Tr := (.ask (t0 == (43 : Int))
  (.ret (.tup [z0, z0], []))
  (.ask (t0 == (51 : Int))
  (.ret (.tup [z0, z0], []))
  (.ask (t0 == (33 : Int))
  (.ret (.tup [.val (.int .i64 ((1 : Int))), z0], []))
  (.ask (t0 == (37 : Int))
  (.ret (.tup [.val (.int .i64 ((1 : Int))), z0], []))
  (.ask (t0 == (34 : Int))
  (.ret (.tup [.val (.int .i64 ((2 : Int))), z0], []))
  (.ask (t0 == (38 : Int))
  (.ret (.tup [.val (.int .i64 ((2 : Int))), z0], []))
  (.ask (t0 == (44 : Int))
  (.ret (.tup [.val (.int .i64 ((2 : Int))), z0], []))
  (.ask (t0 == (45 : Int))
  (.ret (.tup [.val (.int .i64 ((2 : Int))), z0], []))
  (.ask (t0 == (2 : Int))
  (.ret (.tup [.val (.int .i64 ((8 : Int))), z0], []))
  (.ask (t0 == (36 : Int))
  (.ret (.tup [.val (.int .i64 ((8 : Int))), z0], []))
  (.ask (t0 == (40 : Int))
  (.ret (.tup [.val (.int .i64 ((8 : Int))), z0], []))
  (.ask (t0 == (18 : Int))
  (.ret (.tup [.val (.int .i64 ((8 : Int))), z0], []))
  (.ask (t0 == (1 : Int))
  (.ret (.tup [.val (.int .i64 ((4 : Int))), z0], []))
  (.ask (t0 == (16 : Int))
  (.ret (.tup [.val (.int .i64 ((4 : Int))), z0], []))
  (.ask (t0 == (17 : Int))
  (.ret (.tup [.val (.int .i64 ((4 : Int))), z0], []))
  (.ask (t0 == (23 : Int))
  (.ret (.tup [.val (.int .i64 ((4 : Int))), z0], []))
  (.ask (t0 == (24 : Int))
  (.ret (.tup [.val (.int .i64 ((4 : Int))), z0], []))
  (.ask (t0 == (25 : Int))
  (.ret (.tup [.val (.int .i64 ((4 : Int))), z0], []))
  (.ask (t0 == (26 : Int))
  (.ret (.tup [.val (.int .i64 ((4 : Int))), z0], []))
  (.ask (t0 == (27 : Int))
  (.ret (.tup [.val (.int .i64 ((4 : Int))), z0], []))
  (.ask (t0 == (28 : Int))
  (.ret (.tup [.val (.int .i64 ((4 : Int))), z0], []))
  (.ask (t0 == (35 : Int))
  (.ret (.tup [.val (.int .i64 ((4 : Int))), z0], []))
  (.ask (t0 == (39 : Int))
  (.ret (.tup [.val (.int .i64 ((4 : Int))), z0], []))
  (.ret (.tup [z0, .val (.int .i64 ((2 : Int)))], [])))))))))))))))))))))))))
set_option maxRecDepth 100000 in
theorem fiep0 (n : Nat) (t0 : Int) : exec el6 (n + 157) (81, Go.Proofs.Tryd.f81, 0) fiek0 (fies0 t0) = Tr.val el6 (81, Go.Proofs.Tryd.f81, 0) n (fiet0 t0) := by kernel_rfl
noncomputable def hsTk0 : List T := [.code (sub (bodyOf Go.Proofs.Tryd.f82) [])]
def hsTs0 (t0 t1 : Int) : St := ⟨[(0, .val (.int .u64 t0)), (1, .val (.int .u8 t1))], []⟩
noncomputable def hsTt0 (t0 t1 : Int) : Tr := (.ask (decide (t1 < (64 : Int)))
  (.ask (decide ((0 : Int) ≤ t1))
  (.ret (.val (.bool (IntKind.wrap .u64 (↑(BitVec.toNat (BitVec.ofInt (64 : Nat) (Int.fdiv t0 ((2 : Int) ^ min (Int.toNat t1) (64 : Nat))) &&& BitVec.ofInt (64 : Nat) (1 : Int))) : Int) == (1 : Int))), []))
  .fail)
  (.ret (.val (.bool (false)), [])))
set_option maxRecDepth 100000 in
theorem hsTp0 (n : Nat) (t0 t1 : Int) : exec el6 (n + 18) (82, Go.Proofs.Tryd.f82, 0) hsTk0 (hsTs0 t0 t1) = Tr.val el6 (82, Go.Proofs.Tryd.f82, 0) n (hsTt0 t0 t1) := by kernel_rfl
noncomputable def szek0 : List T := [.code (sub (bodyOf Go.Proofs.Tryd.f45) [])]
def szes0 (t0_0 : ByteArray) (t0_1 : Int) (t0_2 : List (List D)) (t0_3 : Int) : St := ⟨[(0, .agg [.val (.string t0_0), .val (.int .i64 t0_1), .arr u8s t0_2, .val (.int .i64 t0_3)])], []⟩
noncomputable def szet0 (t0_2 : List (List D)) (t0_3 : Int) : Tr := (.ret (.val (.int .i64 (IntKind.wrap .i64 ((↑(List.length t0_2) : Int) + t0_3))), []))
set_option maxRecDepth 100000 in
theorem szep0 (n : Nat) (t0_0 : ByteArray) (t0_1 : Int) (t0_2 : List (List D)) (t0_3 : Int) : exec el6 (n + 16) (45, Go.Proofs.Tryd.f45, 0) szek0 (szes0 t0_0 t0_1 t0_2 t0_3) = Tr.val el6 (45, Go.Proofs.Tryd.f45, 0) n (szet0 t0_2 t0_3) := by kernel_rfl
noncomputable def stak0 : List T := [.code (sub (bodyOf Go.Proofs.Tryd.f62) [])]
def stas0 (t0_0 : ByteArray) (t0_1 : Int) (t0_2 : Bool) (t0_3 t0_4 t0_5 t1 : Int) : St := ⟨[(0, .agg [.val (.string t0_0), .val (.int .u8 t0_1), .val (.bool t0_2), .val (.int .i64 t0_3), .val (.int .i64 t0_4), .val (.int .i64 t0_5)]), (1, .val (.int .i64 t1))], []⟩
noncomputable def stat0 (t0_1 : Int) (t0_2 : Bool) (t0_3 t0_4 t0_5 t1 : Int) : Tr := (.ask (decide (t0_1 > (2 : Int)))
  (.ret (.val (.bool (false)), []))
  (.ask (t0_2)
  (.ask (t0_1 == (0 : Int))
  (.ret (.val (.bool (false)), []))
  (.ask (t0_3 == (0 : Int))
  (.ask (!t0_1 == (0 : Int))
  (.ask (t0_4 == (0 : Int))
  (.ret (.val (.bool (t0_5 == (0 : Int))), []))
  (.ret (.val (.bool (false)), [])))
  (.ret (.val (.bool (false)), [])))
  (.ask (t0_3 == (-1 : Int))
  (.ask (inB t0_4 (-2147483648 : Int) (4294967295 : Int))
  (.ret (.val (.bool (t0_5 == (0 : Int))), []))
  (.ret (.val (.bool (false)), [])))
  (.ask (t0_3 == (-2 : Int))
  (.ask (secE { data := #[(46 : UInt8), (98 : UInt8), (115 : UInt8), (115 : UInt8)] } t0_4 (0 : Int) (0 : Int) == (0 : Int))
  (.ask (inB t0_5 (1 : Int) (4096 : Int))
  (.ret (.val (.bool (t0_1 == (1 : Int))), []))
  (.ret (.val (.bool (false)), [])))
  (.ret (.val (.bool (false)), [])))
  (.ask (inB t0_3 (1 : Int) t1)
  (.ask (inB t0_4 (0 : Int) (4096 : Int))
  (.ret (.val (.bool (inB t0_5 (0 : Int) (4096 : Int))), []))
  (.ret (.val (.bool (false)), [])))
  (.ret (.val (.bool (false)), [])))))))
  (.ask (t0_3 == (0 : Int))
  (.ask (!t0_1 == (0 : Int))
  (.ask (t0_4 == (0 : Int))
  (.ret (.val (.bool (t0_5 == (0 : Int))), []))
  (.ret (.val (.bool (false)), [])))
  (.ret (.val (.bool (false)), [])))
  (.ask (t0_3 == (-1 : Int))
  (.ask (inB t0_4 (-2147483648 : Int) (4294967295 : Int))
  (.ret (.val (.bool (t0_5 == (0 : Int))), []))
  (.ret (.val (.bool (false)), [])))
  (.ask (t0_3 == (-2 : Int))
  (.ask (secE { data := #[(46 : UInt8), (98 : UInt8), (115 : UInt8), (115 : UInt8)] } t0_4 (0 : Int) (0 : Int) == (0 : Int))
  (.ask (inB t0_5 (1 : Int) (4096 : Int))
  (.ret (.val (.bool (t0_1 == (1 : Int))), []))
  (.ret (.val (.bool (false)), [])))
  (.ret (.val (.bool (false)), [])))
  (.ask (inB t0_3 (1 : Int) t1)
  (.ask (inB t0_4 (0 : Int) (4096 : Int))
  (.ret (.val (.bool (inB t0_5 (0 : Int) (4096 : Int))), []))
  (.ret (.val (.bool (false)), [])))
  (.ret (.val (.bool (false)), []))))))))
set_option maxRecDepth 100000 in
theorem stap0 (n : Nat) (t0_0 : ByteArray) (t0_1 : Int) (t0_2 : Bool) (t0_3 t0_4 t0_5 t1 : Int) : exec em1 (n + 81) (62, Go.Proofs.Tryd.f62, 0) stak0 (stas0 t0_0 t0_1 t0_2 t0_3 t0_4 t0_5 t1) = Tr.val em1 (62, Go.Proofs.Tryd.f62, 0) n (stat0 t0_1 t0_2 t0_3 t0_4 t0_5 t1) := by kernel_rfl
noncomputable def symk0 : List T := [.code (sub (bodyOf Go.Proofs.Tryd.f44) [])]
def syms0 (t0_0 : ByteArray) (t0_1 : Int) (t0_2 : Bool) (t0_3 t0_4 t0_5 t1 : Int) : St := ⟨[(0, .agg [.val (.string t0_0), .val (.int .u8 t0_1), .val (.bool t0_2), .val (.int .i64 t0_3), .val (.int .i64 t0_4), .val (.int .i64 t0_5)]), (1, .val (.int .i64 t1))], []⟩
noncomputable def symt0 (t0_0 : ByteArray) (t0_1 : Int) (t0_2 : Bool) (t0_3 t0_4 t0_5 t1 : Int) : Tr := (.ask (!inB t1 (0 : Int) (16 : Int))
  (.ret (.val (.int .i64 ((2 : Int))), []))
  (.ask (!namedB t0_0)
  (.ret (.val (.int .i64 ((8 : Int))), []))
  (.ask (!standsB t0_1 t0_2 t0_3 t0_4 t0_5 t1)
  (.ret (.val (.int .i64 ((8 : Int))), []))
  (.ret (z0, [])))))
set_option maxRecDepth 100000 in
theorem symp0 (n : Nat) (t0_0 : ByteArray) (t0_1 : Int) (t0_2 : Bool) (t0_3 t0_4 t0_5 t1 : Int) : exec em2 (n + 35) (44, Go.Proofs.Tryd.f44, 0) symk0 (syms0 t0_0 t0_1 t0_2 t0_3 t0_4 t0_5 t1) = Tr.val em2 (44, Go.Proofs.Tryd.f44, 0) n (symt0 t0_0 t0_1 t0_2 t0_3 t0_4 t0_5 t1) := by kernel_rfl
end Go.Proofs.YtacfehneeanlgaaDoor.Ev
