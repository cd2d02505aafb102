/- What the pieces of the runs come to, as a program printed it: each is checked by the kernel. -/
import Derived.Test.YtacfehneeanlgaaDoorElD
namespace Go.Proofs.YtacfehneeanlgaaDoor.Ev
open Go
set_option linter.unusedVariables false
noncomputable def knd1k0 : List T := [.code (sub (bodyOf Go.Proofs.Tryd.f56) [])]
def knd1s0 (t0 : Int) : St := ⟨[(0, .val (.int .i32 t0))], []⟩
noncomputable def knd1t0 (t0 : Int) : Tr := (.ask (decide (t0 < (33 : Int)))
  (.ret (.val (.bool (true)), []))
  (.ret (.val (.bool (decide (t0 > (126 : Int)))), [])))
set_option maxRecDepth 100000 in
theorem knd1p0 (n : Nat) (t0 : Int) : exec el0 (n + 15) (56, Go.Proofs.Tryd.f56, 0) knd1k0 (knd1s0 t0) = Tr.val el0 (56, Go.Proofs.Tryd.f56, 0) n (knd1t0 t0) := by kernel_rfl
noncomputable def hask0 : List T := [.code (sub (bodyOf Go.Proofs.Tryd.f91) [])]
def hass0 (t0 t1 : ByteArray) : St := ⟨[(0, .val (.string t0)), (1, .val (.string t1))], []⟩
noncomputable def hast0 (t0 t1 : ByteArray) : Tr := (.ask (decide ((↑(ByteArray.size t0) : Int) ≥ (↑(ByteArray.size t1) : Int)))
  (.ask (okBounds (0 : Int) (↑(ByteArray.size t1) : Int) (↑(ByteArray.size t0) : Int))
  (.ret (.val (.bool (ByteArray.toList (ByteArray.extract t0 (0 : Nat) (ByteArray.size t1)) == ByteArray.toList t1)), []))
  .fail)
  (.ret (.val (.bool (false)), [])))
set_option maxRecDepth 100000 in
theorem hasp0 (n : Nat) (t0 t1 : ByteArray) : exec el0 (n + 22) (91, Go.Proofs.Tryd.f91, 0) hask0 (hass0 t0 t1) = Tr.val el0 (91, Go.Proofs.Tryd.f91, 0) n (hast0 t0 t1) := by kernel_rfl
noncomputable def onek0 : List T := [.code (sub (bodyOf Go.Proofs.Tryd.f59) [])]
def ones0 (t0 : Int) : St := ⟨[(0, .val (.int .u64 t0))], []⟩
noncomputable def onet0 (t0 : Int) : Tr := (.ret (.val (.int .i64 (IntKind.wrap .i64 (↑(BitVec.toNat (BitVec.ofInt (64 : Nat) (IntKind.wrap .i64 (IntKind.wrap .u64 (IntKind.wrap .u64 (IntKind.wrap .u64 (IntKind.wrap .u64 (↑(BitVec.toNat (BitVec.ofInt (64 : Nat) (IntKind.wrap .u64 (Int.fdiv (IntKind.wrap .u64 (IntKind.wrap .u64 (↑(BitVec.toNat (BitVec.ofInt (64 : Nat) (Int.fdiv (IntKind.wrap .u64 (IntKind.wrap .u64 (↑(BitVec.toNat (BitVec.ofInt (64 : Nat) (Int.fdiv t0 (2 : Int)) &&& BitVec.ofInt (64 : Nat) (6148914691236517205 : Int))) : Int) + IntKind.wrap .u64 (↑(BitVec.toNat (BitVec.ofInt (64 : Nat) t0 &&& BitVec.ofInt (64 : Nat) (6148914691236517205 : Int))) : Int))) (4 : Int)) &&& BitVec.ofInt (64 : Nat) (3689348814741910323 : Int))) : Int) + IntKind.wrap .u64 (↑(BitVec.toNat (BitVec.ofInt (64 : Nat) (IntKind.wrap .u64 (IntKind.wrap .u64 (↑(BitVec.toNat (BitVec.ofInt (64 : Nat) (Int.fdiv t0 (2 : Int)) &&& BitVec.ofInt (64 : Nat) (6148914691236517205 : Int))) : Int) + IntKind.wrap .u64 (↑(BitVec.toNat (BitVec.ofInt (64 : Nat) t0 &&& BitVec.ofInt (64 : Nat) (6148914691236517205 : Int))) : Int))) &&& BitVec.ofInt (64 : Nat) (3689348814741910323 : Int))) : Int))) (16 : Int) + IntKind.wrap .u64 (IntKind.wrap .u64 (↑(BitVec.toNat (BitVec.ofInt (64 : Nat) (Int.fdiv (IntKind.wrap .u64 (IntKind.wrap .u64 (↑(BitVec.toNat (BitVec.ofInt (64 : Nat) (Int.fdiv t0 (2 : Int)) &&& BitVec.ofInt (64 : Nat) (6148914691236517205 : Int))) : Int) + IntKind.wrap .u64 (↑(BitVec.toNat (BitVec.ofInt (64 : Nat) t0 &&& BitVec.ofInt (64 : Nat) (6148914691236517205 : Int))) : Int))) (4 : Int)) &&& BitVec.ofInt (64 : Nat) (3689348814741910323 : Int))) : Int) + IntKind.wrap .u64 (↑(BitVec.toNat (BitVec.ofInt (64 : Nat) (IntKind.wrap .u64 (IntKind.wrap .u64 (↑(BitVec.toNat (BitVec.ofInt (64 : Nat) (Int.fdiv t0 (2 : Int)) &&& BitVec.ofInt (64 : Nat) (6148914691236517205 : Int))) : Int) + IntKind.wrap .u64 (↑(BitVec.toNat (BitVec.ofInt (64 : Nat) t0 &&& BitVec.ofInt (64 : Nat) (6148914691236517205 : Int))) : Int))) &&& BitVec.ofInt (64 : Nat) (3689348814741910323 : Int))) : Int)))) &&& BitVec.ofInt (64 : Nat) (1085102592571150095 : Int))) : Int) + Int.fdiv (IntKind.wrap .u64 (↑(BitVec.toNat (BitVec.ofInt (64 : Nat) (IntKind.wrap .u64 (Int.fdiv (IntKind.wrap .u64 (IntKind.wrap .u64 (↑(BitVec.toNat (BitVec.ofInt (64 : Nat) (Int.fdiv (IntKind.wrap .u64 (IntKind.wrap .u64 (↑(BitVec.toNat (BitVec.ofInt (64 : Nat) (Int.fdiv t0 (2 : Int)) &&& BitVec.ofInt (64 : Nat) (6148914691236517205 : Int))) : Int) + IntKind.wrap .u64 (↑(BitVec.toNat (BitVec.ofInt (64 : Nat) t0 &&& BitVec.ofInt (64 : Nat) (6148914691236517205 : Int))) : Int))) (4 : Int)) &&& BitVec.ofInt (64 : Nat) (3689348814741910323 : Int))) : Int) + IntKind.wrap .u64 (↑(BitVec.toNat (BitVec.ofInt (64 : Nat) (IntKind.wrap .u64 (IntKind.wrap .u64 (↑(BitVec.toNat (BitVec.ofInt (64 : Nat) (Int.fdiv t0 (2 : Int)) &&& BitVec.ofInt (64 : Nat) (6148914691236517205 : Int))) : Int) + IntKind.wrap .u64 (↑(BitVec.toNat (BitVec.ofInt (64 : Nat) t0 &&& BitVec.ofInt (64 : Nat) (6148914691236517205 : Int))) : Int))) &&& BitVec.ofInt (64 : Nat) (3689348814741910323 : Int))) : Int))) (16 : Int) + IntKind.wrap .u64 (IntKind.wrap .u64 (↑(BitVec.toNat (BitVec.ofInt (64 : Nat) (Int.fdiv (IntKind.wrap .u64 (IntKind.wrap .u64 (↑(BitVec.toNat (BitVec.ofInt (64 : Nat) (Int.fdiv t0 (2 : Int)) &&& BitVec.ofInt (64 : Nat) (6148914691236517205 : Int))) : Int) + IntKind.wrap .u64 (↑(BitVec.toNat (BitVec.ofInt (64 : Nat) t0 &&& BitVec.ofInt (64 : Nat) (6148914691236517205 : Int))) : Int))) (4 : Int)) &&& BitVec.ofInt (64 : Nat) (3689348814741910323 : Int))) : Int) + IntKind.wrap .u64 (↑(BitVec.toNat (BitVec.ofInt (64 : Nat) (IntKind.wrap .u64 (IntKind.wrap .u64 (↑(BitVec.toNat (BitVec.ofInt (64 : Nat) (Int.fdiv t0 (2 : Int)) &&& BitVec.ofInt (64 : Nat) (6148914691236517205 : Int))) : Int) + IntKind.wrap .u64 (↑(BitVec.toNat (BitVec.ofInt (64 : Nat) t0 &&& BitVec.ofInt (64 : Nat) (6148914691236517205 : Int))) : Int))) &&& BitVec.ofInt (64 : Nat) (3689348814741910323 : Int))) : Int)))) &&& BitVec.ofInt (64 : Nat) (1085102592571150095 : Int))) : Int)) (256 : Int)) + Int.fdiv (IntKind.wrap .u64 (IntKind.wrap .u64 (↑(BitVec.toNat (BitVec.ofInt (64 : Nat) (IntKind.wrap .u64 (Int.fdiv (IntKind.wrap .u64 (IntKind.wrap .u64 (↑(BitVec.toNat (BitVec.ofInt (64 : Nat) (Int.fdiv (IntKind.wrap .u64 (IntKind.wrap .u64 (↑(BitVec.toNat (BitVec.ofInt (64 : Nat) (Int.fdiv t0 (2 : Int)) &&& BitVec.ofInt (64 : Nat) (6148914691236517205 : Int))) : Int) + IntKind.wrap .u64 (↑(BitVec.toNat (BitVec.ofInt (64 : Nat) t0 &&& BitVec.ofInt (64 : Nat) (6148914691236517205 : Int))) : Int))) (4 : Int)) &&& BitVec.ofInt (64 : Nat) (3689348814741910323 : Int))) : Int) + IntKind.wrap .u64 (↑(BitVec.toNat (BitVec.ofInt (64 : Nat) (IntKind.wrap .u64 (IntKind.wrap .u64 (↑(BitVec.toNat (BitVec.ofInt (64 : Nat) (Int.fdiv t0 (2 : Int)) &&& BitVec.ofInt (64 : Nat) (6148914691236517205 : Int))) : Int) + IntKind.wrap .u64 (↑(BitVec.toNat (BitVec.ofInt (64 : Nat) t0 &&& BitVec.ofInt (64 : Nat) (6148914691236517205 : Int))) : Int))) &&& BitVec.ofInt (64 : Nat) (3689348814741910323 : Int))) : Int))) (16 : Int) + IntKind.wrap .u64 (IntKind.wrap .u64 (↑(BitVec.toNat (BitVec.ofInt (64 : Nat) (Int.fdiv (IntKind.wrap .u64 (IntKind.wrap .u64 (↑(BitVec.toNat (BitVec.ofInt (64 : Nat) (Int.fdiv t0 (2 : Int)) &&& BitVec.ofInt (64 : Nat) (6148914691236517205 : Int))) : Int) + IntKind.wrap .u64 (↑(BitVec.toNat (BitVec.ofInt (64 : Nat) t0 &&& BitVec.ofInt (64 : Nat) (6148914691236517205 : Int))) : Int))) (4 : Int)) &&& BitVec.ofInt (64 : Nat) (3689348814741910323 : Int))) : Int) + IntKind.wrap .u64 (↑(BitVec.toNat (BitVec.ofInt (64 : Nat) (IntKind.wrap .u64 (IntKind.wrap .u64 (↑(BitVec.toNat (BitVec.ofInt (64 : Nat) (Int.fdiv t0 (2 : Int)) &&& BitVec.ofInt (64 : Nat) (6148914691236517205 : Int))) : Int) + IntKind.wrap .u64 (↑(BitVec.toNat (BitVec.ofInt (64 : Nat) t0 &&& BitVec.ofInt (64 : Nat) (6148914691236517205 : Int))) : Int))) &&& BitVec.ofInt (64 : Nat) (3689348814741910323 : Int))) : Int)))) &&& BitVec.ofInt (64 : Nat) (1085102592571150095 : Int))) : Int) + Int.fdiv (IntKind.wrap .u64 (↑(BitVec.toNat (BitVec.ofInt (64 : Nat) (IntKind.wrap .u64 (Int.fdiv (IntKind.wrap .u64 (IntKind.wrap .u64 (↑(BitVec.toNat (BitVec.ofInt (64 : Nat) (Int.fdiv (IntKind.wrap .u64 (IntKind.wrap .u64 (↑(BitVec.toNat (BitVec.ofInt (64 : Nat) (Int.fdiv t0 (2 : Int)) &&& BitVec.ofInt (64 : Nat) (6148914691236517205 : Int))) : Int) + IntKind.wrap .u64 (↑(BitVec.toNat (BitVec.ofInt (64 : Nat) t0 &&& BitVec.ofInt (64 : Nat) (6148914691236517205 : Int))) : Int))) (4 : Int)) &&& BitVec.ofInt (64 : Nat) (3689348814741910323 : Int))) : Int) + IntKind.wrap .u64 (↑(BitVec.toNat (BitVec.ofInt (64 : Nat) (IntKind.wrap .u64 (IntKind.wrap .u64 (↑(BitVec.toNat (BitVec.ofInt (64 : Nat) (Int.fdiv t0 (2 : Int)) &&& BitVec.ofInt (64 : Nat) (6148914691236517205 : Int))) : Int) + IntKind.wrap .u64 (↑(BitVec.toNat (BitVec.ofInt (64 : Nat) t0 &&& BitVec.ofInt (64 : Nat) (6148914691236517205 : Int))) : Int))) &&& BitVec.ofInt (64 : Nat) (3689348814741910323 : Int))) : Int))) (16 : Int) + IntKind.wrap .u64 (IntKind.wrap .u64 (↑(BitVec.toNat (BitVec.ofInt (64 : Nat) (Int.fdiv (IntKind.wrap .u64 (IntKind.wrap .u64 (↑(BitVec.toNat (BitVec.ofInt (64 : Nat) (Int.fdiv t0 (2 : Int)) &&& BitVec.ofInt (64 : Nat) (6148914691236517205 : Int))) : Int) + IntKind.wrap .u64 (↑(BitVec.toNat (BitVec.ofInt (64 : Nat) t0 &&& BitVec.ofInt (64 : Nat) (6148914691236517205 : Int))) : Int))) (4 : Int)) &&& BitVec.ofInt (64 : Nat) (3689348814741910323 : Int))) : Int) + IntKind.wrap .u64 (↑(BitVec.toNat (BitVec.ofInt (64 : Nat) (IntKind.wrap .u64 (IntKind.wrap .u64 (↑(BitVec.toNat (BitVec.ofInt (64 : Nat) (Int.fdiv t0 (2 : Int)) &&& BitVec.ofInt (64 : Nat) (6148914691236517205 : Int))) : Int) + IntKind.wrap .u64 (↑(BitVec.toNat (BitVec.ofInt (64 : Nat) t0 &&& BitVec.ofInt (64 : Nat) (6148914691236517205 : Int))) : Int))) &&& BitVec.ofInt (64 : Nat) (3689348814741910323 : Int))) : Int)))) &&& BitVec.ofInt (64 : Nat) (1085102592571150095 : Int))) : Int)) (256 : Int))) (65536 : Int)) + Int.fdiv (IntKind.wrap .u64 (IntKind.wrap .u64 (IntKind.wrap .u64 (↑(BitVec.toNat (BitVec.ofInt (64 : Nat) (IntKind.wrap .u64 (Int.fdiv (IntKind.wrap .u64 (IntKind.wrap .u64 (↑(BitVec.toNat (BitVec.ofInt (64 : Nat) (Int.fdiv (IntKind.wrap .u64 (IntKind.wrap .u64 (↑(BitVec.toNat (BitVec.ofInt (64 : Nat) (Int.fdiv t0 (2 : Int)) &&& BitVec.ofInt (64 : Nat) (6148914691236517205 : Int))) : Int) + IntKind.wrap .u64 (↑(BitVec.toNat (BitVec.ofInt (64 : Nat) t0 &&& BitVec.ofInt (64 : Nat) (6148914691236517205 : Int))) : Int))) (4 : Int)) &&& BitVec.ofInt (64 : Nat) (3689348814741910323 : Int))) : Int) + IntKind.wrap .u64 (↑(BitVec.toNat (BitVec.ofInt (64 : Nat) (IntKind.wrap .u64 (IntKind.wrap .u64 (↑(BitVec.toNat (BitVec.ofInt (64 : Nat) (Int.fdiv t0 (2 : Int)) &&& BitVec.ofInt (64 : Nat) (6148914691236517205 : Int))) : Int) + IntKind.wrap .u64 (↑(BitVec.toNat (BitVec.ofInt (64 : Nat) t0 &&& BitVec.ofInt (64 : Nat) (6148914691236517205 : Int))) : Int))) &&& BitVec.ofInt (64 : Nat) (3689348814741910323 : Int))) : Int))) (16 : Int) + IntKind.wrap .u64 (IntKind.wrap .u64 (↑(BitVec.toNat (BitVec.ofInt (64 : Nat) (Int.fdiv (IntKind.wrap .u64 (IntKind.wrap .u64 (↑(BitVec.toNat (BitVec.ofInt (64 : Nat) (Int.fdiv t0 (2 : Int)) &&& BitVec.ofInt (64 : Nat) (6148914691236517205 : Int))) : Int) + IntKind.wrap .u64 (↑(BitVec.toNat (BitVec.ofInt (64 : Nat) t0 &&& BitVec.ofInt (64 : Nat) (6148914691236517205 : Int))) : Int))) (4 : Int)) &&& BitVec.ofInt (64 : Nat) (3689348814741910323 : Int))) : Int) + IntKind.wrap .u64 (↑(BitVec.toNat (BitVec.ofInt (64 : Nat) (IntKind.wrap .u64 (IntKind.wrap .u64 (↑(BitVec.toNat (BitVec.ofInt (64 : Nat) (Int.fdiv t0 (2 : Int)) &&& BitVec.ofInt (64 : Nat) (6148914691236517205 : Int))) : Int) + IntKind.wrap .u64 (↑(BitVec.toNat (BitVec.ofInt (64 : Nat) t0 &&& BitVec.ofInt (64 : Nat) (6148914691236517205 : Int))) : Int))) &&& BitVec.ofInt (64 : Nat) (3689348814741910323 : Int))) : Int)))) &&& BitVec.ofInt (64 : Nat) (1085102592571150095 : Int))) : Int) + Int.fdiv (IntKind.wrap .u64 (↑(BitVec.toNat (BitVec.ofInt (64 : Nat) (IntKind.wrap .u64 (Int.fdiv (IntKind.wrap .u64 (IntKind.wrap .u64 (↑(BitVec.toNat (BitVec.ofInt (64 : Nat) (Int.fdiv (IntKind.wrap .u64 (IntKind.wrap .u64 (↑(BitVec.toNat (BitVec.ofInt (64 : Nat) (Int.fdiv t0 (2 : Int)) &&& BitVec.ofInt (64 : Nat) (6148914691236517205 : Int))) : Int) + IntKind.wrap .u64 (↑(BitVec.toNat (BitVec.ofInt (64 : Nat) t0 &&& BitVec.ofInt (64 : Nat) (6148914691236517205 : Int))) : Int))) (4 : Int)) &&& BitVec.ofInt (64 : Nat) (3689348814741910323 : Int))) : Int) + IntKind.wrap .u64 (↑(BitVec.toNat (BitVec.ofInt (64 : Nat) (IntKind.wrap .u64 (IntKind.wrap .u64 (↑(BitVec.toNat (BitVec.ofInt (64 : Nat) (Int.fdiv t0 (2 : Int)) &&& BitVec.ofInt (64 : Nat) (6148914691236517205 : Int))) : Int) + IntKind.wrap .u64 (↑(BitVec.toNat (BitVec.ofInt (64 : Nat) t0 &&& BitVec.ofInt (64 : Nat) (6148914691236517205 : Int))) : Int))) &&& BitVec.ofInt (64 : Nat) (3689348814741910323 : Int))) : Int))) (16 : Int) + IntKind.wrap .u64 (IntKind.wrap .u64 (↑(BitVec.toNat (BitVec.ofInt (64 : Nat) (Int.fdiv (IntKind.wrap .u64 (IntKind.wrap .u64 (↑(BitVec.toNat (BitVec.ofInt (64 : Nat) (Int.fdiv t0 (2 : Int)) &&& BitVec.ofInt (64 : Nat) (6148914691236517205 : Int))) : Int) + IntKind.wrap .u64 (↑(BitVec.toNat (BitVec.ofInt (64 : Nat) t0 &&& BitVec.ofInt (64 : Nat) (6148914691236517205 : Int))) : Int))) (4 : Int)) &&& BitVec.ofInt (64 : Nat) (3689348814741910323 : Int))) : Int) + IntKind.wrap .u64 (↑(BitVec.toNat (BitVec.ofInt (64 : Nat) (IntKind.wrap .u64 (IntKind.wrap .u64 (↑(BitVec.toNat (BitVec.ofInt (64 : Nat) (Int.fdiv t0 (2 : Int)) &&& BitVec.ofInt (64 : Nat) (6148914691236517205 : Int))) : Int) + IntKind.wrap .u64 (↑(BitVec.toNat (BitVec.ofInt (64 : Nat) t0 &&& BitVec.ofInt (64 : Nat) (6148914691236517205 : Int))) : Int))) &&& BitVec.ofInt (64 : Nat) (3689348814741910323 : Int))) : Int)))) &&& BitVec.ofInt (64 : Nat) (1085102592571150095 : Int))) : Int)) (256 : Int)) + Int.fdiv (IntKind.wrap .u64 (IntKind.wrap .u64 (↑(BitVec.toNat (BitVec.ofInt (64 : Nat) (IntKind.wrap .u64 (Int.fdiv (IntKind.wrap .u64 (IntKind.wrap .u64 (↑(BitVec.toNat (BitVec.ofInt (64 : Nat) (Int.fdiv (IntKind.wrap .u64 (IntKind.wrap .u64 (↑(BitVec.toNat (BitVec.ofInt (64 : Nat) (Int.fdiv t0 (2 : Int)) &&& BitVec.ofInt (64 : Nat) (6148914691236517205 : Int))) : Int) + IntKind.wrap .u64 (↑(BitVec.toNat (BitVec.ofInt (64 : Nat) t0 &&& BitVec.ofInt (64 : Nat) (6148914691236517205 : Int))) : Int))) (4 : Int)) &&& BitVec.ofInt (64 : Nat) (3689348814741910323 : Int))) : Int) + IntKind.wrap .u64 (↑(BitVec.toNat (BitVec.ofInt (64 : Nat) (IntKind.wrap .u64 (IntKind.wrap .u64 (↑(BitVec.toNat (BitVec.ofInt (64 : Nat) (Int.fdiv t0 (2 : Int)) &&& BitVec.ofInt (64 : Nat) (6148914691236517205 : Int))) : Int) + IntKind.wrap .u64 (↑(BitVec.toNat (BitVec.ofInt (64 : Nat) t0 &&& BitVec.ofInt (64 : Nat) (6148914691236517205 : Int))) : Int))) &&& BitVec.ofInt (64 : Nat) (3689348814741910323 : Int))) : Int))) (16 : Int) + IntKind.wrap .u64 (IntKind.wrap .u64 (↑(BitVec.toNat (BitVec.ofInt (64 : Nat) (Int.fdiv (IntKind.wrap .u64 (IntKind.wrap .u64 (↑(BitVec.toNat (BitVec.ofInt (64 : Nat) (Int.fdiv t0 (2 : Int)) &&& BitVec.ofInt (64 : Nat) (6148914691236517205 : Int))) : Int) + IntKind.wrap .u64 (↑(BitVec.toNat (BitVec.ofInt (64 : Nat) t0 &&& BitVec.ofInt (64 : Nat) (6148914691236517205 : Int))) : Int))) (4 : Int)) &&& BitVec.ofInt (64 : Nat) (3689348814741910323 : Int))) : Int) + IntKind.wrap .u64 (↑(BitVec.toNat (BitVec.ofInt (64 : Nat) (IntKind.wrap .u64 (IntKind.wrap .u64 (↑(BitVec.toNat (BitVec.ofInt (64 : Nat) (Int.fdiv t0 (2 : Int)) &&& BitVec.ofInt (64 : Nat) (6148914691236517205 : Int))) : Int) + IntKind.wrap .u64 (↑(BitVec.toNat (BitVec.ofInt (64 : Nat) t0 &&& BitVec.ofInt (64 : Nat) (6148914691236517205 : Int))) : Int))) &&& BitVec.ofInt (64 : Nat) (3689348814741910323 : Int))) : Int)))) &&& BitVec.ofInt (64 : Nat) (1085102592571150095 : Int))) : Int) + Int.fdiv (IntKind.wrap .u64 (↑(BitVec.toNat (BitVec.ofInt (64 : Nat) (IntKind.wrap .u64 (Int.fdiv (IntKind.wrap .u64 (IntKind.wrap .u64 (↑(BitVec.toNat (BitVec.ofInt (64 : Nat) (Int.fdiv (IntKind.wrap .u64 (IntKind.wrap .u64 (↑(BitVec.toNat (BitVec.ofInt (64 : Nat) (Int.fdiv t0 (2 : Int)) &&& BitVec.ofInt (64 : Nat) (6148914691236517205 : Int))) : Int) + IntKind.wrap .u64 (↑(BitVec.toNat (BitVec.ofInt (64 : Nat) t0 &&& BitVec.ofInt (64 : Nat) (6148914691236517205 : Int))) : Int))) (4 : Int)) &&& BitVec.ofInt (64 : Nat) (3689348814741910323 : Int))) : Int) + IntKind.wrap .u64 (↑(BitVec.toNat (BitVec.ofInt (64 : Nat) (IntKind.wrap .u64 (IntKind.wrap .u64 (↑(BitVec.toNat (BitVec.ofInt (64 : Nat) (Int.fdiv t0 (2 : Int)) &&& BitVec.ofInt (64 : Nat) (6148914691236517205 : Int))) : Int) + IntKind.wrap .u64 (↑(BitVec.toNat (BitVec.ofInt (64 : Nat) t0 &&& BitVec.ofInt (64 : Nat) (6148914691236517205 : Int))) : Int))) &&& BitVec.ofInt (64 : Nat) (3689348814741910323 : Int))) : Int))) (16 : Int) + IntKind.wrap .u64 (IntKind.wrap .u64 (↑(BitVec.toNat (BitVec.ofInt (64 : Nat) (Int.fdiv (IntKind.wrap .u64 (IntKind.wrap .u64 (↑(BitVec.toNat (BitVec.ofInt (64 : Nat) (Int.fdiv t0 (2 : Int)) &&& BitVec.ofInt (64 : Nat) (6148914691236517205 : Int))) : Int) + IntKind.wrap .u64 (↑(BitVec.toNat (BitVec.ofInt (64 : Nat) t0 &&& BitVec.ofInt (64 : Nat) (6148914691236517205 : Int))) : Int))) (4 : Int)) &&& BitVec.ofInt (64 : Nat) (3689348814741910323 : Int))) : Int) + IntKind.wrap .u64 (↑(BitVec.toNat (BitVec.ofInt (64 : Nat) (IntKind.wrap .u64 (IntKind.wrap .u64 (↑(BitVec.toNat (BitVec.ofInt (64 : Nat) (Int.fdiv t0 (2 : Int)) &&& BitVec.ofInt (64 : Nat) (6148914691236517205 : Int))) : Int) + IntKind.wrap .u64 (↑(BitVec.toNat (BitVec.ofInt (64 : Nat) t0 &&& BitVec.ofInt (64 : Nat) (6148914691236517205 : Int))) : Int))) &&& BitVec.ofInt (64 : Nat) (3689348814741910323 : Int))) : Int)))) &&& BitVec.ofInt (64 : Nat) (1085102592571150095 : Int))) : Int)) (256 : Int))) (65536 : Int))) (4294967296 : Int)))) &&& BitVec.ofInt (64 : Nat) (127 : Int))) : Int))), []))
set_option maxRecDepth 100000 in
theorem onep0 (n : Nat) (t0 : Int) : exec el0 (n + 65) (59, Go.Proofs.Tryd.f59, 0) onek0 (ones0 t0) = Tr.val el0 (59, Go.Proofs.Tryd.f59, 0) n (onet0 t0) := by kernel_rfl
noncomputable def ixfk0 : List T := [.code (sub (bodyOf Go.Proofs.Tryd.f90) [])]
def ixfs0 (t0 : ByteArray) (t2 : Bool) : St := ⟨[(0, .val (.string t0)), (1, .val (Value.func (Fn.func (56 : Nat)) #[] #[])), (2, .val (.bool t2))], []⟩
noncomputable def ixfk1 : List T := [.code (sub (bodyOf Go.Proofs.Tryd.f90) [1, 0, 1, 0, 0]), .lp (sub (bodyOf Go.Proofs.Tryd.f90) [1, 0, 1, 0, 0]), .blk 0, .code (sub (bodyOf Go.Proofs.Tryd.f90) [1, 1])]
def ixfs1 (t2 : Bool) (m10_0 : ByteArray) (m10_1 : Nat) : St := ⟨[(1, .val (Value.func (Fn.func (56 : Nat)) #[] #[])), (2, .val (.bool t2)), (10, .mp 10 true)], [(.mp 10, [.val (.string m10_0), .val (.int .i64 (Int.ofNat m10_1))])]⟩
noncomputable def ixfk2 : List T := [.code (sub (bodyOf Go.Proofs.Tryd.f90) [1, 0, 1, 0, 0]), .lp (sub (bodyOf Go.Proofs.Tryd.f90) [1, 0, 1, 0, 0]), .blk 0, .code (sub (bodyOf Go.Proofs.Tryd.f90) [1, 1])]
def ixfs2 (t2 : Bool) (t7 : Int) (t19 : Bool) (m10_0 : ByteArray) (m10_1 : Nat) : St := ⟨[(1, .val (Value.func (Fn.func (56 : Nat)) #[] #[])), (2, .val (.bool t2)), (7, .val (.int .i64 t7)), (10, .mp 10 true), (19, .val (.bool t19))], [(.mp 10, [.val (.string m10_0), .val (.int .i64 (Int.ofNat m10_1))])]⟩
noncomputable def ixft0 (t0 : ByteArray) (t2 : Bool) : Tr := (.go 0 ixfk1 (ixfs1 (t2) (t0) (nat_lit 0)))
set_option maxRecDepth 100000 in
theorem ixfp0 (n : Nat) (t0 : ByteArray) (t2 : Bool) : exec el1 (n + 12) (90, Go.Proofs.Tryd.f90, 0) ixfk0 (ixfs0 t0 t2) = Tr.val el1 (90, Go.Proofs.Tryd.f90, 0) n (ixft0 t0 t2) := by kernel_rfl
noncomputable def ixft1 (t2 : Bool) (m10_0 : ByteArray) (m10_1 : Nat) : Tr := (.ask (decide (m10_1 < ByteArray.size m10_0))
  (.ask ((decide ((↑(Prod.fst (Utf8.decode m10_0 m10_1)) : Int) < (33 : Int)) || decide ((↑(Prod.fst (Utf8.decode m10_0 m10_1)) : Int) > (126 : Int))) == t2)
  (.ret (.val (.int .i64 ((↑m10_1 : Int))), []))
  (.go 3 ixfk2 (ixfs2 (t2) ((↑m10_1 : Int)) (false) (m10_0) (m10_1 + Prod.snd (Utf8.decode m10_0 m10_1)))))
  (.ret (.val (.int .i64 ((-1 : Int))), [])))
set_option maxRecDepth 100000 in
theorem ixfp1 (n : Nat) (t2 : Bool) (m10_0 : ByteArray) (m10_1 : Nat) : exec el1 (n + 31) (90, Go.Proofs.Tryd.f90, 0) ixfk1 (ixfs1 t2 m10_0 m10_1) = Tr.val el1 (90, Go.Proofs.Tryd.f90, 0) n (ixft1 t2 m10_0 m10_1) := by kernel_rfl
set_option maxRecDepth 100000 in
theorem ixfp2 (n : Nat) (t2 : Bool) (t7 : Int) (t19 : Bool) (m10_0 : ByteArray) (m10_1 : Nat) : exec el1 (n + 31) (90, Go.Proofs.Tryd.f90, 0) ixfk2 (ixfs2 t2 t7 t19 m10_0 m10_1) = Tr.val el1 (90, Go.Proofs.Tryd.f90, 0) n (ixft1 t2 m10_0 m10_1) := by kernel_rfl
noncomputable def cutk0 : List T := [.code (sub (bodyOf Go.Proofs.Tryd.f80) [])]
def cuts0 (t0 t1 : ByteArray) : St := ⟨[(0, .val (.string t0)), (1, .val (.string t1))], []⟩
noncomputable def cutt0 (t0 t1 : ByteArray) : Tr := (.ask (!hasP t0 t1)
  (.ret (.tup [.val (.string (t0)), .val (.bool (false))], []))
  (.ask (okBounds (↑(ByteArray.size t1) : Int) (↑(ByteArray.size t0) : Int) (↑(ByteArray.size t0) : Int))
  (.ret (.tup [.val (.string (ByteArray.extract t0 (ByteArray.size t1) (ByteArray.size t0))), .val (.bool (true))], []))
  .fail))
set_option maxRecDepth 100000 in
theorem cutp0 (n : Nat) (t0 t1 : ByteArray) : exec el1 (n + 25) (80, Go.Proofs.Tryd.f80, 0) cutk0 (cuts0 t0 t1) = Tr.val el1 (80, Go.Proofs.Tryd.f80, 0) n (cutt0 t0 t1) := by kernel_rfl
noncomputable def onck0 : List T := [.code (sub (bodyOf Go.Proofs.Tryd.f43) [])]
def oncs0 (t0 : Int) : St := ⟨[(0, .val (.int .u64 t0))], []⟩
noncomputable def onct0 (t0 : Int) : Tr := (.ask (pOne [handed [] (.val (.int .u64 t0))])
  (.ret (.val (.int .i64 (ones t0)), []))
  .fail)
set_option maxRecDepth 100000 in
theorem oncp0 (n : Nat) (t0 : Int) : exec el1 (n + 14) (43, Go.Proofs.Tryd.f43, 0) onck0 (oncs0 t0) = Tr.val el1 (43, Go.Proofs.Tryd.f43, 0) n (onct0 t0) := by kernel_rfl
noncomputable def ixgk0 : List T := [.code (sub (bodyOf Go.Proofs.Tryd.f79) [])]
def ixgs0 (t0 : ByteArray) : St := ⟨[(0, .val (.string t0)), (1, .val (Value.func (Fn.func (56 : Nat)) #[] #[]))], []⟩
noncomputable def ixgt0 (t0 : ByteArray) : Tr := (.ret (.val (.int .i64 (ixG t0)), []))
set_option maxRecDepth 100000 in
theorem ixgp0 (n : Nat) (t0 : ByteArray) : exec el2 (n + 12) (79, Go.Proofs.Tryd.f79, 0) ixgk0 (ixgs0 t0) = Tr.val el2 (79, Go.Proofs.Tryd.f79, 0) n (ixgt0 t0) := by kernel_rfl
noncomputable def cuttk0 : List T := [.code (sub (bodyOf Go.Proofs.Tryd.f57) [])]
def cutts0 (t0 t1 : ByteArray) : St := ⟨[(0, .val (.string t0)), (1, .val (.string t1))], []⟩
noncomputable def cuttt0 (t0 t1 : ByteArray) : Tr := (.ret (.tup [.val (.string (cutP t0 t1)), .val (.bool (hasP t0 t1))], []))
set_option maxRecDepth 100000 in
theorem cuttp0 (n : Nat) (t0 t1 : ByteArray) : exec el2 (n + 16) (57, Go.Proofs.Tryd.f57, 0) cuttk0 (cutts0 t0 t1) = Tr.val el2 (57, Go.Proofs.Tryd.f57, 0) n (cuttt0 t0 t1) := by kernel_rfl
noncomputable def ctnk0 : List T := [.code (sub (bodyOf Go.Proofs.Tryd.f55) [])]
def ctns0 (t0 : ByteArray) : St := ⟨[(0, .val (.string t0)), (1, .val (Value.func (Fn.func (56 : Nat)) #[] #[]))], []⟩
noncomputable def ctnt0 (t0 : ByteArray) : Tr := (.ret (.val (.bool (decide (ixG t0 ≥ (0 : Int)))), []))
set_option maxRecDepth 100000 in
theorem ctnp0 (n : Nat) (t0 : ByteArray) : exec el3 (n + 13) (55, Go.Proofs.Tryd.f55, 0) ctnk0 (ctns0 t0) = Tr.val el3 (55, Go.Proofs.Tryd.f55, 0) n (ctnt0 t0) := by kernel_rfl
noncomputable def kndk0 : List T := [.code (sub (bodyOf Go.Proofs.Tryd.f42) [])]
def knds0 (t0 : ByteArray) : St := ⟨[(0, .val (.string t0))], []⟩
noncomputable def kndt0 (t0 : ByteArray) : Tr := (.ask (decide ((↑(ByteArray.size t0) : Int) > (32 : Int)))
  (.ret (.tup [.val (.int .u8 ((0 : Int))), .val (.int .i64 ((3 : Int)))], []))
  (.ask (!!!graph t0)
  (.ret (.tup [.val (.int .u8 ((0 : Int))), .val (.int .i64 ((3 : Int)))], []))
  (.ask (hasP t0 { data := #[(46 : UInt8), (116 : UInt8), (101 : UInt8), (120 : UInt8), (116 : UInt8)] })
  (.ask (ByteArray.toList (cutP t0 { data := #[(46 : UInt8), (116 : UInt8), (101 : UInt8), (120 : UInt8), (116 : UInt8)] }) == ByteArray.toList { data := #[] })
  (.ret (.tup [.val (.int .u8 ((1 : Int))), z0], []))
  (.ask (decide ((0 : Int) < (↑(ByteArray.size (cutP t0 { data := #[(46 : UInt8), (116 : UInt8), (101 : UInt8), (120 : UInt8), (116 : UInt8)] })) : Int)))
  (.ask (byteAt (cutP t0 { data := #[(46 : UInt8), (116 : UInt8), (101 : UInt8), (120 : UInt8), (116 : UInt8)] }) (0 : Int) == (46 : Int))
  (.ret (.tup [.val (.int .u8 ((1 : Int))), z0], []))
  (.ask (hasP t0 { data := #[(46 : UInt8), (114 : UInt8), (111 : UInt8), (100 : UInt8), (97 : UInt8), (116 : UInt8), (97 : UInt8)] })
  (.ask (ByteArray.toList (cutP t0 { data := #[(46 : UInt8), (114 : UInt8), (111 : UInt8), (100 : UInt8), (97 : UInt8), (116 : UInt8), (97 : UInt8)] }) == ByteArray.toList { data := #[] })
  (.ret (.tup [.val (.int .u8 ((2 : Int))), z0], []))
  (.ask (decide ((0 : Int) < (↑(ByteArray.size (cutP t0 { data := #[(46 : UInt8), (114 : UInt8), (111 : UInt8), (100 : UInt8), (97 : UInt8), (116 : UInt8), (97 : UInt8)] })) : Int)))
  (.ask (byteAt (cutP t0 { data := #[(46 : UInt8), (114 : UInt8), (111 : UInt8), (100 : UInt8), (97 : UInt8), (116 : UInt8), (97 : UInt8)] }) (0 : Int) == (46 : Int))
  (.ret (.tup [.val (.int .u8 ((2 : Int))), z0], []))
  (.ask (hasP t0 { data := #[(46 : UInt8), (100 : UInt8), (97 : UInt8), (116 : UInt8), (97 : UInt8)] })
  (.ask (ByteArray.toList (cutP t0 { data := #[(46 : UInt8), (100 : UInt8), (97 : UInt8), (116 : UInt8), (97 : UInt8)] }) == ByteArray.toList { data := #[] })
  (.ret (.tup [.val (.int .u8 ((3 : Int))), z0], []))
  (.ask (decide ((0 : Int) < (↑(ByteArray.size (cutP t0 { data := #[(46 : UInt8), (100 : UInt8), (97 : UInt8), (116 : UInt8), (97 : UInt8)] })) : Int)))
  (.ask (byteAt (cutP t0 { data := #[(46 : UInt8), (100 : UInt8), (97 : UInt8), (116 : UInt8), (97 : UInt8)] }) (0 : Int) == (46 : Int))
  (.ret (.tup [.val (.int .u8 ((3 : Int))), z0], []))
  (.ask (hasP t0 { data := #[(46 : UInt8), (98 : UInt8), (115 : UInt8), (115 : UInt8)] })
  (.ask (ByteArray.toList (cutP t0 { data := #[(46 : UInt8), (98 : UInt8), (115 : UInt8), (115 : UInt8)] }) == ByteArray.toList { data := #[] })
  (.ret (.tup [.val (.int .u8 ((4 : Int))), z0], []))
  (.ask (decide ((0 : Int) < (↑(ByteArray.size (cutP t0 { data := #[(46 : UInt8), (98 : UInt8), (115 : UInt8), (115 : UInt8)] })) : Int)))
  (.ask (byteAt (cutP t0 { data := #[(46 : UInt8), (98 : UInt8), (115 : UInt8), (115 : UInt8)] }) (0 : Int) == (46 : Int))
  (.ret (.tup [.val (.int .u8 ((4 : Int))), z0], []))
  (.ret (.tup [.val (.int .u8 ((0 : Int))), .val (.int .i64 ((3 : Int)))], [])))
  .fail))
  (.ret (.tup [.val (.int .u8 ((0 : Int))), .val (.int .i64 ((3 : Int)))], []))))
  .fail))
  (.ask (hasP t0 { data := #[(46 : UInt8), (98 : UInt8), (115 : UInt8), (115 : UInt8)] })
  (.ask (ByteArray.toList (cutP t0 { data := #[(46 : UInt8), (98 : UInt8), (115 : UInt8), (115 : UInt8)] }) == ByteArray.toList { data := #[] })
  (.ret (.tup [.val (.int .u8 ((4 : Int))), z0], []))
  (.ask (decide ((0 : Int) < (↑(ByteArray.size (cutP t0 { data := #[(46 : UInt8), (98 : UInt8), (115 : UInt8), (115 : UInt8)] })) : Int)))
  (.ask (byteAt (cutP t0 { data := #[(46 : UInt8), (98 : UInt8), (115 : UInt8), (115 : UInt8)] }) (0 : Int) == (46 : Int))
  (.ret (.tup [.val (.int .u8 ((4 : Int))), z0], []))
  (.ret (.tup [.val (.int .u8 ((0 : Int))), .val (.int .i64 ((3 : Int)))], [])))
  .fail))
  (.ret (.tup [.val (.int .u8 ((0 : Int))), .val (.int .i64 ((3 : Int)))], [])))))
  .fail))
  (.ask (hasP t0 { data := #[(46 : UInt8), (100 : UInt8), (97 : UInt8), (116 : UInt8), (97 : UInt8)] })
  (.ask (ByteArray.toList (cutP t0 { data := #[(46 : UInt8), (100 : UInt8), (97 : UInt8), (116 : UInt8), (97 : UInt8)] }) == ByteArray.toList { data := #[] })
  (.ret (.tup [.val (.int .u8 ((3 : Int))), z0], []))
  (.ask (decide ((0 : Int) < (↑(ByteArray.size (cutP t0 { data := #[(46 : UInt8), (100 : UInt8), (97 : UInt8), (116 : UInt8), (97 : UInt8)] })) : Int)))
  (.ask (byteAt (cutP t0 { data := #[(46 : UInt8), (100 : UInt8), (97 : UInt8), (116 : UInt8), (97 : UInt8)] }) (0 : Int) == (46 : Int))
  (.ret (.tup [.val (.int .u8 ((3 : Int))), z0], []))
  (.ask (hasP t0 { data := #[(46 : UInt8), (98 : UInt8), (115 : UInt8), (115 : UInt8)] })
  (.ask (ByteArray.toList (cutP t0 { data := #[(46 : UInt8), (98 : UInt8), (115 : UInt8), (115 : UInt8)] }) == ByteArray.toList { data := #[] })
  (.ret (.tup [.val (.int .u8 ((4 : Int))), z0], []))
  (.ask (decide ((0 : Int) < (↑(ByteArray.size (cutP t0 { data := #[(46 : UInt8), (98 : UInt8), (115 : UInt8), (115 : UInt8)] })) : Int)))
  (.ask (byteAt (cutP t0 { data := #[(46 : UInt8), (98 : UInt8), (115 : UInt8), (115 : UInt8)] }) (0 : Int) == (46 : Int))
  (.ret (.tup [.val (.int .u8 ((4 : Int))), z0], []))
  (.ret (.tup [.val (.int .u8 ((0 : Int))), .val (.int .i64 ((3 : Int)))], [])))
  .fail))
  (.ret (.tup [.val (.int .u8 ((0 : Int))), .val (.int .i64 ((3 : Int)))], []))))
  .fail))
  (.ask (hasP t0 { data := #[(46 : UInt8), (98 : UInt8), (115 : UInt8), (115 : UInt8)] })
  (.ask (ByteArray.toList (cutP t0 { data := #[(46 : UInt8), (98 : UInt8), (115 : UInt8), (115 : UInt8)] }) == ByteArray.toList { data := #[] })
  (.ret (.tup [.val (.int .u8 ((4 : Int))), z0], []))
  (.ask (decide ((0 : Int) < (↑(ByteArray.size (cutP t0 { data := #[(46 : UInt8), (98 : UInt8), (115 : UInt8), (115 : UInt8)] })) : Int)))
  (.ask (byteAt (cutP t0 { data := #[(46 : UInt8), (98 : UInt8), (115 : UInt8), (115 : UInt8)] }) (0 : Int) == (46 : Int))
  (.ret (.tup [.val (.int .u8 ((4 : Int))), z0], []))
  (.ret (.tup [.val (.int .u8 ((0 : Int))), .val (.int .i64 ((3 : Int)))], [])))
  .fail))
  (.ret (.tup [.val (.int .u8 ((0 : Int))), .val (.int .i64 ((3 : Int)))], []))))))
  .fail))
  (.ask (hasP t0 { data := #[(46 : UInt8), (114 : UInt8), (111 : UInt8), (100 : UInt8), (97 : UInt8), (116 : UInt8), (97 : UInt8)] })
  (.ask (ByteArray.toList (cutP t0 { data := #[(46 : UInt8), (114 : UInt8), (111 : UInt8), (100 : UInt8), (97 : UInt8), (116 : UInt8), (97 : UInt8)] }) == ByteArray.toList { data := #[] })
  (.ret (.tup [.val (.int .u8 ((2 : Int))), z0], []))
  (.ask (decide ((0 : Int) < (↑(ByteArray.size (cutP t0 { data := #[(46 : UInt8), (114 : UInt8), (111 : UInt8), (100 : UInt8), (97 : UInt8), (116 : UInt8), (97 : UInt8)] })) : Int)))
  (.ask (byteAt (cutP t0 { data := #[(46 : UInt8), (114 : UInt8), (111 : UInt8), (100 : UInt8), (97 : UInt8), (116 : UInt8), (97 : UInt8)] }) (0 : Int) == (46 : Int))
  (.ret (.tup [.val (.int .u8 ((2 : Int))), z0], []))
  (.ask (hasP t0 { data := #[(46 : UInt8), (100 : UInt8), (97 : UInt8), (116 : UInt8), (97 : UInt8)] })
  (.ask (ByteArray.toList (cutP t0 { data := #[(46 : UInt8), (100 : UInt8), (97 : UInt8), (116 : UInt8), (97 : UInt8)] }) == ByteArray.toList { data := #[] })
  (.ret (.tup [.val (.int .u8 ((3 : Int))), z0], []))
  (.ask (decide ((0 : Int) < (↑(ByteArray.size (cutP t0 { data := #[(46 : UInt8), (100 : UInt8), (97 : UInt8), (116 : UInt8), (97 : UInt8)] })) : Int)))
  (.ask (byteAt (cutP t0 { data := #[(46 : UInt8), (100 : UInt8), (97 : UInt8), (116 : UInt8), (97 : UInt8)] }) (0 : Int) == (46 : Int))
  (.ret (.tup [.val (.int .u8 ((3 : Int))), z0], []))
  (.ask (hasP t0 { data := #[(46 : UInt8), (98 : UInt8), (115 : UInt8), (115 : UInt8)] })
  (.ask (ByteArray.toList (cutP t0 { data := #[(46 : UInt8), (98 : UInt8), (115 : UInt8), (115 : UInt8)] }) == ByteArray.toList { data := #[] })
  (.ret (.tup [.val (.int .u8 ((4 : Int))), z0], []))
  (.ask (decide ((0 : Int) < (↑(ByteArray.size (cutP t0 { data := #[(46 : UInt8), (98 : UInt8), (115 : UInt8), (115 : UInt8)] })) : Int)))
  (.ask (byteAt (cutP t0 { data := #[(46 : UInt8), (98 : UInt8), (115 : UInt8), (115 : UInt8)] }) (0 : Int) == (46 : Int))
  (.ret (.tup [.val (.int .u8 ((4 : Int))), z0], []))
  (.ret (.tup [.val (.int .u8 ((0 : Int))), .val (.int .i64 ((3 : Int)))], [])))
  .fail))
  (.ret (.tup [.val (.int .u8 ((0 : Int))), .val (.int .i64 ((3 : Int)))], []))))
  .fail))
  (.ask (hasP t0 { data := #[(46 : UInt8), (98 : UInt8), (115 : UInt8), (115 : UInt8)] })
  (.ask (ByteArray.toList (cutP t0 { data := #[(46 : UInt8), (98 : UInt8), (115 : UInt8), (115 : UInt8)] }) == ByteArray.toList { data := #[] })
  (.ret (.tup [.val (.int .u8 ((4 : Int))), z0], []))
  (.ask (decide ((0 : Int) < (↑(ByteArray.size (cutP t0 { data := #[(46 : UInt8), (98 : UInt8), (115 : UInt8), (115 : UInt8)] })) : Int)))
  (.ask (byteAt (cutP t0 { data := #[(46 : UInt8), (98 : UInt8), (115 : UInt8), (115 : UInt8)] }) (0 : Int) == (46 : Int))
  (.ret (.tup [.val (.int .u8 ((4 : Int))), z0], []))
  (.ret (.tup [.val (.int .u8 ((0 : Int))), .val (.int .i64 ((3 : Int)))], [])))
  .fail))
  (.ret (.tup [.val (.int .u8 ((0 : Int))), .val (.int .i64 ((3 : Int)))], [])))))
  .fail))
  (.ask (hasP t0 { data := #[(46 : UInt8), (100 : UInt8), (97 : UInt8), (116 : UInt8), (97 : UInt8)] })
  (.ask (ByteArray.toList (cutP t0 { data := #[(46 : UInt8), (100 : UInt8), (97 : UInt8), (116 : UInt8), (97 : UInt8)] }) == ByteArray.toList { data := #[] })
  (.ret (.tup [.val (.int .u8 ((3 : Int))), z0], []))
  (.ask (decide ((0 : Int) < (↑(ByteArray.size (cutP t0 { data := #[(46 : UInt8), (100 : UInt8), (97 : UInt8), (116 : UInt8), (97 : UInt8)] })) : Int)))
  (.ask (byteAt (cutP t0 { data := #[(46 : UInt8), (100 : UInt8), (97 : UInt8), (116 : UInt8), (97 : UInt8)] }) (0 : Int) == (46 : Int))
  (.ret (.tup [.val (.int .u8 ((3 : Int))), z0], []))
  (.ask (hasP t0 { data := #[(46 : UInt8), (98 : UInt8), (115 : UInt8), (115 : UInt8)] })
  (.ask (ByteArray.toList (cutP t0 { data := #[(46 : UInt8), (98 : UInt8), (115 : UInt8), (115 : UInt8)] }) == ByteArray.toList { data := #[] })
  (.ret (.tup [.val (.int .u8 ((4 : Int))), z0], []))
  (.ask (decide ((0 : Int) < (↑(ByteArray.size (cutP t0 { data := #[(46 : UInt8), (98 : UInt8), (115 : UInt8), (115 : UInt8)] })) : Int)))
  (.ask (byteAt (cutP t0 { data := #[(46 : UInt8), (98 : UInt8), (115 : UInt8), (115 : UInt8)] }) (0 : Int) == (46 : Int))
  (.ret (.tup [.val (.int .u8 ((4 : Int))), z0], []))
  (.ret (.tup [.val (.int .u8 ((0 : Int))), .val (.int .i64 ((3 : Int)))], [])))
  .fail))
  (.ret (.tup [.val (.int .u8 ((0 : Int))), .val (.int .i64 ((3 : Int)))], []))))
  .fail))
  (.ask (hasP t0 { data := #[(46 : UInt8), (98 : UInt8), (115 : UInt8), (115 : UInt8)] })
  (.ask (ByteArray.toList (cutP t0 { data := #[(46 : UInt8), (98 : UInt8), (115 : UInt8), (115 : UInt8)] }) == ByteArray.toList { data := #[] })
  (.ret (.tup [.val (.int .u8 ((4 : Int))), z0], []))
  (.ask (decide ((0 : Int) < (↑(ByteArray.size (cutP t0 { data := #[(46 : UInt8), (98 : UInt8), (115 : UInt8), (115 : UInt8)] })) : Int)))
  (.ask (byteAt (cutP t0 { data := #[(46 : UInt8), (98 : UInt8), (115 : UInt8), (115 : UInt8)] }) (0 : Int) == (46 : Int))
  (.ret (.tup [.val (.int .u8 ((4 : Int))), z0], []))
  (.ret (.tup [.val (.int .u8 ((0 : Int))), .val (.int .i64 ((3 : Int)))], [])))
  .fail))
  (.ret (.tup [.val (.int .u8 ((0 : Int))), .val (.int .i64 ((3 : Int)))], []))))))))
set_option maxRecDepth 100000 in
theorem kndp0 (n : Nat) (t0 : ByteArray) : exec el4 (n + 238) (42, Go.Proofs.Tryd.f42, 0) kndk0 (knds0 t0) = Tr.val el4 (42, Go.Proofs.Tryd.f42, 0) n (kndt0 t0) := by kernel_rfl
noncomputable def seck0 : List T := [.code (sub (bodyOf Go.Proofs.Tryd.f33) [])]
def secs0 (t0_0 : ByteArray) (t0_1 : Int) (t0_2 : List (List D)) (t0_3 : Int) : St := ⟨[(0, .agg [.val (.string t0_0), .val (.int .i64 t0_1), .arr u8s t0_2, .val (.int .i64 t0_3)])], []⟩
noncomputable def sect0 (t0_0 : ByteArray) (t0_1 : Int) (t0_2 : List (List D)) (t0_3 : Int) : Tr := (.ask (decide (t0_1 > (0 : Int)))
  (.ask (decide (t0_1 ≤ (64 : Int)))
  (.ask (pOne [handed [] (.val (.int .u64 (IntKind.wrap .u64 t0_1)))])
  (.ask (kindV t0_0 == (4 : Int))
  (.ask (kindE t0_0 != (0 : Int))
  (.ret (.val (.int .i64 ((8 : Int))), []))
  (.ask (!ones (IntKind.wrap .u64 t0_1) == (1 : Int))
  (.ret (.val (.int .i64 ((8 : Int))), []))
  (.ask ((↑(List.length t0_2) : Int) != (0 : Int))
  (.ret (.val (.int .i64 ((8 : Int))), []))
  (.ask (decide (t0_3 < (0 : Int)))
  (.ret (.val (.int .i64 ((8 : Int))), []))
  (.ask (decide (t0_3 > (4096 : Int)))
  (.ret (.val (.int .i64 ((8 : Int))), []))
  (.ret (z0, [])))))))
  (.ask (kindE t0_0 != (0 : Int))
  (.ret (.val (.int .i64 ((8 : Int))), []))
  (.ask (!ones (IntKind.wrap .u64 t0_1) == (1 : Int))
  (.ret (.val (.int .i64 ((8 : Int))), []))
  (.ask (t0_3 != (0 : Int))
  (.ret (.val (.int .i64 ((8 : Int))), []))
  (.ask (decide ((↑(List.length t0_2) : Int) > (4096 : Int)))
  (.ret (.val (.int .i64 ((8 : Int))), []))
  (.ret (z0, [])))))))
  .fail)
  (.ask (kindV t0_0 == (4 : Int))
  (.ask (kindE t0_0 != (0 : Int))
  (.ret (.val (.int .i64 ((8 : Int))), []))
  (.ret (.val (.int .i64 ((8 : Int))), [])))
  (.ask (kindE t0_0 != (0 : Int))
  (.ret (.val (.int .i64 ((8 : Int))), []))
  (.ret (.val (.int .i64 ((8 : Int))), [])))))
  (.ask (kindV t0_0 == (4 : Int))
  (.ask (kindE t0_0 != (0 : Int))
  (.ret (.val (.int .i64 ((8 : Int))), []))
  (.ret (.val (.int .i64 ((8 : Int))), [])))
  (.ask (kindE t0_0 != (0 : Int))
  (.ret (.val (.int .i64 ((8 : Int))), []))
  (.ret (.val (.int .i64 ((8 : Int))), [])))))
set_option maxRecDepth 100000 in
theorem secp0 (n : Nat) (t0_0 : ByteArray) (t0_1 : Int) (t0_2 : List (List D)) (t0_3 : Int) : exec el5 (n + 87) (33, Go.Proofs.Tryd.f33, 0) seck0 (secs0 t0_0 t0_1 t0_2 t0_3) = Tr.val el5 (33, Go.Proofs.Tryd.f33, 0) n (sect0 t0_0 t0_1 t0_2 t0_3) := by kernel_rfl
end Go.Proofs.YtacfehneeanlgaaDoor.Ev
