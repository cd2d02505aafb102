/- A part of the proof: what the statement needs, and nothing else. -/
import Derived.Test.YtkcopbnaleiocaaZb13
namespace Go.Proofs.Ytkcopbnaleiocaa.Ev
open Go
set_option linter.unusedVariables false
noncomputable def sizk0 : List T := [.code (sub (bodyOf Try.f67) [])]
def sizs0 (t0 : Int) : St := ⟨[(0, .val (.int .i64 t0))], []⟩
noncomputable def sizt0 (t0 : Int) : Tr := (.ask (t0 == (1 : Int))
  (.ret (.val (.bool (true)), []))
  (.ask (t0 == (2 : Int))
  (.ret (.val (.bool (true)), []))
  (.ask (t0 == (4 : Int))
  (.ret (.val (.bool (true)), []))
  (.ret (.val (.bool (t0 == (8 : Int))), [])))))
set_option maxRecDepth 100000 in
theorem sizp0 (n : Nat) (t0 : Int) : exec el0 (n + 23) (67, Try.f67, 0) sizk0 (sizs0 t0) = Tr.val el0 (67, Try.f67, 0) n (sizt0 t0) := by kernel_rfl
noncomputable def knd1k0 : List T := [.code (sub (bodyOf Try.f157) [])]
def knd1s0 (t0 : Int) : St := ⟨[(0, .val (.int .i32 t0))], []⟩
noncomputable def knd1t0 (t0 : Int) : Tr := (.ask (decide (t0 < (33 : Int)))
  (.ret (.val (.bool (true)), []))
  (.ret (.val (.bool (decide (t0 > (126 : Int)))), [])))
set_option maxRecDepth 100000 in
theorem knd1p0 (n : Nat) (t0 : Int) : exec el0 (n + 15) (157, Try.f157, 0) knd1k0 (knd1s0 t0) = Tr.val el0 (157, Try.f157, 0) n (knd1t0 t0) := by kernel_rfl
noncomputable def hask0 : List T := [.code (sub (bodyOf Try.f196) [])]
def hass0 (t0 t1 : ByteArray) : St := ⟨[(0, .val (.string t0)), (1, .val (.string t1))], []⟩
noncomputable def hast0 (t0 t1 : ByteArray) : Tr := (.ask (decide ((↑(ByteArray.size t0) : Int) ≥ (↑(ByteArray.size t1) : Int)))
  (.ask (okBounds (0 : Int) (↑(ByteArray.size t1) : Int) (↑(ByteArray.size t0) : Int))
  (.ret (.val (.bool (ByteArray.toList (ByteArray.extract t0 (0 : Nat) (ByteArray.size t1)) == ByteArray.toList t1)), []))
  .fail)
  (.ret (.val (.bool (false)), [])))
set_option maxRecDepth 100000 in
theorem hasp0 (n : Nat) (t0 t1 : ByteArray) : exec el0 (n + 22) (196, Try.f196, 0) hask0 (hass0 t0 t1) = Tr.val el0 (196, Try.f196, 0) n (hast0 t0 t1) := by kernel_rfl
noncomputable def onek0 : List T := [.code (sub (bodyOf Try.f160) [])]
def ones0 (t0 : Int) : St := ⟨[(0, .val (.int .u64 t0))], []⟩
noncomputable def onet0 (t0 : Int) : Tr := (.ret (.val (.int .i64 (IntKind.wrap .i64 (↑(BitVec.toNat (BitVec.ofInt (64 : Nat) (IntKind.wrap .i64 (IntKind.wrap .u64 (IntKind.wrap .u64 (IntKind.wrap .u64 (IntKind.wrap .u64 (↑(BitVec.toNat (BitVec.ofInt (64 : Nat) (IntKind.wrap .u64 (Int.fdiv (IntKind.wrap .u64 (IntKind.wrap .u64 (↑(BitVec.toNat (BitVec.ofInt (64 : Nat) (Int.fdiv (IntKind.wrap .u64 (IntKind.wrap .u64 (↑(BitVec.toNat (BitVec.ofInt (64 : Nat) (Int.fdiv t0 (2 : Int)) &&& BitVec.ofInt (64 : Nat) (6148914691236517205 : Int))) : Int) + IntKind.wrap .u64 (↑(BitVec.toNat (BitVec.ofInt (64 : Nat) t0 &&& BitVec.ofInt (64 : Nat) (6148914691236517205 : Int))) : Int))) (4 : Int)) &&& BitVec.ofInt (64 : Nat) (3689348814741910323 : Int))) : Int) + IntKind.wrap .u64 (↑(BitVec.toNat (BitVec.ofInt (64 : Nat) (IntKind.wrap .u64 (IntKind.wrap .u64 (↑(BitVec.toNat (BitVec.ofInt (64 : Nat) (Int.fdiv t0 (2 : Int)) &&& BitVec.ofInt (64 : Nat) (6148914691236517205 : Int))) : Int) + IntKind.wrap .u64 (↑(BitVec.toNat (BitVec.ofInt (64 : Nat) t0 &&& BitVec.ofInt (64 : Nat) (6148914691236517205 : Int))) : Int))) &&& BitVec.ofInt (64 : Nat) (3689348814741910323 : Int))) : Int))) (16 : Int) + IntKind.wrap .u64 (IntKind.wrap .u64 (↑(BitVec.toNat (BitVec.ofInt (64 : Nat) (Int.fdiv (IntKind.wrap .u64 (IntKind.wrap .u64 (↑(BitVec.toNat (BitVec.ofInt (64 : Nat) (Int.fdiv t0 (2 : Int)) &&& BitVec.ofInt (64 : Nat) (6148914691236517205 : Int))) : Int) + IntKind.wrap .u64 (↑(BitVec.toNat (BitVec.ofInt (64 : Nat) t0 &&& BitVec.ofInt (64 : Nat) (6148914691236517205 : Int))) : Int))) (4 : Int)) &&& BitVec.ofInt (64 : Nat) (3689348814741910323 : Int))) : Int) + IntKind.wrap .u64 (↑(BitVec.toNat (BitVec.ofInt (64 : Nat) (IntKind.wrap .u64 (IntKind.wrap .u64 (↑(BitVec.toNat (BitVec.ofInt (64 : Nat) (Int.fdiv t0 (2 : Int)) &&& BitVec.ofInt (64 : Nat) (6148914691236517205 : Int))) : Int) + IntKind.wrap .u64 (↑(BitVec.toNat (BitVec.ofInt (64 : Nat) t0 &&& BitVec.ofInt (64 : Nat) (6148914691236517205 : Int))) : Int))) &&& BitVec.ofInt (64 : Nat) (3689348814741910323 : Int))) : Int)))) &&& BitVec.ofInt (64 : Nat) (1085102592571150095 : Int))) : Int) + Int.fdiv (IntKind.wrap .u64 (↑(BitVec.toNat (BitVec.ofInt (64 : Nat) (IntKind.wrap .u64 (Int.fdiv (IntKind.wrap .u64 (IntKind.wrap .u64 (↑(BitVec.toNat (BitVec.ofInt (64 : Nat) (Int.fdiv (IntKind.wrap .u64 (IntKind.wrap .u64 (↑(BitVec.toNat (BitVec.ofInt (64 : Nat) (Int.fdiv t0 (2 : Int)) &&& BitVec.ofInt (64 : Nat) (6148914691236517205 : Int))) : Int) + IntKind.wrap .u64 (↑(BitVec.toNat (BitVec.ofInt (64 : Nat) t0 &&& BitVec.ofInt (64 : Nat) (6148914691236517205 : Int))) : Int))) (4 : Int)) &&& BitVec.ofInt (64 : Nat) (3689348814741910323 : Int))) : Int) + IntKind.wrap .u64 (↑(BitVec.toNat (BitVec.ofInt (64 : Nat) (IntKind.wrap .u64 (IntKind.wrap .u64 (↑(BitVec.toNat (BitVec.ofInt (64 : Nat) (Int.fdiv t0 (2 : Int)) &&& BitVec.ofInt (64 : Nat) (6148914691236517205 : Int))) : Int) + IntKind.wrap .u64 (↑(BitVec.toNat (BitVec.ofInt (64 : Nat) t0 &&& BitVec.ofInt (64 : Nat) (6148914691236517205 : Int))) : Int))) &&& BitVec.ofInt (64 : Nat) (3689348814741910323 : Int))) : Int))) (16 : Int) + IntKind.wrap .u64 (IntKind.wrap .u64 (↑(BitVec.toNat (BitVec.ofInt (64 : Nat) (Int.fdiv (IntKind.wrap .u64 (IntKind.wrap .u64 (↑(BitVec.toNat (BitVec.ofInt (64 : Nat) (Int.fdiv t0 (2 : Int)) &&& BitVec.ofInt (64 : Nat) (6148914691236517205 : Int))) : Int) + IntKind.wrap .u64 (↑(BitVec.toNat (BitVec.ofInt (64 : Nat) t0 &&& BitVec.ofInt (64 : Nat) (6148914691236517205 : Int))) : Int))) (4 : Int)) &&& BitVec.ofInt (64 : Nat) (3689348814741910323 : Int))) : Int) + IntKind.wrap .u64 (↑(BitVec.toNat (BitVec.ofInt (64 : Nat) (IntKind.wrap .u64 (IntKind.wrap .u64 (↑(BitVec.toNat (BitVec.ofInt (64 : Nat) (Int.fdiv t0 (2 : Int)) &&& BitVec.ofInt (64 : Nat) (6148914691236517205 : Int))) : Int) + IntKind.wrap .u64 (↑(BitVec.toNat (BitVec.ofInt (64 : Nat) t0 &&& BitVec.ofInt (64 : Nat) (6148914691236517205 : Int))) : Int))) &&& BitVec.ofInt (64 : Nat) (3689348814741910323 : Int))) : Int)))) &&& BitVec.ofInt (64 : Nat) (1085102592571150095 : Int))) : Int)) (256 : Int)) + Int.fdiv (IntKind.wrap .u64 (IntKind.wrap .u64 (↑(BitVec.toNat (BitVec.ofInt (64 : Nat) (IntKind.wrap .u64 (Int.fdiv (IntKind.wrap .u64 (IntKind.wrap .u64 (↑(BitVec.toNat (BitVec.ofInt (64 : Nat) (Int.fdiv (IntKind.wrap .u64 (IntKind.wrap .u64 (↑(BitVec.toNat (BitVec.ofInt (64 : Nat) (Int.fdiv t0 (2 : Int)) &&& BitVec.ofInt (64 : Nat) (6148914691236517205 : Int))) : Int) + IntKind.wrap .u64 (↑(BitVec.toNat (BitVec.ofInt (64 : Nat) t0 &&& BitVec.ofInt (64 : Nat) (6148914691236517205 : Int))) : Int))) (4 : Int)) &&& BitVec.ofInt (64 : Nat) (3689348814741910323 : Int))) : Int) + IntKind.wrap .u64 (↑(BitVec.toNat (BitVec.ofInt (64 : Nat) (IntKind.wrap .u64 (IntKind.wrap .u64 (↑(BitVec.toNat (BitVec.ofInt (64 : Nat) (Int.fdiv t0 (2 : Int)) &&& BitVec.ofInt (64 : Nat) (6148914691236517205 : Int))) : Int) + IntKind.wrap .u64 (↑(BitVec.toNat (BitVec.ofInt (64 : Nat) t0 &&& BitVec.ofInt (64 : Nat) (6148914691236517205 : Int))) : Int))) &&& BitVec.ofInt (64 : Nat) (3689348814741910323 : Int))) : Int))) (16 : Int) + IntKind.wrap .u64 (IntKind.wrap .u64 (↑(BitVec.toNat (BitVec.ofInt (64 : Nat) (Int.fdiv (IntKind.wrap .u64 (IntKind.wrap .u64 (↑(BitVec.toNat (BitVec.ofInt (64 : Nat) (Int.fdiv t0 (2 : Int)) &&& BitVec.ofInt (64 : Nat) (6148914691236517205 : Int))) : Int) + IntKind.wrap .u64 (↑(BitVec.toNat (BitVec.ofInt (64 : Nat) t0 &&& BitVec.ofInt (64 : Nat) (6148914691236517205 : Int))) : Int))) (4 : Int)) &&& BitVec.ofInt (64 : Nat) (3689348814741910323 : Int))) : Int) + IntKind.wrap .u64 (↑(BitVec.toNat (BitVec.ofInt (64 : Nat) (IntKind.wrap .u64 (IntKind.wrap .u64 (↑(BitVec.toNat (BitVec.ofInt (64 : Nat) (Int.fdiv t0 (2 : Int)) &&& BitVec.ofInt (64 : Nat) (6148914691236517205 : Int))) : Int) + IntKind.wrap .u64 (↑(BitVec.toNat (BitVec.ofInt (64 : Nat) t0 &&& BitVec.ofInt (64 : Nat) (6148914691236517205 : Int))) : Int))) &&& BitVec.ofInt (64 : Nat) (3689348814741910323 : Int))) : Int)))) &&& BitVec.ofInt (64 : Nat) (1085102592571150095 : Int))) : Int) + Int.fdiv (IntKind.wrap .u64 (↑(BitVec.toNat (BitVec.ofInt (64 : Nat) (IntKind.wrap .u64 (Int.fdiv (IntKind.wrap .u64 (IntKind.wrap .u64 (↑(BitVec.toNat (BitVec.ofInt (64 : Nat) (Int.fdiv (IntKind.wrap .u64 (IntKind.wrap .u64 (↑(BitVec.toNat (BitVec.ofInt (64 : Nat) (Int.fdiv t0 (2 : Int)) &&& BitVec.ofInt (64 : Nat) (6148914691236517205 : Int))) : Int) + IntKind.wrap .u64 (↑(BitVec.toNat (BitVec.ofInt (64 : Nat) t0 &&& BitVec.ofInt (64 : Nat) (6148914691236517205 : Int))) : Int))) (4 : Int)) &&& BitVec.ofInt (64 : Nat) (3689348814741910323 : Int))) : Int) + IntKind.wrap .u64 (↑(BitVec.toNat (BitVec.ofInt (64 : Nat) (IntKind.wrap .u64 (IntKind.wrap .u64 (↑(BitVec.toNat (BitVec.ofInt (64 : Nat) (Int.fdiv t0 (2 : Int)) &&& BitVec.ofInt (64 : Nat) (6148914691236517205 : Int))) : Int) + IntKind.wrap .u64 (↑(BitVec.toNat (BitVec.ofInt (64 : Nat) t0 &&& BitVec.ofInt (64 : Nat) (6148914691236517205 : Int))) : Int))) &&& BitVec.ofInt (64 : Nat) (3689348814741910323 : Int))) : Int))) (16 : Int) + IntKind.wrap .u64 (IntKind.wrap .u64 (↑(BitVec.toNat (BitVec.ofInt (64 : Nat) (Int.fdiv (IntKind.wrap .u64 (IntKind.wrap .u64 (↑(BitVec.toNat (BitVec.ofInt (64 : Nat) (Int.fdiv t0 (2 : Int)) &&& BitVec.ofInt (64 : Nat) (6148914691236517205 : Int))) : Int) + IntKind.wrap .u64 (↑(BitVec.toNat (BitVec.ofInt (64 : Nat) t0 &&& BitVec.ofInt (64 : Nat) (6148914691236517205 : Int))) : Int))) (4 : Int)) &&& BitVec.ofInt (64 : Nat) (3689348814741910323 : Int))) : Int) + IntKind.wrap .u64 (↑(BitVec.toNat (BitVec.ofInt (64 : Nat) (IntKind.wrap .u64 (IntKind.wrap .u64 (↑(BitVec.toNat (BitVec.ofInt (64 : Nat) (Int.fdiv t0 (2 : Int)) &&& BitVec.ofInt (64 : Nat) (6148914691236517205 : Int))) : Int) + IntKind.wrap .u64 (↑(BitVec.toNat (BitVec.ofInt (64 : Nat) t0 &&& BitVec.ofInt (64 : Nat) (6148914691236517205 : Int))) : Int))) &&& BitVec.ofInt (64 : Nat) (3689348814741910323 : Int))) : Int)))) &&& BitVec.ofInt (64 : Nat) (1085102592571150095 : Int))) : Int)) (256 : Int))) (65536 : Int)) + Int.fdiv (IntKind.wrap .u64 (IntKind.wrap .u64 (IntKind.wrap .u64 (↑(BitVec.toNat (BitVec.ofInt (64 : Nat) (IntKind.wrap .u64 (Int.fdiv (IntKind.wrap .u64 (IntKind.wrap .u64 (↑(BitVec.toNat (BitVec.ofInt (64 : Nat) (Int.fdiv (IntKind.wrap .u64 (IntKind.wrap .u64 (↑(BitVec.toNat (BitVec.ofInt (64 : Nat) (Int.fdiv t0 (2 : Int)) &&& BitVec.ofInt (64 : Nat) (6148914691236517205 : Int))) : Int) + IntKind.wrap .u64 (↑(BitVec.toNat (BitVec.ofInt (64 : Nat) t0 &&& BitVec.ofInt (64 : Nat) (6148914691236517205 : Int))) : Int))) (4 : Int)) &&& BitVec.ofInt (64 : Nat) (3689348814741910323 : Int))) : Int) + IntKind.wrap .u64 (↑(BitVec.toNat (BitVec.ofInt (64 : Nat) (IntKind.wrap .u64 (IntKind.wrap .u64 (↑(BitVec.toNat (BitVec.ofInt (64 : Nat) (Int.fdiv t0 (2 : Int)) &&& BitVec.ofInt (64 : Nat) (6148914691236517205 : Int))) : Int) + IntKind.wrap .u64 (↑(BitVec.toNat (BitVec.ofInt (64 : Nat) t0 &&& BitVec.ofInt (64 : Nat) (6148914691236517205 : Int))) : Int))) &&& BitVec.ofInt (64 : Nat) (3689348814741910323 : Int))) : Int))) (16 : Int) + IntKind.wrap .u64 (IntKind.wrap .u64 (↑(BitVec.toNat (BitVec.ofInt (64 : Nat) (Int.fdiv (IntKind.wrap .u64 (IntKind.wrap .u64 (↑(BitVec.toNat (BitVec.ofInt (64 : Nat) (Int.fdiv t0 (2 : Int)) &&& BitVec.ofInt (64 : Nat) (6148914691236517205 : Int))) : Int) + IntKind.wrap .u64 (↑(BitVec.toNat (BitVec.ofInt (64 : Nat) t0 &&& BitVec.ofInt (64 : Nat) (6148914691236517205 : Int))) : Int))) (4 : Int)) &&& BitVec.ofInt (64 : Nat) (3689348814741910323 : Int))) : Int) + IntKind.wrap .u64 (↑(BitVec.toNat (BitVec.ofInt (64 : Nat) (IntKind.wrap .u64 (IntKind.wrap .u64 (↑(BitVec.toNat (BitVec.ofInt (64 : Nat) (Int.fdiv t0 (2 : Int)) &&& BitVec.ofInt (64 : Nat) (6148914691236517205 : Int))) : Int) + IntKind.wrap .u64 (↑(BitVec.toNat (BitVec.ofInt (64 : Nat) t0 &&& BitVec.ofInt (64 : Nat) (6148914691236517205 : Int))) : Int))) &&& BitVec.ofInt (64 : Nat) (3689348814741910323 : Int))) : Int)))) &&& BitVec.ofInt (64 : Nat) (1085102592571150095 : Int))) : Int) + Int.fdiv (IntKind.wrap .u64 (↑(BitVec.toNat (BitVec.ofInt (64 : Nat) (IntKind.wrap .u64 (Int.fdiv (IntKind.wrap .u64 (IntKind.wrap .u64 (↑(BitVec.toNat (BitVec.ofInt (64 : Nat) (Int.fdiv (IntKind.wrap .u64 (IntKind.wrap .u64 (↑(BitVec.toNat (BitVec.ofInt (64 : Nat) (Int.fdiv t0 (2 : Int)) &&& BitVec.ofInt (64 : Nat) (6148914691236517205 : Int))) : Int) + IntKind.wrap .u64 (↑(BitVec.toNat (BitVec.ofInt (64 : Nat) t0 &&& BitVec.ofInt (64 : Nat) (6148914691236517205 : Int))) : Int))) (4 : Int)) &&& BitVec.ofInt (64 : Nat) (3689348814741910323 : Int))) : Int) + IntKind.wrap .u64 (↑(BitVec.toNat (BitVec.ofInt (64 : Nat) (IntKind.wrap .u64 (IntKind.wrap .u64 (↑(BitVec.toNat (BitVec.ofInt (64 : Nat) (Int.fdiv t0 (2 : Int)) &&& BitVec.ofInt (64 : Nat) (6148914691236517205 : Int))) : Int) + IntKind.wrap .u64 (↑(BitVec.toNat (BitVec.ofInt (64 : Nat) t0 &&& BitVec.ofInt (64 : Nat) (6148914691236517205 : Int))) : Int))) &&& BitVec.ofInt (64 : Nat) (3689348814741910323 : Int))) : Int))) (16 : Int) + IntKind.wrap .u64 (IntKind.wrap .u64 (↑(BitVec.toNat (BitVec.ofInt (64 : Nat) (Int.fdiv (IntKind.wrap .u64 (IntKind.wrap .u64 (↑(BitVec.toNat (BitVec.ofInt (64 : Nat) (Int.fdiv t0 (2 : Int)) &&& BitVec.ofInt (64 : Nat) (6148914691236517205 : Int))) : Int) + IntKind.wrap .u64 (↑(BitVec.toNat (BitVec.ofInt (64 : Nat) t0 &&& BitVec.ofInt (64 : Nat) (6148914691236517205 : Int))) : Int))) (4 : Int)) &&& BitVec.ofInt (64 : Nat) (3689348814741910323 : Int))) : Int) + IntKind.wrap .u64 (↑(BitVec.toNat (BitVec.ofInt (64 : Nat) (IntKind.wrap .u64 (IntKind.wrap .u64 (↑(BitVec.toNat (BitVec.ofInt (64 : Nat) (Int.fdiv t0 (2 : Int)) &&& BitVec.ofInt (64 : Nat) (6148914691236517205 : Int))) : Int) + IntKind.wrap .u64 (↑(BitVec.toNat (BitVec.ofInt (64 : Nat) t0 &&& BitVec.ofInt (64 : Nat) (6148914691236517205 : Int))) : Int))) &&& BitVec.ofInt (64 : Nat) (3689348814741910323 : Int))) : Int)))) &&& BitVec.ofInt (64 : Nat) (1085102592571150095 : Int))) : Int)) (256 : Int)) + Int.fdiv (IntKind.wrap .u64 (IntKind.wrap .u64 (↑(BitVec.toNat (BitVec.ofInt (64 : Nat) (IntKind.wrap .u64 (Int.fdiv (IntKind.wrap .u64 (IntKind.wrap .u64 (↑(BitVec.toNat (BitVec.ofInt (64 : Nat) (Int.fdiv (IntKind.wrap .u64 (IntKind.wrap .u64 (↑(BitVec.toNat (BitVec.ofInt (64 : Nat) (Int.fdiv t0 (2 : Int)) &&& BitVec.ofInt (64 : Nat) (6148914691236517205 : Int))) : Int) + IntKind.wrap .u64 (↑(BitVec.toNat (BitVec.ofInt (64 : Nat) t0 &&& BitVec.ofInt (64 : Nat) (6148914691236517205 : Int))) : Int))) (4 : Int)) &&& BitVec.ofInt (64 : Nat) (3689348814741910323 : Int))) : Int) + IntKind.wrap .u64 (↑(BitVec.toNat (BitVec.ofInt (64 : Nat) (IntKind.wrap .u64 (IntKind.wrap .u64 (↑(BitVec.toNat (BitVec.ofInt (64 : Nat) (Int.fdiv t0 (2 : Int)) &&& BitVec.ofInt (64 : Nat) (6148914691236517205 : Int))) : Int) + IntKind.wrap .u64 (↑(BitVec.toNat (BitVec.ofInt (64 : Nat) t0 &&& BitVec.ofInt (64 : Nat) (6148914691236517205 : Int))) : Int))) &&& BitVec.ofInt (64 : Nat) (3689348814741910323 : Int))) : Int))) (16 : Int) + IntKind.wrap .u64 (IntKind.wrap .u64 (↑(BitVec.toNat (BitVec.ofInt (64 : Nat) (Int.fdiv (IntKind.wrap .u64 (IntKind.wrap .u64 (↑(BitVec.toNat (BitVec.ofInt (64 : Nat) (Int.fdiv t0 (2 : Int)) &&& BitVec.ofInt (64 : Nat) (6148914691236517205 : Int))) : Int) + IntKind.wrap .u64 (↑(BitVec.toNat (BitVec.ofInt (64 : Nat) t0 &&& BitVec.ofInt (64 : Nat) (6148914691236517205 : Int))) : Int))) (4 : Int)) &&& BitVec.ofInt (64 : Nat) (3689348814741910323 : Int))) : Int) + IntKind.wrap .u64 (↑(BitVec.toNat (BitVec.ofInt (64 : Nat) (IntKind.wrap .u64 (IntKind.wrap .u64 (↑(BitVec.toNat (BitVec.ofInt (64 : Nat) (Int.fdiv t0 (2 : Int)) &&& BitVec.ofInt (64 : Nat) (6148914691236517205 : Int))) : Int) + IntKind.wrap .u64 (↑(BitVec.toNat (BitVec.ofInt (64 : Nat) t0 &&& BitVec.ofInt (64 : Nat) (6148914691236517205 : Int))) : Int))) &&& BitVec.ofInt (64 : Nat) (3689348814741910323 : Int))) : Int)))) &&& BitVec.ofInt (64 : Nat) (1085102592571150095 : Int))) : Int) + Int.fdiv (IntKind.wrap .u64 (↑(BitVec.toNat (BitVec.ofInt (64 : Nat) (IntKind.wrap .u64 (Int.fdiv (IntKind.wrap .u64 (IntKind.wrap .u64 (↑(BitVec.toNat (BitVec.ofInt (64 : Nat) (Int.fdiv (IntKind.wrap .u64 (IntKind.wrap .u64 (↑(BitVec.toNat (BitVec.ofInt (64 : Nat) (Int.fdiv t0 (2 : Int)) &&& BitVec.ofInt (64 : Nat) (6148914691236517205 : Int))) : Int) + IntKind.wrap .u64 (↑(BitVec.toNat (BitVec.ofInt (64 : Nat) t0 &&& BitVec.ofInt (64 : Nat) (6148914691236517205 : Int))) : Int))) (4 : Int)) &&& BitVec.ofInt (64 : Nat) (3689348814741910323 : Int))) : Int) + IntKind.wrap .u64 (↑(BitVec.toNat (BitVec.ofInt (64 : Nat) (IntKind.wrap .u64 (IntKind.wrap .u64 (↑(BitVec.toNat (BitVec.ofInt (64 : Nat) (Int.fdiv t0 (2 : Int)) &&& BitVec.ofInt (64 : Nat) (6148914691236517205 : Int))) : Int) + IntKind.wrap .u64 (↑(BitVec.toNat (BitVec.ofInt (64 : Nat) t0 &&& BitVec.ofInt (64 : Nat) (6148914691236517205 : Int))) : Int))) &&& BitVec.ofInt (64 : Nat) (3689348814741910323 : Int))) : Int))) (16 : Int) + IntKind.wrap .u64 (IntKind.wrap .u64 (↑(BitVec.toNat (BitVec.ofInt (64 : Nat) (Int.fdiv (IntKind.wrap .u64 (IntKind.wrap .u64 (↑(BitVec.toNat (BitVec.ofInt (64 : Nat) (Int.fdiv t0 (2 : Int)) &&& BitVec.ofInt (64 : Nat) (6148914691236517205 : Int))) : Int) + IntKind.wrap .u64 (↑(BitVec.toNat (BitVec.ofInt (64 : Nat) t0 &&& BitVec.ofInt (64 : Nat) (6148914691236517205 : Int))) : Int))) (4 : Int)) &&& BitVec.ofInt (64 : Nat) (3689348814741910323 : Int))) : Int) + IntKind.wrap .u64 (↑(BitVec.toNat (BitVec.ofInt (64 : Nat) (IntKind.wrap .u64 (IntKind.wrap .u64 (↑(BitVec.toNat (BitVec.ofInt (64 : Nat) (Int.fdiv t0 (2 : Int)) &&& BitVec.ofInt (64 : Nat) (6148914691236517205 : Int))) : Int) + IntKind.wrap .u64 (↑(BitVec.toNat (BitVec.ofInt (64 : Nat) t0 &&& BitVec.ofInt (64 : Nat) (6148914691236517205 : Int))) : Int))) &&& BitVec.ofInt (64 : Nat) (3689348814741910323 : Int))) : Int)))) &&& BitVec.ofInt (64 : Nat) (1085102592571150095 : Int))) : Int)) (256 : Int))) (65536 : Int))) (4294967296 : Int)))) &&& BitVec.ofInt (64 : Nat) (127 : Int))) : Int))), []))
set_option maxRecDepth 100000 in
theorem onep0 (n : Nat) (t0 : Int) : exec el0 (n + 65) (160, Try.f160, 0) onek0 (ones0 t0) = Tr.val el0 (160, Try.f160, 0) n (onet0 t0) := by kernel_rfl
noncomputable def fldk0 : List T := [.code (sub (bodyOf Try.f68) [])]
def flds0 (o0_0 o0_1 o0_2 o0_3 o0_4 o0_5 o0_6 o0_7 o0_8 o0_9 : Int) : St := ⟨[(0, .ptr (.out 0) 0)], [(.out 0, [.val (.int .i64 o0_0), .val (.int .i64 o0_1), .val (.int .i64 o0_2), .val (.int .i64 o0_3), .val (.int .i64 o0_4), .val (.int .i64 o0_5), .val (.int .i64 o0_6), .val (.int .i64 o0_7), .val (.int .i64 o0_8), .val (.int .i64 o0_9)])]⟩
noncomputable def fldt0 (o0_0 o0_1 o0_2 o0_3 o0_4 o0_5 o0_6 o0_7 o0_8 o0_9 : Int) : Tr := (.ret (.sarr 2 [[.ptr (.out 0) 0, .val (.int .i64 ((4 : Int)))], [.ptr (.out 0) 1, .val (.int .i64 ((4 : Int)))], [.ptr (.out 0) 2, .val (.int .i64 ((8 : Int)))], [.ptr (.out 0) 3, .val (.int .i64 ((8 : Int)))], [.ptr (.out 0) 4, .val (.int .i64 ((8 : Int)))], [.ptr (.out 0) 5, .val (.int .i64 ((8 : Int)))], [.ptr (.out 0) 6, .val (.int .i64 ((4 : Int)))], [.ptr (.out 0) 7, .val (.int .i64 ((4 : Int)))], [.ptr (.out 0) 8, .val (.int .i64 ((8 : Int)))], [.ptr (.out 0) 9, .val (.int .i64 ((8 : Int)))]], [[.val (.int .i64 (o0_0)), .val (.int .i64 (o0_1)), .val (.int .i64 (o0_2)), .val (.int .i64 (o0_3)), .val (.int .i64 (o0_4)), .val (.int .i64 (o0_5)), .val (.int .i64 (o0_6)), .val (.int .i64 (o0_7)), .val (.int .i64 (o0_8)), .val (.int .i64 (o0_9))]]))
set_option maxRecDepth 100000 in
theorem fldp0 (n : Nat) (o0_0 o0_1 o0_2 o0_3 o0_4 o0_5 o0_6 o0_7 o0_8 o0_9 : Int) : exec el0 (n + 50) (68, Try.f68, 1) fldk0 (flds0 o0_0 o0_1 o0_2 o0_3 o0_4 o0_5 o0_6 o0_7 o0_8 o0_9) = Tr.val el0 (68, Try.f68, 1) n (fldt0 o0_0 o0_1 o0_2 o0_3 o0_4 o0_5 o0_6 o0_7 o0_8 o0_9) := by kernel_rfl
noncomputable def putk0 : List T := [.code (sub (bodyOf Try.f127) [])]
def puts0 (t0 t1 : Int) : St := ⟨[(0, .val (.int .i64 t0)), (1, .val (.int .i64 t1))], []⟩
noncomputable def putk1 : List T := [.code (sub (bodyOf Try.f127) [1, 1, 1, 0, 1, 0, 0]), .lp (sub (bodyOf Try.f127) [1, 1, 1, 0, 1, 0, 0]), .blk 0, .code (sub (bodyOf Try.f127) [1, 1, 1, 1])]
def puts1 (t0 : Int) (t6 : List (List D)) (t29 t30 : Int) : St := ⟨[(0, .val (.int .i64 t0)), (6, .uni u8s t6), (29, .val (.int .i64 t29)), (30, .val (.int .i64 t30))], []⟩
noncomputable def putk2 : List T := [.code (sub (bodyOf Try.f127) [1, 1, 1, 0, 1, 0, 0]), .lp (sub (bodyOf Try.f127) [1, 1, 1, 0, 1, 0, 0]), .blk 0, .code (sub (bodyOf Try.f127) [1, 1, 1, 1])]
def puts2 (t0 : Int) (t6n : Nat) (t29 t30 : Int) (m6_0 : List (List D)) : St := ⟨[(0, .val (.int .i64 t0)), (6, .ms 6 u8s 0 t6n), (29, .val (.int .i64 t29)), (30, .val (.int .i64 t30))], [(.mp 6, [.arr u8s m6_0, .val (Value.tuple #[])])]⟩
noncomputable def putt0 (t0 t1 : Int) : Tr := (.ask (!siz t1)
  (.ret (.tup [.val nilSlice, .val (.int .i64 ((2 : Int)))], []))
  (.ask (decide (t1 < (8 : Int)))
  (.ask (decide (t0 < (0 : Int)))
  (.ret (.tup [.val nilSlice, .val (.int .i64 ((2 : Int)))], []))
  (.ask (decide ((0 : Int) ≤ IntKind.wrap .i64 ((8 : Int) * t1)))
  (.ask (Int.fdiv t0 ((2 : Int) ^ min (Int.toNat (IntKind.wrap .i64 ((8 : Int) * t1))) (64 : Nat)) != (0 : Int))
  (.ret (.tup [.val nilSlice, .val (.int .i64 ((2 : Int)))], []))
  (.ask (decide ((0 : Int) ≤ t1) && decide (t1 * (1 : Int) ≤ (140737488351232 : Int)) && decide (t1 ≤ (140737488351232 : Int)))
  (.go 0 putk1 (puts1 (t0) (List.replicate (Int.toNat t1) [D.int (0 : Int)]) ((↑(List.length (List.replicate (Int.toNat t1) [D.int (0 : Int)])) : Int)) ((0 : Int))))
  .fail))
  .fail))
  (.ask (decide ((0 : Int) ≤ t1) && decide (t1 * (1 : Int) ≤ (140737488351232 : Int)) && decide (t1 ≤ (140737488351232 : Int)))
  (.go 0 putk1 (puts1 (t0) (List.replicate (Int.toNat t1) [D.int (0 : Int)]) ((↑(List.length (List.replicate (Int.toNat t1) [D.int (0 : Int)])) : Int)) ((0 : Int))))
  .fail)))
set_option maxRecDepth 100000 in
theorem putp0 (n : Nat) (t0 t1 : Int) : exec el1 (n + 44) (127, Try.f127, 0) putk0 (puts0 t0 t1) = Tr.val el1 (127, Try.f127, 0) n (putt0 t0 t1) := by kernel_rfl
noncomputable def putt1 (t0 : Int) (t6 : List (List D)) (t29 t30 : Int) : Tr := (.ask (decide (t30 < t29))
  (.ask (decide ((0 : Nat) < List.length t6))
  (.ask (decide ((0 : Int) ≤ IntKind.wrap .i64 ((8 : Int) * t30)))
  (.ask (decide ((0 : Int) ≤ t30) && decide (t30 < (↑(List.length t6) : Int)))
  (.go 0 putk2 (puts2 (t0) (List.length t6) (t29) (IntKind.wrap .i64 (t30 + (1 : Int))) (List.set t6 ((0 : Nat) + Int.toNat t30) [D.int (IntKind.wrap .u8 (Int.fdiv (IntKind.wrap .u64 t0) ((2 : Int) ^ min (Int.toNat (IntKind.wrap .i64 ((8 : Int) * t30))) (64 : Nat))))])))
  .fail)
  .fail)
  .fail)
  (.ret (.tup [.uni u8s (t6), z0], [])))
set_option maxRecDepth 100000 in
theorem putp1 (n : Nat) (t0 : Int) (t6 : List (List D)) (t29 t30 : Int) : exec el1 (n + 32) (127, Try.f127, 0) putk1 (puts1 t0 t6 t29 t30) = Tr.val el1 (127, Try.f127, 0) n (putt1 t0 t6 t29 t30) := by kernel_rfl
noncomputable def putt2 (t0 : Int) (t6n : Nat) (t29 t30 : Int) (m6_0 : List (List D)) : Tr := (.ask (decide (t30 < t29))
  (.ask (decide ((0 : Int) ≤ IntKind.wrap .i64 ((8 : Int) * t30)))
  (.ask (decide ((0 : Int) ≤ t30) && decide (t30 < (↑t6n : Int)))
  (.go 0 putk2 (puts2 (t0) (t6n) (t29) (IntKind.wrap .i64 (t30 + (1 : Int))) (List.set m6_0 ((0 : Nat) + Int.toNat t30) [D.int (IntKind.wrap .u8 (Int.fdiv (IntKind.wrap .u64 t0) ((2 : Int) ^ min (Int.toNat (IntKind.wrap .i64 ((8 : Int) * t30))) (64 : Nat))))])))
  .fail)
  .fail)
  (.ret (.tup [.uni u8s (List.take t6n m6_0), z0], [])))
set_option maxRecDepth 100000 in
theorem putp2 (n : Nat) (t0 : Int) (t6n : Nat) (t29 t30 : Int) (m6_0 : List (List D)) : exec el1 (n + 32) (127, Try.f127, 0) putk2 (puts2 t0 t6n t29 t30 m6_0) = Tr.val el1 (127, Try.f127, 0) n (putt2 t0 t6n t29 t30 m6_0) := by kernel_rfl
noncomputable def getk0 : List T := [.code (sub (bodyOf Try.f27) [])]
def gets0 (t0 : List (List D)) (t1 t2 : Int) : St := ⟨[(0, .arr u8s t0), (1, .val (.int .i64 t1)), (2, .val (.int .i64 t2))], []⟩
noncomputable def getk1 : List T := [.code (sub (bodyOf Try.f27) [1, 1, 1, 1, 0, 1, 0, 0]), .lp (sub (bodyOf Try.f27) [1, 1, 1, 1, 0, 1, 0, 0]), .blk 0, .code (sub (bodyOf Try.f27) [1, 1, 1, 1, 1])]
def gets1 (t8 : Int) (t29 : List (List D)) (t30 t31 : Int) : St := ⟨[(8, .val (.int .u64 t8)), (29, .arr u8s t29), (30, .val (.int .i64 t30)), (31, .val (.int .i64 t31))], []⟩
noncomputable def gett0 (t0 : List (List D)) (t1 t2 : Int) : Tr := (.ask (!siz t2)
  (.ret (.tup [z0, .val (.int .i64 ((2 : Int)))], []))
  (.ask (decide (t1 < (0 : Int)))
  (.ret (.tup [z0, .val (.int .i64 ((8 : Int)))], []))
  (.ask (decide (t1 > IntKind.wrap .i64 ((↑(List.length t0) : Int) - t2)))
  (.ret (.tup [z0, .val (.int .i64 ((8 : Int)))], []))
  (.ask (okBounds t1 (IntKind.wrap .i64 (t1 + t2)) (↑(List.length t0) : Int))
  (.go 0 getk1 (gets1 ((0 : Int)) (cut t0 t1 (IntKind.wrap .i64 (t1 + t2))) ((↑(List.length (cut t0 t1 (IntKind.wrap .i64 (t1 + t2)))) : Int)) ((0 : Int))))
  .fail))))
set_option maxRecDepth 100000 in
theorem getp0 (n : Nat) (t0 : List (List D)) (t1 t2 : Int) : exec el1 (n + 48) (27, Try.f27, 0) getk0 (gets0 t0 t1 t2) = Tr.val el1 (27, Try.f27, 0) n (gett0 t0 t1 t2) := by kernel_rfl
noncomputable def gett1 (t8 : Int) (t29 : List (List D)) (t30 t31 : Int) : Tr := (.ask (decide (t31 < t30))
  (.ask (decide ((0 : Int) ≤ t31) && decide (t31 < (↑(List.length t29) : Int)))
  (.ask (decide ((0 : Int) ≤ IntKind.wrap .i64 ((8 : Int) * t31)))
  (.go 0 getk1 (gets1 (IntKind.wrap .u64 (↑(BitVec.toNat (BitVec.ofInt (64 : Nat) t8 ||| BitVec.ofInt (64 : Nat) (IntKind.wrap .u64 (IntKind.wrap .u64 (cellI t29 (Int.toNat t31) (0 : Nat)) * (2 : Int) ^ min (Int.toNat (IntKind.wrap .i64 ((8 : Int) * t31))) (64 : Nat))))) : Int)) (t29) (t30) (IntKind.wrap .i64 (t31 + (1 : Int)))))
  .fail)
  .fail)
  (.ret (.tup [.val (.int .i64 (IntKind.wrap .i64 t8)), z0], [])))
set_option maxRecDepth 100000 in
theorem getp1 (n : Nat) (t8 : Int) (t29 : List (List D)) (t30 t31 : Int) : exec el1 (n + 33) (27, Try.f27, 0) getk1 (gets1 t8 t29 t30 t31) = Tr.val el1 (27, Try.f27, 0) n (gett1 t8 t29 t30 t31) := by kernel_rfl
noncomputable def ixfk0 : List T := [.code (sub (bodyOf Try.f195) [])]
def ixfs0 (t0 : ByteArray) (t2 : Bool) : St := ⟨[(0, .val (.string t0)), (1, .val (Value.func (Fn.func (157 : Nat)) #[] #[])), (2, .val (.bool t2))], []⟩
noncomputable def ixfk1 : List T := [.code (sub (bodyOf Try.f195) [1, 0, 1, 0, 0]), .lp (sub (bodyOf Try.f195) [1, 0, 1, 0, 0]), .blk 0, .code (sub (bodyOf Try.f195) [1, 1])]
def ixfs1 (t2 : Bool) (m10_0 : ByteArray) (m10_1 : Nat) : St := ⟨[(1, .val (Value.func (Fn.func (157 : Nat)) #[] #[])), (2, .val (.bool t2)), (10, .mp 10 true)], [(.mp 10, [.val (.string m10_0), .val (.int .i64 (Int.ofNat m10_1))])]⟩
noncomputable def ixfk2 : List T := [.code (sub (bodyOf Try.f195) [1, 0, 1, 0, 0]), .lp (sub (bodyOf Try.f195) [1, 0, 1, 0, 0]), .blk 0, .code (sub (bodyOf Try.f195) [1, 1])]
def ixfs2 (t2 : Bool) (t7 : Int) (t19 : Bool) (m10_0 : ByteArray) (m10_1 : Nat) : St := ⟨[(1, .val (Value.func (Fn.func (157 : Nat)) #[] #[])), (2, .val (.bool t2)), (7, .val (.int .i64 t7)), (10, .mp 10 true), (19, .val (.bool t19))], [(.mp 10, [.val (.string m10_0), .val (.int .i64 (Int.ofNat m10_1))])]⟩
noncomputable def ixft0 (t0 : ByteArray) (t2 : Bool) : Tr := (.go 0 ixfk1 (ixfs1 (t2) (t0) (nat_lit 0)))
set_option maxRecDepth 100000 in
theorem ixfp0 (n : Nat) (t0 : ByteArray) (t2 : Bool) : exec el1 (n + 12) (195, Try.f195, 0) ixfk0 (ixfs0 t0 t2) = Tr.val el1 (195, Try.f195, 0) n (ixft0 t0 t2) := by kernel_rfl
noncomputable def ixft1 (t2 : Bool) (m10_0 : ByteArray) (m10_1 : Nat) : Tr := (.ask (decide (m10_1 < ByteArray.size m10_0))
  (.ask ((decide ((↑(Prod.fst (Utf8.decode m10_0 m10_1)) : Int) < (33 : Int)) || decide ((↑(Prod.fst (Utf8.decode m10_0 m10_1)) : Int) > (126 : Int))) == t2)
  (.ret (.val (.int .i64 ((↑m10_1 : Int))), []))
  (.go 3 ixfk2 (ixfs2 (t2) ((↑m10_1 : Int)) (false) (m10_0) (m10_1 + Prod.snd (Utf8.decode m10_0 m10_1)))))
  (.ret (.val (.int .i64 ((-1 : Int))), [])))
set_option maxRecDepth 100000 in
theorem ixfp1 (n : Nat) (t2 : Bool) (m10_0 : ByteArray) (m10_1 : Nat) : exec el1 (n + 31) (195, Try.f195, 0) ixfk1 (ixfs1 t2 m10_0 m10_1) = Tr.val el1 (195, Try.f195, 0) n (ixft1 t2 m10_0 m10_1) := by kernel_rfl
set_option maxRecDepth 100000 in
theorem ixfp2 (n : Nat) (t2 : Bool) (t7 : Int) (t19 : Bool) (m10_0 : ByteArray) (m10_1 : Nat) : exec el1 (n + 31) (195, Try.f195, 0) ixfk2 (ixfs2 t2 t7 t19 m10_0 m10_1) = Tr.val el1 (195, Try.f195, 0) n (ixft1 t2 m10_0 m10_1) := by kernel_rfl
noncomputable def cutk0 : List T := [.code (sub (bodyOf Try.f183) [])]
def cuts0 (t0 t1 : ByteArray) : St := ⟨[(0, .val (.string t0)), (1, .val (.string t1))], []⟩
noncomputable def cutt0 (t0 t1 : ByteArray) : Tr := (.ask (!hasP t0 t1)
  (.ret (.tup [.val (.string (t0)), .val (.bool (false))], []))
  (.ask (okBounds (↑(ByteArray.size t1) : Int) (↑(ByteArray.size t0) : Int) (↑(ByteArray.size t0) : Int))
  (.ret (.tup [.val (.string (ByteArray.extract t0 (ByteArray.size t1) (ByteArray.size t0))), .val (.bool (true))], []))
  .fail))
set_option maxRecDepth 100000 in
theorem cutp0 (n : Nat) (t0 t1 : ByteArray) : exec el1 (n + 25) (183, Try.f183, 0) cutk0 (cuts0 t0 t1) = Tr.val el1 (183, Try.f183, 0) n (cutt0 t0 t1) := by kernel_rfl
noncomputable def onck0 : List T := [.code (sub (bodyOf Try.f118) [])]
def oncs0 (t0 : Int) : St := ⟨[(0, .val (.int .u64 t0))], []⟩
noncomputable def onct0 (t0 : Int) : Tr := (.ask (pOne [handed [] (.val (.int .u64 t0))])
  (.ret (.val (.int .i64 (ones t0)), []))
  .fail)
set_option maxRecDepth 100000 in
theorem oncp0 (n : Nat) (t0 : Int) : exec el1 (n + 14) (118, Try.f118, 0) onck0 (oncs0 t0) = Tr.val el1 (118, Try.f118, 0) n (onct0 t0) := by kernel_rfl
noncomputable def ixgk0 : List T := [.code (sub (bodyOf Try.f182) [])]
def ixgs0 (t0 : ByteArray) : St := ⟨[(0, .val (.string t0)), (1, .val (Value.func (Fn.func (157 : Nat)) #[] #[]))], []⟩
noncomputable def ixgt0 (t0 : ByteArray) : Tr := (.ret (.val (.int .i64 (ixG t0)), []))
set_option maxRecDepth 100000 in
theorem ixgp0 (n : Nat) (t0 : ByteArray) : exec el2 (n + 12) (182, Try.f182, 0) ixgk0 (ixgs0 t0) = Tr.val el2 (182, Try.f182, 0) n (ixgt0 t0) := by kernel_rfl
noncomputable def cuttk0 : List T := [.code (sub (bodyOf Try.f158) [])]
def cutts0 (t0 t1 : ByteArray) : St := ⟨[(0, .val (.string t0)), (1, .val (.string t1))], []⟩
noncomputable def cuttt0 (t0 t1 : ByteArray) : Tr := (.ret (.tup [.val (.string (cutP t0 t1)), .val (.bool (hasP t0 t1))], []))
set_option maxRecDepth 100000 in
theorem cuttp0 (n : Nat) (t0 t1 : ByteArray) : exec el2 (n + 16) (158, Try.f158, 0) cuttk0 (cutts0 t0 t1) = Tr.val el2 (158, Try.f158, 0) n (cuttt0 t0 t1) := by kernel_rfl
noncomputable def hdwk0 : List T := [.code (sub (bodyOf Try.f65) [])]
def hdws0 (t0_0 t0_1 t0_2 t0_3 t0_4 t0_5 t0_6 t0_7 t0_8 t0_9 : Int) : St := ⟨[(0, .agg [.val (.int .i64 t0_0), .val (.int .i64 t0_1), .val (.int .i64 t0_2), .val (.int .i64 t0_3), .val (.int .i64 t0_4), .val (.int .i64 t0_5), .val (.int .i64 t0_6), .val (.int .i64 t0_7), .val (.int .i64 t0_8), .val (.int .i64 t0_9)])], []⟩
noncomputable def hdwt0 (t0_0 t0_1 t0_2 t0_3 t0_4 t0_5 t0_6 t0_7 t0_8 t0_9 : Int) : Tr := (.ask (putE t0_0 (4 : Int) != (0 : Int))
  (.ret (.tup [.val nilSlice, .val (.int .i64 ((2 : Int)))], []))
  (.ask (decide (t0_0 < (0 : Int)))
  (.ret (.tup [.val nilSlice, .val (.int .i64 ((2 : Int)))], []))
  (.ask (decide (List.length (putB t0_0 (4 : Int)) * (1 : Nat) ≤ (70368744177664 : Nat)) && decide (List.length (putB t0_0 (4 : Int)) ≤ (70368744177664 : Nat)))
  (.ask (putE t0_1 (4 : Int) != (0 : Int))
  (.ret (.tup [.val nilSlice, .val (.int .i64 ((2 : Int)))], []))
  (.ask (decide (t0_1 < (0 : Int)))
  (.ret (.tup [.val nilSlice, .val (.int .i64 ((2 : Int)))], []))
  (.ask (decide ((List.length (putB t0_0 (4 : Int)) + List.length (putB t0_1 (4 : Int))) * (1 : Nat) ≤ (70368744177664 : Nat)) && decide (List.length (putB t0_0 (4 : Int)) + List.length (putB t0_1 (4 : Int)) ≤ (70368744177664 : Nat)))
  (.ask (decide (t0_2 < (0 : Int)))
  (.ret (.tup [.val nilSlice, .val (.int .i64 ((2 : Int)))], []))
  (.ask (decide ((List.length (putB t0_0 (4 : Int) ++ putB t0_1 (4 : Int)) + List.length (putB t0_2 (8 : Int))) * (1 : Nat) ≤ (70368744177664 : Nat)) && decide (List.length (putB t0_0 (4 : Int) ++ putB t0_1 (4 : Int)) + List.length (putB t0_2 (8 : Int)) ≤ (70368744177664 : Nat)))
  (.ask (decide (t0_3 < (0 : Int)))
  (.ret (.tup [.val nilSlice, .val (.int .i64 ((2 : Int)))], []))
  (.ask (decide ((List.length (putB t0_0 (4 : Int) ++ putB t0_1 (4 : Int) ++ putB t0_2 (8 : Int)) + List.length (putB t0_3 (8 : Int))) * (1 : Nat) ≤ (70368744177664 : Nat)) && decide (List.length (putB t0_0 (4 : Int) ++ putB t0_1 (4 : Int) ++ putB t0_2 (8 : Int)) + List.length (putB t0_3 (8 : Int)) ≤ (70368744177664 : Nat)))
  (.ask (decide (t0_4 < (0 : Int)))
  (.ret (.tup [.val nilSlice, .val (.int .i64 ((2 : Int)))], []))
  (.ask (decide ((List.length (putB t0_0 (4 : Int) ++ putB t0_1 (4 : Int) ++ putB t0_2 (8 : Int) ++ putB t0_3 (8 : Int)) + List.length (putB t0_4 (8 : Int))) * (1 : Nat) ≤ (70368744177664 : Nat)) && decide (List.length (putB t0_0 (4 : Int) ++ putB t0_1 (4 : Int) ++ putB t0_2 (8 : Int) ++ putB t0_3 (8 : Int)) + List.length (putB t0_4 (8 : Int)) ≤ (70368744177664 : Nat)))
  (.ask (decide (t0_5 < (0 : Int)))
  (.ret (.tup [.val nilSlice, .val (.int .i64 ((2 : Int)))], []))
  (.ask (decide ((List.length (putB t0_0 (4 : Int) ++ putB t0_1 (4 : Int) ++ putB t0_2 (8 : Int) ++ putB t0_3 (8 : Int) ++ putB t0_4 (8 : Int)) + List.length (putB t0_5 (8 : Int))) * (1 : Nat) ≤ (70368744177664 : Nat)) && decide (List.length (putB t0_0 (4 : Int) ++ putB t0_1 (4 : Int) ++ putB t0_2 (8 : Int) ++ putB t0_3 (8 : Int) ++ putB t0_4 (8 : Int)) + List.length (putB t0_5 (8 : Int)) ≤ (70368744177664 : Nat)))
  (.ask (putE t0_6 (4 : Int) != (0 : Int))
  (.ret (.tup [.val nilSlice, .val (.int .i64 ((2 : Int)))], []))
  (.ask (decide (t0_6 < (0 : Int)))
  (.ret (.tup [.val nilSlice, .val (.int .i64 ((2 : Int)))], []))
  (.ask (decide ((List.length (putB t0_0 (4 : Int) ++ putB t0_1 (4 : Int) ++ putB t0_2 (8 : Int) ++ putB t0_3 (8 : Int) ++ putB t0_4 (8 : Int) ++ putB t0_5 (8 : Int)) + List.length (putB t0_6 (4 : Int))) * (1 : Nat) ≤ (70368744177664 : Nat)) && decide (List.length (putB t0_0 (4 : Int) ++ putB t0_1 (4 : Int) ++ putB t0_2 (8 : Int) ++ putB t0_3 (8 : Int) ++ putB t0_4 (8 : Int) ++ putB t0_5 (8 : Int)) + List.length (putB t0_6 (4 : Int)) ≤ (70368744177664 : Nat)))
  (.ask (putE t0_7 (4 : Int) != (0 : Int))
  (.ret (.tup [.val nilSlice, .val (.int .i64 ((2 : Int)))], []))
  (.ask (decide (t0_7 < (0 : Int)))
  (.ret (.tup [.val nilSlice, .val (.int .i64 ((2 : Int)))], []))
  (.ask (decide ((List.length (putB t0_0 (4 : Int) ++ putB t0_1 (4 : Int) ++ putB t0_2 (8 : Int) ++ putB t0_3 (8 : Int) ++ putB t0_4 (8 : Int) ++ putB t0_5 (8 : Int) ++ putB t0_6 (4 : Int)) + List.length (putB t0_7 (4 : Int))) * (1 : Nat) ≤ (70368744177664 : Nat)) && decide (List.length (putB t0_0 (4 : Int) ++ putB t0_1 (4 : Int) ++ putB t0_2 (8 : Int) ++ putB t0_3 (8 : Int) ++ putB t0_4 (8 : Int) ++ putB t0_5 (8 : Int) ++ putB t0_6 (4 : Int)) + List.length (putB t0_7 (4 : Int)) ≤ (70368744177664 : Nat)))
  (.ask (decide (t0_8 < (0 : Int)))
  (.ret (.tup [.val nilSlice, .val (.int .i64 ((2 : Int)))], []))
  (.ask (decide ((List.length (putB t0_0 (4 : Int) ++ putB t0_1 (4 : Int) ++ putB t0_2 (8 : Int) ++ putB t0_3 (8 : Int) ++ putB t0_4 (8 : Int) ++ putB t0_5 (8 : Int) ++ putB t0_6 (4 : Int) ++ putB t0_7 (4 : Int)) + List.length (putB t0_8 (8 : Int))) * (1 : Nat) ≤ (70368744177664 : Nat)) && decide (List.length (putB t0_0 (4 : Int) ++ putB t0_1 (4 : Int) ++ putB t0_2 (8 : Int) ++ putB t0_3 (8 : Int) ++ putB t0_4 (8 : Int) ++ putB t0_5 (8 : Int) ++ putB t0_6 (4 : Int) ++ putB t0_7 (4 : Int)) + List.length (putB t0_8 (8 : Int)) ≤ (70368744177664 : Nat)))
  (.ask (decide (t0_9 < (0 : Int)))
  (.ret (.tup [.val nilSlice, .val (.int .i64 ((2 : Int)))], []))
  (.ask (decide ((List.length (putB t0_0 (4 : Int) ++ putB t0_1 (4 : Int) ++ putB t0_2 (8 : Int) ++ putB t0_3 (8 : Int) ++ putB t0_4 (8 : Int) ++ putB t0_5 (8 : Int) ++ putB t0_6 (4 : Int) ++ putB t0_7 (4 : Int) ++ putB t0_8 (8 : Int)) + List.length (putB t0_9 (8 : Int))) * (1 : Nat) ≤ (70368744177664 : Nat)) && decide (List.length (putB t0_0 (4 : Int) ++ putB t0_1 (4 : Int) ++ putB t0_2 (8 : Int) ++ putB t0_3 (8 : Int) ++ putB t0_4 (8 : Int) ++ putB t0_5 (8 : Int) ++ putB t0_6 (4 : Int) ++ putB t0_7 (4 : Int) ++ putB t0_8 (8 : Int)) + List.length (putB t0_9 (8 : Int)) ≤ (70368744177664 : Nat)))
  (.ret (.tup [.own u8s (putB t0_0 (4 : Int) ++ putB t0_1 (4 : Int) ++ putB t0_2 (8 : Int) ++ putB t0_3 (8 : Int) ++ putB t0_4 (8 : Int) ++ putB t0_5 (8 : Int) ++ putB t0_6 (4 : Int) ++ putB t0_7 (4 : Int) ++ putB t0_8 (8 : Int) ++ putB t0_9 (8 : Int)), z0], []))
  .fail))
  .fail))
  .fail)))
  .fail)))
  .fail))
  .fail))
  .fail))
  .fail))
  .fail)))
  .fail)))
set_option maxRecDepth 100000 in
theorem hdwp0 (n : Nat) (t0_0 t0_1 t0_2 t0_3 t0_4 t0_5 t0_6 t0_7 t0_8 t0_9 : Int) : exec el2 (n + 609) (65, Try.f65, 0) hdwk0 (hdws0 t0_0 t0_1 t0_2 t0_3 t0_4 t0_5 t0_6 t0_7 t0_8 t0_9) = Tr.val el2 (65, Try.f65, 0) n (hdwt0 t0_0 t0_1 t0_2 t0_3 t0_4 t0_5 t0_6 t0_7 t0_8 t0_9) := by kernel_rfl
noncomputable def hdrk0 : List T := [.code (sub (bodyOf Try.f28) [])]
def hdrs0 (t0 : List (List D)) : St := ⟨[(0, .arr u8s t0)], []⟩
noncomputable def hdrt0 (t0 : List (List D)) : Tr := (.ask ((↑(List.length t0) : Int) != (64 : Int))
  (.ret (.tup [.agg [z0, z0, z0, z0, z0, z0, z0, z0, z0, z0], .val (.int .i64 ((3 : Int)))], []))
  (.ask (pGet [normV (.sl u8s) (handed [] (.arr u8s t0)), handed [] (.val (.int .i64 (0 : Int))), handed [] (.val (.int .i64 (4 : Int)))])
  (.ask (getE t0 (0 : Int) (4 : Int) != (0 : Int))
  (.ret (.tup [.agg [z0, z0, z0, z0, z0, z0, z0, z0, z0, z0], .val (.int .i64 ((8 : Int)))], []))
  (.ask (decide (getV t0 (0 : Int) (4 : Int) < (0 : Int)))
  (.ret (.tup [.agg [z0, z0, z0, z0, z0, z0, z0, z0, z0, z0], .val (.int .i64 ((8 : Int)))], []))
  (.ask (pGet [normV (.sl u8s) (handed [] (.arr u8s t0)), handed [] (.val (.int .i64 (4 : Int))), handed [] (.val (.int .i64 (4 : Int)))])
  (.ask (getE t0 (4 : Int) (4 : Int) != (0 : Int))
  (.ret (.tup [.agg [z0, z0, z0, z0, z0, z0, z0, z0, z0, z0], .val (.int .i64 ((8 : Int)))], []))
  (.ask (decide (getV t0 (4 : Int) (4 : Int) < (0 : Int)))
  (.ret (.tup [.agg [z0, z0, z0, z0, z0, z0, z0, z0, z0, z0], .val (.int .i64 ((8 : Int)))], []))
  (.ask (pGet [normV (.sl u8s) (handed [] (.arr u8s t0)), handed [] (.val (.int .i64 (8 : Int))), handed [] (.val (.int .i64 (8 : Int)))])
  (.ask (getE t0 (8 : Int) (8 : Int) != (0 : Int))
  (.ret (.tup [.agg [z0, z0, z0, z0, z0, z0, z0, z0, z0, z0], .val (.int .i64 ((8 : Int)))], []))
  (.ask (decide (getV t0 (8 : Int) (8 : Int) < (0 : Int)))
  (.ret (.tup [.agg [z0, z0, z0, z0, z0, z0, z0, z0, z0, z0], .val (.int .i64 ((8 : Int)))], []))
  (.ask (pGet [normV (.sl u8s) (handed [] (.arr u8s t0)), handed [] (.val (.int .i64 (16 : Int))), handed [] (.val (.int .i64 (8 : Int)))])
  (.ask (getE t0 (16 : Int) (8 : Int) != (0 : Int))
  (.ret (.tup [.agg [z0, z0, z0, z0, z0, z0, z0, z0, z0, z0], .val (.int .i64 ((8 : Int)))], []))
  (.ask (decide (getV t0 (16 : Int) (8 : Int) < (0 : Int)))
  (.ret (.tup [.agg [z0, z0, z0, z0, z0, z0, z0, z0, z0, z0], .val (.int .i64 ((8 : Int)))], []))
  (.ask (pGet [normV (.sl u8s) (handed [] (.arr u8s t0)), handed [] (.val (.int .i64 (24 : Int))), handed [] (.val (.int .i64 (8 : Int)))])
  (.ask (getE t0 (24 : Int) (8 : Int) != (0 : Int))
  (.ret (.tup [.agg [z0, z0, z0, z0, z0, z0, z0, z0, z0, z0], .val (.int .i64 ((8 : Int)))], []))
  (.ask (decide (getV t0 (24 : Int) (8 : Int) < (0 : Int)))
  (.ret (.tup [.agg [z0, z0, z0, z0, z0, z0, z0, z0, z0, z0], .val (.int .i64 ((8 : Int)))], []))
  (.ask (pGet [normV (.sl u8s) (handed [] (.arr u8s t0)), handed [] (.val (.int .i64 (32 : Int))), handed [] (.val (.int .i64 (8 : Int)))])
  (.ask (getE t0 (32 : Int) (8 : Int) != (0 : Int))
  (.ret (.tup [.agg [z0, z0, z0, z0, z0, z0, z0, z0, z0, z0], .val (.int .i64 ((8 : Int)))], []))
  (.ask (decide (getV t0 (32 : Int) (8 : Int) < (0 : Int)))
  (.ret (.tup [.agg [z0, z0, z0, z0, z0, z0, z0, z0, z0, z0], .val (.int .i64 ((8 : Int)))], []))
  (.ask (pGet [normV (.sl u8s) (handed [] (.arr u8s t0)), handed [] (.val (.int .i64 (40 : Int))), handed [] (.val (.int .i64 (4 : Int)))])
  (.ask (getE t0 (40 : Int) (4 : Int) != (0 : Int))
  (.ret (.tup [.agg [z0, z0, z0, z0, z0, z0, z0, z0, z0, z0], .val (.int .i64 ((8 : Int)))], []))
  (.ask (decide (getV t0 (40 : Int) (4 : Int) < (0 : Int)))
  (.ret (.tup [.agg [z0, z0, z0, z0, z0, z0, z0, z0, z0, z0], .val (.int .i64 ((8 : Int)))], []))
  (.ask (pGet [normV (.sl u8s) (handed [] (.arr u8s t0)), handed [] (.val (.int .i64 (44 : Int))), handed [] (.val (.int .i64 (4 : Int)))])
  (.ask (getE t0 (44 : Int) (4 : Int) != (0 : Int))
  (.ret (.tup [.agg [z0, z0, z0, z0, z0, z0, z0, z0, z0, z0], .val (.int .i64 ((8 : Int)))], []))
  (.ask (decide (getV t0 (44 : Int) (4 : Int) < (0 : Int)))
  (.ret (.tup [.agg [z0, z0, z0, z0, z0, z0, z0, z0, z0, z0], .val (.int .i64 ((8 : Int)))], []))
  (.ask (pGet [normV (.sl u8s) (handed [] (.arr u8s t0)), handed [] (.val (.int .i64 (48 : Int))), handed [] (.val (.int .i64 (8 : Int)))])
  (.ask (getE t0 (48 : Int) (8 : Int) != (0 : Int))
  (.ret (.tup [.agg [z0, z0, z0, z0, z0, z0, z0, z0, z0, z0], .val (.int .i64 ((8 : Int)))], []))
  (.ask (decide (getV t0 (48 : Int) (8 : Int) < (0 : Int)))
  (.ret (.tup [.agg [z0, z0, z0, z0, z0, z0, z0, z0, z0, z0], .val (.int .i64 ((8 : Int)))], []))
  (.ask (pGet [normV (.sl u8s) (handed [] (.arr u8s t0)), handed [] (.val (.int .i64 (56 : Int))), handed [] (.val (.int .i64 (8 : Int)))])
  (.ask (getE t0 (56 : Int) (8 : Int) != (0 : Int))
  (.ret (.tup [.agg [z0, z0, z0, z0, z0, z0, z0, z0, z0, z0], .val (.int .i64 ((8 : Int)))], []))
  (.ask (decide (getV t0 (56 : Int) (8 : Int) < (0 : Int)))
  (.ret (.tup [.agg [z0, z0, z0, z0, z0, z0, z0, z0, z0, z0], .val (.int .i64 ((8 : Int)))], []))
  (.ret (.tup [.agg [.val (.int .i64 (getV t0 (0 : Int) (4 : Int))), .val (.int .i64 (getV t0 (4 : Int) (4 : Int))), .val (.int .i64 (getV t0 (8 : Int) (8 : Int))), .val (.int .i64 (getV t0 (16 : Int) (8 : Int))), .val (.int .i64 (getV t0 (24 : Int) (8 : Int))), .val (.int .i64 (getV t0 (32 : Int) (8 : Int))), .val (.int .i64 (getV t0 (40 : Int) (4 : Int))), .val (.int .i64 (getV t0 (44 : Int) (4 : Int))), .val (.int .i64 (getV t0 (48 : Int) (8 : Int))), .val (.int .i64 (getV t0 (56 : Int) (8 : Int)))], z0], []))))
  .fail)))
  .fail)))
  .fail)))
  .fail)))
  .fail)))
  .fail)))
  .fail)))
  .fail)))
  .fail)))
  .fail))
set_option maxRecDepth 100000 in
theorem hdrp0 (n : Nat) (t0 : List (List D)) : exec el2 (n + 661) (28, Try.f28, 0) hdrk0 (hdrs0 t0) = Tr.val el2 (28, Try.f28, 0) n (hdrt0 t0) := by kernel_rfl
noncomputable def ctnk0 : List T := [.code (sub (bodyOf Try.f156) [])]
def ctns0 (t0 : ByteArray) : St := ⟨[(0, .val (.string t0)), (1, .val (Value.func (Fn.func (157 : Nat)) #[] #[]))], []⟩
noncomputable def ctnt0 (t0 : ByteArray) : Tr := (.ret (.val (.bool (decide (ixG t0 ≥ (0 : Int)))), []))
set_option maxRecDepth 100000 in
theorem ctnp0 (n : Nat) (t0 : ByteArray) : exec el3 (n + 13) (156, Try.f156, 0) ctnk0 (ctns0 t0) = Tr.val el3 (156, Try.f156, 0) n (ctnt0 t0) := by kernel_rfl
noncomputable def kndk0 : List T := [.code (sub (bodyOf Try.f117) [])]
def knds0 (t0 : ByteArray) : St := ⟨[(0, .val (.string t0))], []⟩
noncomputable def kndt0 (t0 : ByteArray) : Tr := (.ask (decide ((↑(ByteArray.size t0) : Int) > (32 : Int)))
  (.ret (.tup [.val (.int .u8 ((0 : Int))), .val (.int .i64 ((3 : Int)))], []))
  (.ask (!!!graph t0)
  (.ret (.tup [.val (.int .u8 ((0 : Int))), .val (.int .i64 ((3 : Int)))], []))
  (.ask (hasP t0 { data := #[(46 : UInt8), (116 : UInt8), (101 : UInt8), (120 : UInt8), (116 : UInt8)] })
  (.ask (ByteArray.toList (cutP t0 { data := #[(46 : UInt8), (116 : UInt8), (101 : UInt8), (120 : UInt8), (116 : UInt8)] }) == ByteArray.toList { data := #[] })
  (.ret (.tup [.val (.int .u8 ((1 : Int))), z0], []))
  (.ask (decide ((0 : Int) < (↑(ByteArray.size (cutP t0 { data := #[(46 : UInt8), (116 : UInt8), (101 : UInt8), (120 : UInt8), (116 : UInt8)] })) : Int)))
  (.ask (byteAt (cutP t0 { data := #[(46 : UInt8), (116 : UInt8), (101 : UInt8), (120 : UInt8), (116 : UInt8)] }) (0 : Int) == (46 : Int))
  (.ret (.tup [.val (.int .u8 ((1 : Int))), z0], []))
  (.ask (hasP t0 { data := #[(46 : UInt8), (114 : UInt8), (111 : UInt8), (100 : UInt8), (97 : UInt8), (116 : UInt8), (97 : UInt8)] })
  (.ask (ByteArray.toList (cutP t0 { data := #[(46 : UInt8), (114 : UInt8), (111 : UInt8), (100 : UInt8), (97 : UInt8), (116 : UInt8), (97 : UInt8)] }) == ByteArray.toList { data := #[] })
  (.ret (.tup [.val (.int .u8 ((2 : Int))), z0], []))
  (.ask (decide ((0 : Int) < (↑(ByteArray.size (cutP t0 { data := #[(46 : UInt8), (114 : UInt8), (111 : UInt8), (100 : UInt8), (97 : UInt8), (116 : UInt8), (97 : UInt8)] })) : Int)))
  (.ask (byteAt (cutP t0 { data := #[(46 : UInt8), (114 : UInt8), (111 : UInt8), (100 : UInt8), (97 : UInt8), (116 : UInt8), (97 : UInt8)] }) (0 : Int) == (46 : Int))
  (.ret (.tup [.val (.int .u8 ((2 : Int))), z0], []))
  (.ask (hasP t0 { data := #[(46 : UInt8), (100 : UInt8), (97 : UInt8), (116 : UInt8), (97 : UInt8)] })
  (.ask (ByteArray.toList (cutP t0 { data := #[(46 : UInt8), (100 : UInt8), (97 : UInt8), (116 : UInt8), (97 : UInt8)] }) == ByteArray.toList { data := #[] })
  (.ret (.tup [.val (.int .u8 ((3 : Int))), z0], []))
  (.ask (decide ((0 : Int) < (↑(ByteArray.size (cutP t0 { data := #[(46 : UInt8), (100 : UInt8), (97 : UInt8), (116 : UInt8), (97 : UInt8)] })) : Int)))
  (.ask (byteAt (cutP t0 { data := #[(46 : UInt8), (100 : UInt8), (97 : UInt8), (116 : UInt8), (97 : UInt8)] }) (0 : Int) == (46 : Int))
  (.ret (.tup [.val (.int .u8 ((3 : Int))), z0], []))
  (.ask (hasP t0 { data := #[(46 : UInt8), (98 : UInt8), (115 : UInt8), (115 : UInt8)] })
  (.ask (ByteArray.toList (cutP t0 { data := #[(46 : UInt8), (98 : UInt8), (115 : UInt8), (115 : UInt8)] }) == ByteArray.toList { data := #[] })
  (.ret (.tup [.val (.int .u8 ((4 : Int))), z0], []))
  (.ask (decide ((0 : Int) < (↑(ByteArray.size (cutP t0 { data := #[(46 : UInt8), (98 : UInt8), (115 : UInt8), (115 : UInt8)] })) : Int)))
  (.ask (byteAt (cutP t0 { data := #[(46 : UInt8), (98 : UInt8), (115 : UInt8), (115 : UInt8)] }) (0 : Int) == (46 : Int))
  (.ret (.tup [.val (.int .u8 ((4 : Int))), z0], []))
  (.ret (.tup [.val (.int .u8 ((0 : Int))), .val (.int .i64 ((3 : Int)))], [])))
  .fail))
  (.ret (.tup [.val (.int .u8 ((0 : Int))), .val (.int .i64 ((3 : Int)))], []))))
  .fail))
  (.ask (hasP t0 { data := #[(46 : UInt8), (98 : UInt8), (115 : UInt8), (115 : UInt8)] })
  (.ask (ByteArray.toList (cutP t0 { data := #[(46 : UInt8), (98 : UInt8), (115 : UInt8), (115 : UInt8)] }) == ByteArray.toList { data := #[] })
  (.ret (.tup [.val (.int .u8 ((4 : Int))), z0], []))
  (.ask (decide ((0 : Int) < (↑(ByteArray.size (cutP t0 { data := #[(46 : UInt8), (98 : UInt8), (115 : UInt8), (115 : UInt8)] })) : Int)))
  (.ask (byteAt (cutP t0 { data := #[(46 : UInt8), (98 : UInt8), (115 : UInt8), (115 : UInt8)] }) (0 : Int) == (46 : Int))
  (.ret (.tup [.val (.int .u8 ((4 : Int))), z0], []))
  (.ret (.tup [.val (.int .u8 ((0 : Int))), .val (.int .i64 ((3 : Int)))], [])))
  .fail))
  (.ret (.tup [.val (.int .u8 ((0 : Int))), .val (.int .i64 ((3 : Int)))], [])))))
  .fail))
  (.ask (hasP t0 { data := #[(46 : UInt8), (100 : UInt8), (97 : UInt8), (116 : UInt8), (97 : UInt8)] })
  (.ask (ByteArray.toList (cutP t0 { data := #[(46 : UInt8), (100 : UInt8), (97 : UInt8), (116 : UInt8), (97 : UInt8)] }) == ByteArray.toList { data := #[] })
  (.ret (.tup [.val (.int .u8 ((3 : Int))), z0], []))
  (.ask (decide ((0 : Int) < (↑(ByteArray.size (cutP t0 { data := #[(46 : UInt8), (100 : UInt8), (97 : UInt8), (116 : UInt8), (97 : UInt8)] })) : Int)))
  (.ask (byteAt (cutP t0 { data := #[(46 : UInt8), (100 : UInt8), (97 : UInt8), (116 : UInt8), (97 : UInt8)] }) (0 : Int) == (46 : Int))
  (.ret (.tup [.val (.int .u8 ((3 : Int))), z0], []))
  (.ask (hasP t0 { data := #[(46 : UInt8), (98 : UInt8), (115 : UInt8), (115 : UInt8)] })
  (.ask (ByteArray.toList (cutP t0 { data := #[(46 : UInt8), (98 : UInt8), (115 : UInt8), (115 : UInt8)] }) == ByteArray.toList { data := #[] })
  (.ret (.tup [.val (.int .u8 ((4 : Int))), z0], []))
  (.ask (decide ((0 : Int) < (↑(ByteArray.size (cutP t0 { data := #[(46 : UInt8), (98 : UInt8), (115 : UInt8), (115 : UInt8)] })) : Int)))
  (.ask (byteAt (cutP t0 { data := #[(46 : UInt8), (98 : UInt8), (115 : UInt8), (115 : UInt8)] }) (0 : Int) == (46 : Int))
  (.ret (.tup [.val (.int .u8 ((4 : Int))), z0], []))
  (.ret (.tup [.val (.int .u8 ((0 : Int))), .val (.int .i64 ((3 : Int)))], [])))
  .fail))
  (.ret (.tup [.val (.int .u8 ((0 : Int))), .val (.int .i64 ((3 : Int)))], []))))
  .fail))
  (.ask (hasP t0 { data := #[(46 : UInt8), (98 : UInt8), (115 : UInt8), (115 : UInt8)] })
  (.ask (ByteArray.toList (cutP t0 { data := #[(46 : UInt8), (98 : UInt8), (115 : UInt8), (115 : UInt8)] }) == ByteArray.toList { data := #[] })
  (.ret (.tup [.val (.int .u8 ((4 : Int))), z0], []))
  (.ask (decide ((0 : Int) < (↑(ByteArray.size (cutP t0 { data := #[(46 : UInt8), (98 : UInt8), (115 : UInt8), (115 : UInt8)] })) : Int)))
  (.ask (byteAt (cutP t0 { data := #[(46 : UInt8), (98 : UInt8), (115 : UInt8), (115 : UInt8)] }) (0 : Int) == (46 : Int))
  (.ret (.tup [.val (.int .u8 ((4 : Int))), z0], []))
  (.ret (.tup [.val (.int .u8 ((0 : Int))), .val (.int .i64 ((3 : Int)))], [])))
  .fail))
  (.ret (.tup [.val (.int .u8 ((0 : Int))), .val (.int .i64 ((3 : Int)))], []))))))
  .fail))
  (.ask (hasP t0 { data := #[(46 : UInt8), (114 : UInt8), (111 : UInt8), (100 : UInt8), (97 : UInt8), (116 : UInt8), (97 : UInt8)] })
  (.ask (ByteArray.toList (cutP t0 { data := #[(46 : UInt8), (114 : UInt8), (111 : UInt8), (100 : UInt8), (97 : UInt8), (116 : UInt8), (97 : UInt8)] }) == ByteArray.toList { data := #[] })
  (.ret (.tup [.val (.int .u8 ((2 : Int))), z0], []))
  (.ask (decide ((0 : Int) < (↑(ByteArray.size (cutP t0 { data := #[(46 : UInt8), (114 : UInt8), (111 : UInt8), (100 : UInt8), (97 : UInt8), (116 : UInt8), (97 : UInt8)] })) : Int)))
  (.ask (byteAt (cutP t0 { data := #[(46 : UInt8), (114 : UInt8), (111 : UInt8), (100 : UInt8), (97 : UInt8), (116 : UInt8), (97 : UInt8)] }) (0 : Int) == (46 : Int))
  (.ret (.tup [.val (.int .u8 ((2 : Int))), z0], []))
  (.ask (hasP t0 { data := #[(46 : UInt8), (100 : UInt8), (97 : UInt8), (116 : UInt8), (97 : UInt8)] })
  (.ask (ByteArray.toList (cutP t0 { data := #[(46 : UInt8), (100 : UInt8), (97 : UInt8), (116 : UInt8), (97 : UInt8)] }) == ByteArray.toList { data := #[] })
  (.ret (.tup [.val (.int .u8 ((3 : Int))), z0], []))
  (.ask (decide ((0 : Int) < (↑(ByteArray.size (cutP t0 { data := #[(46 : UInt8), (100 : UInt8), (97 : UInt8), (116 : UInt8), (97 : UInt8)] })) : Int)))
  (.ask (byteAt (cutP t0 { data := #[(46 : UInt8), (100 : UInt8), (97 : UInt8), (116 : UInt8), (97 : UInt8)] }) (0 : Int) == (46 : Int))
  (.ret (.tup [.val (.int .u8 ((3 : Int))), z0], []))
  (.ask (hasP t0 { data := #[(46 : UInt8), (98 : UInt8), (115 : UInt8), (115 : UInt8)] })
  (.ask (ByteArray.toList (cutP t0 { data := #[(46 : UInt8), (98 : UInt8), (115 : UInt8), (115 : UInt8)] }) == ByteArray.toList { data := #[] })
  (.ret (.tup [.val (.int .u8 ((4 : Int))), z0], []))
  (.ask (decide ((0 : Int) < (↑(ByteArray.size (cutP t0 { data := #[(46 : UInt8), (98 : UInt8), (115 : UInt8), (115 : UInt8)] })) : Int)))
  (.ask (byteAt (cutP t0 { data := #[(46 : UInt8), (98 : UInt8), (115 : UInt8), (115 : UInt8)] }) (0 : Int) == (46 : Int))
  (.ret (.tup [.val (.int .u8 ((4 : Int))), z0], []))
  (.ret (.tup [.val (.int .u8 ((0 : Int))), .val (.int .i64 ((3 : Int)))], [])))
  .fail))
  (.ret (.tup [.val (.int .u8 ((0 : Int))), .val (.int .i64 ((3 : Int)))], []))))
  .fail))
  (.ask (hasP t0 { data := #[(46 : UInt8), (98 : UInt8), (115 : UInt8), (115 : UInt8)] })
  (.ask (ByteArray.toList (cutP t0 { data := #[(46 : UInt8), (98 : UInt8), (115 : UInt8), (115 : UInt8)] }) == ByteArray.toList { data := #[] })
  (.ret (.tup [.val (.int .u8 ((4 : Int))), z0], []))
  (.ask (decide ((0 : Int) < (↑(ByteArray.size (cutP t0 { data := #[(46 : UInt8), (98 : UInt8), (115 : UInt8), (115 : UInt8)] })) : Int)))
  (.ask (byteAt (cutP t0 { data := #[(46 : UInt8), (98 : UInt8), (115 : UInt8), (115 : UInt8)] }) (0 : Int) == (46 : Int))
  (.ret (.tup [.val (.int .u8 ((4 : Int))), z0], []))
  (.ret (.tup [.val (.int .u8 ((0 : Int))), .val (.int .i64 ((3 : Int)))], [])))
  .fail))
  (.ret (.tup [.val (.int .u8 ((0 : Int))), .val (.int .i64 ((3 : Int)))], [])))))
  .fail))
  (.ask (hasP t0 { data := #[(46 : UInt8), (100 : UInt8), (97 : UInt8), (116 : UInt8), (97 : UInt8)] })
  (.ask (ByteArray.toList (cutP t0 { data := #[(46 : UInt8), (100 : UInt8), (97 : UInt8), (116 : UInt8), (97 : UInt8)] }) == ByteArray.toList { data := #[] })
  (.ret (.tup [.val (.int .u8 ((3 : Int))), z0], []))
  (.ask (decide ((0 : Int) < (↑(ByteArray.size (cutP t0 { data := #[(46 : UInt8), (100 : UInt8), (97 : UInt8), (116 : UInt8), (97 : UInt8)] })) : Int)))
  (.ask (byteAt (cutP t0 { data := #[(46 : UInt8), (100 : UInt8), (97 : UInt8), (116 : UInt8), (97 : UInt8)] }) (0 : Int) == (46 : Int))
  (.ret (.tup [.val (.int .u8 ((3 : Int))), z0], []))
  (.ask (hasP t0 { data := #[(46 : UInt8), (98 : UInt8), (115 : UInt8), (115 : UInt8)] })
  (.ask (ByteArray.toList (cutP t0 { data := #[(46 : UInt8), (98 : UInt8), (115 : UInt8), (115 : UInt8)] }) == ByteArray.toList { data := #[] })
  (.ret (.tup [.val (.int .u8 ((4 : Int))), z0], []))
  (.ask (decide ((0 : Int) < (↑(ByteArray.size (cutP t0 { data := #[(46 : UInt8), (98 : UInt8), (115 : UInt8), (115 : UInt8)] })) : Int)))
  (.ask (byteAt (cutP t0 { data := #[(46 : UInt8), (98 : UInt8), (115 : UInt8), (115 : UInt8)] }) (0 : Int) == (46 : Int))
  (.ret (.tup [.val (.int .u8 ((4 : Int))), z0], []))
  (.ret (.tup [.val (.int .u8 ((0 : Int))), .val (.int .i64 ((3 : Int)))], [])))
  .fail))
  (.ret (.tup [.val (.int .u8 ((0 : Int))), .val (.int .i64 ((3 : Int)))], []))))
  .fail))
  (.ask (hasP t0 { data := #[(46 : UInt8), (98 : UInt8), (115 : UInt8), (115 : UInt8)] })
  (.ask (ByteArray.toList (cutP t0 { data := #[(46 : UInt8), (98 : UInt8), (115 : UInt8), (115 : UInt8)] }) == ByteArray.toList { data := #[] })
  (.ret (.tup [.val (.int .u8 ((4 : Int))), z0], []))
  (.ask (decide ((0 : Int) < (↑(ByteArray.size (cutP t0 { data := #[(46 : UInt8), (98 : UInt8), (115 : UInt8), (115 : UInt8)] })) : Int)))
  (.ask (byteAt (cutP t0 { data := #[(46 : UInt8), (98 : UInt8), (115 : UInt8), (115 : UInt8)] }) (0 : Int) == (46 : Int))
  (.ret (.tup [.val (.int .u8 ((4 : Int))), z0], []))
  (.ret (.tup [.val (.int .u8 ((0 : Int))), .val (.int .i64 ((3 : Int)))], [])))
  .fail))
  (.ret (.tup [.val (.int .u8 ((0 : Int))), .val (.int .i64 ((3 : Int)))], []))))))))
set_option maxRecDepth 100000 in
theorem kndp0 (n : Nat) (t0 : ByteArray) : exec el4 (n + 238) (117, Try.f117, 0) kndk0 (knds0 t0) = Tr.val el4 (117, Try.f117, 0) n (kndt0 t0) := by kernel_rfl
noncomputable def seck0 : List T := [.code (sub (bodyOf Try.f55) [])]
def secs0 (t0_0 : ByteArray) (t0_1 : Int) (t0_2 : List (List D)) (t0_3 : Int) : St := ⟨[(0, .agg [.val (.string t0_0), .val (.int .i64 t0_1), .arr u8s t0_2, .val (.int .i64 t0_3)])], []⟩
noncomputable def sect0 (t0_0 : ByteArray) (t0_1 : Int) (t0_2 : List (List D)) (t0_3 : Int) : Tr := (.ask (decide (t0_1 > (0 : Int)))
  (.ask (decide (t0_1 ≤ (64 : Int)))
  (.ask (pOne [handed [] (.val (.int .u64 (IntKind.wrap .u64 t0_1)))])
  (.ask (kindV t0_0 == (4 : Int))
  (.ask (kindE t0_0 != (0 : Int))
  (.ret (.val (.int .i64 ((8 : Int))), []))
  (.ask (!ones (IntKind.wrap .u64 t0_1) == (1 : Int))
  (.ret (.val (.int .i64 ((8 : Int))), []))
  (.ask ((↑(List.length t0_2) : Int) != (0 : Int))
  (.ret (.val (.int .i64 ((8 : Int))), []))
  (.ask (decide (t0_3 < (0 : Int)))
  (.ret (.val (.int .i64 ((8 : Int))), []))
  (.ask (decide (t0_3 > (4096 : Int)))
  (.ret (.val (.int .i64 ((8 : Int))), []))
  (.ret (z0, [])))))))
  (.ask (kindE t0_0 != (0 : Int))
  (.ret (.val (.int .i64 ((8 : Int))), []))
  (.ask (!ones (IntKind.wrap .u64 t0_1) == (1 : Int))
  (.ret (.val (.int .i64 ((8 : Int))), []))
  (.ask (t0_3 != (0 : Int))
  (.ret (.val (.int .i64 ((8 : Int))), []))
  (.ask (decide ((↑(List.length t0_2) : Int) > (4096 : Int)))
  (.ret (.val (.int .i64 ((8 : Int))), []))
  (.ret (z0, [])))))))
  .fail)
  (.ask (kindV t0_0 == (4 : Int))
  (.ask (kindE t0_0 != (0 : Int))
  (.ret (.val (.int .i64 ((8 : Int))), []))
  (.ret (.val (.int .i64 ((8 : Int))), [])))
  (.ask (kindE t0_0 != (0 : Int))
  (.ret (.val (.int .i64 ((8 : Int))), []))
  (.ret (.val (.int .i64 ((8 : Int))), [])))))
  (.ask (kindV t0_0 == (4 : Int))
  (.ask (kindE t0_0 != (0 : Int))
  (.ret (.val (.int .i64 ((8 : Int))), []))
  (.ret (.val (.int .i64 ((8 : Int))), [])))
  (.ask (kindE t0_0 != (0 : Int))
  (.ret (.val (.int .i64 ((8 : Int))), []))
  (.ret (.val (.int .i64 ((8 : Int))), [])))))
set_option maxRecDepth 100000 in
theorem secp0 (n : Nat) (t0_0 : ByteArray) (t0_1 : Int) (t0_2 : List (List D)) (t0_3 : Int) : exec el5 (n + 87) (55, Try.f55, 0) seck0 (secs0 t0_0 t0_1 t0_2 t0_3) = Tr.val el5 (55, Try.f55, 0) n (sect0 t0_0 t0_1 t0_2 t0_3) := by kernel_rfl
end Go.Proofs.Ytkcopbnaleiocaa.Ev
