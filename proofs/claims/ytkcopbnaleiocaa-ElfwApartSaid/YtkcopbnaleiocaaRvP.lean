/- What the pieces of the runs come to, as a program printed it: each is checked by the kernel. -/
import Derived.Test.YtkcopbnaleiocaaLkD
namespace Go.Proofs.Ytkcopbnaleiocaa.Ev
open Go
set_option linter.unusedVariables false
noncomputable def apak0 : List T := [.code (sub (bodyOf Try.f6) [])]
def apas0 (t0_0 t0_1 t0_2 t0_3 t1_0 t1_1 t1_2 t1_3 : List (List D)) : St := ⟨[(0, .agg [.arr secC t0_0, .arr symC t0_1, .arr relC t0_2, .arr grpC t0_3]), (1, .agg [.arr secC t1_0, .arr symC t1_1, .arr relC t1_2, .arr grpC t1_3])], []⟩
noncomputable def apat0 (t0_0 t0_1 t0_2 t0_3 t1_0 t1_1 t1_2 t1_3 : List (List D)) : Tr := (.ask (greatB t0_0 t0_1 t0_2 t0_3)
  (.ret (.val (.bool (true)), []))
  (.ask (greatB t1_0 t1_1 t1_2 t1_3)
  (.ret (.val (.bool (true)), []))
  (.ask (pWrt [normV (.ag [some secC, some symC, some relC, some grpC]) (handed [] (.agg [V.arr secC t0_0, V.arr symC t0_1, V.arr relC t0_2, V.arr grpC t0_3]))])
  (.ask (pWrt [normV (.ag [some secC, some symC, some relC, some grpC]) (handed [] (.agg [V.arr secC t1_0, V.arr symC t1_1, V.arr relC t1_2, V.arr grpC t1_3]))])
  (.ask (wrE t0_0 t0_1 t0_2 t0_3 != (0 : Int))
  (.ret (.val (.bool (true)), []))
  (.ask (wrE t1_0 t1_1 t1_2 t1_3 != (0 : Int))
  (.ret (.val (.bool (true)), []))
  (.ask (Info.pre lk1i (29 : Nat) [handed [] (.agg [V.arr secC t0_0, V.arr symC t0_1, V.arr relC t0_2, V.arr grpC t0_3]), handed [] (.agg [V.arr secC t1_0, V.arr symC t1_1, V.arr relC t1_2, V.arr grpC t1_3])] [])
  (.ret (.val (.bool ((ByteArray.toList (rowBytes (wrV t0_0 t0_1 t0_2 t0_3)) == ByteArray.toList (rowBytes (wrV t1_0 t1_1 t1_2 t1_3))) == sameO t0_0 t0_1 t0_2 t0_3 t1_0 t1_1 t1_2 t1_3)), []))
  .fail)))
  .fail)
  .fail)))
set_option maxRecDepth 100000 in
theorem apap0 (n : Nat) (t0_0 t0_1 t0_2 t0_3 t1_0 t1_1 t1_2 t1_3 : List (List D)) : exec lk1i (n + 80) (6, Try.f6, 0) apak0 (apas0 t0_0 t0_1 t0_2 t0_3 t1_0 t1_1 t1_2 t1_3) = Tr.val lk1i (6, Try.f6, 0) n (apat0 t0_0 t0_1 t0_2 t0_3 t1_0 t1_1 t1_2 t1_3) := by kernel_rfl
end Go.Proofs.Ytkcopbnaleiocaa.Ev
