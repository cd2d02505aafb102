/- The row of the law quoin/quoinlaw12.ElfwApart: whatever it is handed, it returns true, and what it was handed reads as before. No condition. -/
import Derived.Test.YtkcopbnaleiocaaRows
import Derived.Test.YtkcopbnaleiocaaRvC
import Derived.Test.YtkcopbnaleiocaaArgS
import Derived.WalkKit
import Derived.ProofKit
import Derived.OpenShut
import Derived.ShutString
import Derived.ChangeOld
import Derived.Below
import Derived.SizedLaws
import Derived.Carry
namespace Go.Proofs.Ytkcopbnaleiocaa.elfwApart
open Go.ChangeShapes Go.WideShapes Go.ChangeAt Go.RowKit Go.Proofs.Ytkcopbnaleiocaa.Ev
open Go.ChangeMaps (open_string shut_string)
set_option linter.unusedVariables false
set_option linter.unusedSimpArgs false
theorem own : ownKnob Try.prog.godebug = none := by kernel_rfl
theorem laidOut : laidOutB Try.prog = true := by kernel_rfl
set_option maxRecDepth 100000 in
theorem lifted (os : Os) (started : os.Started) (H : Type) (enc : TypeId × Value → H) :
    ReturnsInHanded {} Try.checked os 6 .any (Rows.elfwApartSpec.pre6 enc Try.prog Try.f6 Rows.elfwApartRow.domain false) (Rows.elfwApartSpec.post enc Try.prog Try.f6 false true false false) := by
  refine returnsInHanded_of_change_sized (C := Try.checked) own started (by kernel_rfl) Try.func6
    (ChangeSpec.witness6 (enc := enc) (C := Try.checked) false ⟨#[], #[.agg #[.slice none 0 0, .slice none 0 0, .slice none 0 0, .slice none 0 0], .agg #[.slice none 0 0, .slice none 0 0, .slice none 0 0, .slice none 0 0]], []⟩ 8 (by kernel_rfl) (by kernel_rfl) (by kernel_rfl) (by kernel_rfl)) ?_
  intro W base args ds gs before hval0 hW hcnd hsz0 _
  have hsz : (DataW.weightsEach Try.prog (Try.f6.params.toList ++ Rows.elfwApartSpec.plain.varTypes Try.prog) (ds ++ gs)).all (· ≤ reachBytes) = true := hsz0
  have hval : ∀ (j : Nat) t v, Try.f6.params[j]? = some t → args[j]? = some v → Value.okWide Try.prog W .any base t v := hval0
  have hW' := hW
  obtain ⟨p, q, hA0, hV, rfl, hfz, hnd⟩ := hW
  have hA : DataW.TrodAll enc Try.prog W 0 (fun _ => true) true Try.f6.params.toList args.toList ds p := hA0
  rw [Try.params6] at hA hval hsz
  obtain ⟨v0, vs0, d0, ds0, p0, q0, hargs, rfl, rfl, h0, r0⟩ := trodAll_cons hA
  obtain ⟨v1, vs1, d1, ds1, p1, q1, rfl, rfl, rfl, h1, r1⟩ := trodAll_cons r0
  obtain ⟨rfl, rfl, rfl⟩ := trodAll_nil r1
  obtain rfl : args = #[v0, v1] := by cases args; simp_all
  obtain ⟨rfl, rfl⟩ := trodVars_none hV
  obtain ⟨a0, rfl, _⟩ := okWide_struct Try.underlying49 (hval 0 49 v0 rfl rfl)
  have k0 := h0
  have lt0 : ∀ x ∈ p0, x.block < W.heap.size := by obtain ⟨m, hm⟩ := k0; exact DataW.trod_lt m _ _ _ hm
  obtain ⟨x0, hx0⟩ := opened_arg (P := Try.prog) (j := 0) (t := 49) (cts := [(.arr [.str, (.int .i64), (.arr [(.int .u8)]), (.int .i64)]), (.arr [.str, (.int .u8), .bool, (.int .i64), (.int .i64), (.int .i64)]), (.arr [(.int .i64), (.int .i64), (.int .u8), (.int .i64), (.int .i64)]), (.arr [.str, (.arr [(.int .i64)])])]) (by kernel_rfl) hsz rfl rfl h0
  obtain ⟨s0, y0, l0, g0, gs0, gy0, gl0, gg0, hr0⟩ := arg_obj (cs := a0) hx0
  obtain ⟨a1, rfl, _⟩ := okWide_struct Try.underlying49 (hval 1 49 v1 rfl rfl)
  have k1 := h1
  have lt1 : ∀ x ∈ p1, x.block < W.heap.size := by obtain ⟨m, hm⟩ := k1; exact DataW.trod_lt m _ _ _ hm
  obtain ⟨x1, hx1⟩ := opened_arg (P := Try.prog) (j := 1) (t := 49) (cts := [(.arr [.str, (.int .i64), (.arr [(.int .u8)]), (.int .i64)]), (.arr [.str, (.int .u8), .bool, (.int .i64), (.int .i64), (.int .i64)]), (.arr [(.int .i64), (.int .i64), (.int .u8), (.int .i64), (.int .i64)]), (.arr [.str, (.arr [(.int .i64)])])]) (by kernel_rfl) hsz rfl rfl h1
  obtain ⟨s1, y1, l1, g1, gs1, gy1, gl1, gg1, hr1⟩ := arg_obj (cs := a1) hx1
  clear hA0 hval0 hsz0 hsz
  refine (law_of_contract (w := W) (con_apa s0 y0 l0 g0 s1 y1 l1 g1 ⟨gs0, gy0, gl0, gg0⟩ ⟨gs1, gy1, gl1, gg1⟩) rfl (fun i v hi => ?_)).mono fun e W' ⟨he, bel⟩ => ?_
  · match i with
    | 0 => simp only [List.getElem?_cons_succ, List.getElem?_cons_zero, Option.some.injEq] at hi; subst hi; exact ⟨_, rfl, hr0 _⟩
    | 1 => simp only [List.getElem?_cons_succ, List.getElem?_cons_zero, Option.some.injEq] at hi; subst hi; exact ⟨_, rfl, hr1 _⟩
    | i + 2 => simp at hi
  subst he
  exact ⟨_, rfl, _, _, _, [], _, [], hW', trodAll_mk1 (shut_bool Try.underlying4 _), (trodAll_cons_mk (Below.trod laidOut (by kernel_rfl) (of_decide_eq_true (by kernel_rfl)) k0 bel lt0) (trodAll_cons_mk (Below.trod laidOut (by kernel_rfl) (of_decide_eq_true (by kernel_rfl)) k1 bel lt1) trodAll_mk0)), rfl, bel.frame _, fun h => by cases h⟩
theorem over : Rows.elfwApartRow.holds Try.pinned (OpenSpec.ofChange Rows.elfwApartSpec) :=
  OpenClaim.holds_of_wide 6 Try.f6 rfl rfl rfl rfl rfl rfl rfl ⟨rfl, rfl, rfl, rfl, rfl⟩ rfl rfl rfl rfl rfl (by kernel_rfl) Try.func6 (by kernel_rfl)
    (of_decide_eq_true (by kernel_rfl)) (by unfold Func.isWrapper; first | (rw [if_pos (by decide +kernel)]; kernel_rfl) | (rw [if_neg (by decide +kernel)]; exact ⟨rfl, rfl⟩))
    (fun os started H enc _ => lifted os started H enc)
theorem proved : Rows.ElfwApartSaid := over
#print axioms proved
end Go.Proofs.Ytkcopbnaleiocaa.elfwApart
namespace Go.Proofs.Ytkcopbnaleiocaa
/-- The row, under a short name, for the claim. -/
theorem elfwApart_holds : Rows.ElfwApartSaid := elfwApart.proved
end Go.Proofs.Ytkcopbnaleiocaa
