/- The row of the law quoin/quoinlaw23.ResolveEmpty: whatever it is handed, it returns true, and what it was handed reads as before. No condition. -/
import Derived.Test.YtacfehneeanlgaaDoorRows
import Derived.Test.YtacfehneeanlgaaDoorCards
import Derived.Test.YtacfehneeanlgaaDoorTie
import Derived.Test.YtacfehneeanlgaaDoorCrd
import Derived.Test.YtacfehneeanlgaaDoorYeR
import Derived.Test.YtacfehneeanlgaaDoorArgS
import Derived.WalkKit
import Derived.ProofKit
import Derived.OpenShut
import Derived.ShutString
import Derived.ChangeOld
import Derived.Below
import Derived.SizedLaws
import Derived.Carry
import Derived.SevenTiedAt
namespace Go.Proofs.YtacfehneeanlgaaDoor.resolveEmpty
open Go.ChangeShapes Go.WideShapes Go.ChangeAt Go.RowKit Go.Proofs.YtacfehneeanlgaaDoor.Ev
open Go.ChangeMaps (open_string shut_string)
set_option linter.unusedVariables false
set_option linter.unusedSimpArgs false
theorem own : ownKnob Tryd.prog.godebug = none := by kernel_rfl
theorem laidOut : laidOutB Tryd.prog = true := by kernel_rfl
set_option maxRecDepth 100000 in
theorem lifted (os : Os) (started : os.Started) (H : Type) (enc : TypeId × Value → H) :
    ReturnsInHanded {} Tryd.checked os 7 .any (fun w args => (Rows.resolveEmptySpec.pre enc Tryd.prog Tryd.f7 [] false w args ∧ laidMetH Tryd.prog laidN w) ∧ sizedMet enc Tryd.prog Tryd.f7 (OpenSpec.ofChange Rows.resolveEmptySpec) false w args) (Rows.resolveEmptySpec.post enc Tryd.prog Tryd.f7 false true false false) := by
  refine returnsInHanded_of_change_and (C := Tryd.checked) (X := fun w _ => laidMetH Tryd.prog laidN w) (fun _ _ _ hh h => h.of_heap hh) own started (by kernel_rfl) Tryd.func7
    (ChangeSpec.witness_shaped (enc := enc) (C := Tryd.checked) (os := os) (X := fun w _ => laidMetH Tryd.prog laidN w) false (World.doorLaid Tryd.prog 400 os) #[.slice none 0 0] 8 rfl (World.shaped_of_RefB (by kernel_rfl) (by kernel_rfl)) (by kernel_rfl) (by kernel_rfl) (by kernel_rfl) (door_met os _)) ?_
  intro W base args ds gs before hval0 hW hcnd hsz0 hL _
  have hsz : (DataW.weightsEach Tryd.prog (Tryd.f7.params.toList ++ Rows.resolveEmptySpec.plain.varTypes Tryd.prog) (ds ++ gs)).all (· ≤ reachBytes) = true := hsz0
  have hval : ∀ (j : Nat) t v, Tryd.f7.params[j]? = some t → args[j]? = some v → Value.okWide Tryd.prog W .any base t v := hval0
  have hW' := hW
  obtain ⟨p, q, hA0, hV, rfl, hfz, hnd⟩ := hW
  have hA : DataW.TrodAll enc Tryd.prog W 0 (fun _ => true) true Tryd.f7.params.toList args.toList ds p := hA0
  rw [Tryd.params7] at hA hval hsz
  obtain ⟨v0, vs0, d0, ds0, p0, q0, hargs, rfl, rfl, h0, r0⟩ := trodAll_cons hA
  obtain ⟨rfl, rfl, rfl⟩ := trodAll_nil r0
  obtain rfl : args = #[v0] := by cases args; simp_all
  obtain ⟨rfl, rfl⟩ := trodVars_none hV
  obtain ⟨a0, len0, cap0, rfl⟩ := okWide_slice Tryd.underlying22 (hval 0 22 v0 rfl rfl)
  have k0 := h0
  have lt0 : ∀ x ∈ p0, x.block < W.heap.size := by obtain ⟨m, hm⟩ := k0; exact DataW.trod_lt m _ _ _ hm
  obtain ⟨x0, hx0⟩ := opened_arg (P := Tryd.prog) (j := 0) (t := 22) (cts := [.arr [(.int .i64), (.int .i64), (.arr [.str, (.int .i64), (.arr [(.int .u8)]), (.int .i64)]), (.arr [.str, (.int .u8), .bool, (.int .i64), (.int .i64), (.int .i64)]), (.arr [(.int .i64), (.int .i64), (.int .u8), (.int .i64), (.int .i64)]), (.arr [.str, (.arr [(.int .i64)])]), (.arr [.bool])]]) (by kernel_rfl) hsz rfl rfl h0
  obtain ⟨z0, g0, hr0⟩ := arg_slice (c := .slice a0 len0 cap0) rfl hx0
  clear hA0 hval0 hsz0 hsz
  refine (law_of_contract (w := W) (con_emp z0 g0) rfl (fun i v hi => ?_) (glob_of_laid hL)).mono fun e W' ⟨he, bel⟩ => ?_
  · match i with
    | 0 => simp only [List.getElem?_cons_succ, List.getElem?_cons_zero, Option.some.injEq] at hi; subst hi; exact ⟨_, rfl, hr0 _⟩
    | i + 1 => simp at hi
  subst he
  exact ⟨_, rfl, _, _, _, [], _, [], hW', trodAll_mk1 (shut_bool Tryd.underlying4 _), (trodAll_cons_mk (Below.trod laidOut (by kernel_rfl) (of_decide_eq_true (by kernel_rfl)) k0 bel lt0) trodAll_mk0), rfl, bel.frame _, fun h => by cases h⟩
theorem over : Rows.resolveEmptyRow.holds Tryd.pinned (OpenSpec.ofChange Rows.resolveEmptySpec) :=
  OpenClaim.holds_of_wide 7 Tryd.f7 rfl rfl rfl rfl rfl rfl rfl ⟨rfl, rfl, rfl, rfl, rfl⟩ rfl rfl rfl rfl rfl (by kernel_rfl) Tryd.func7 (by kernel_rfl)
    (of_decide_eq_true (by kernel_rfl)) (by unfold Func.isWrapper; first | (rw [if_pos (by decide +kernel)]; kernel_rfl) | (rw [if_neg (by decide +kernel)]; exact ⟨rfl, rfl⟩))
    (fun os started H enc _ => lifted os started H enc)
theorem card : Rows.ResolveEmptyCardSaid :=
  Claim7.holds_tied_plain_at .later [] [.data] true (true, "b242451278e3e19d738484efb391564e1daa88859dc8ffbe7648ab5359c700b9") false over (fun _ h => by cases h) (by kernel_rfl) (fun _ h => by cases h) resolveEmpty_row_tie rfl ⟨rfl, rfl⟩ (by kernel_rfl) rfl
    (fun f fn hf hfn => by
      obtain rfl : f = 7 := Option.some.inj ((show Tryd.prog.funcNamed "quoin/quoinlaw23.ResolveEmpty" = some 7 by kernel_rfl).symm.trans hf) |>.symm
      obtain rfl : fn = Tryd.f7 := (Option.some.inj (Tryd.func7.symm.trans hfn)).symm
      refine ⟨by kernel_rfl, fun j t ht => ?_⟩
      rw [Tryd.params7] at ht
      match j with
      | 0 => simp at ht; subst ht; exact (show Tryd.prog.wantsStandIn 22 = false by kernel_rfl)
      | j + 1 => simp at ht)
    (by kernel_rfl)
end Go.Proofs.YtacfehneeanlgaaDoor.resolveEmpty
namespace Go.Proofs.YtacfehneeanlgaaDoor
/-- The card, under a short name, for the claim. -/
theorem resolveEmpty_holds : Rows.ResolveEmptyCardSaid := resolveEmpty.card
#print axioms resolveEmpty_holds
end Go.Proofs.YtacfehneeanlgaaDoor
