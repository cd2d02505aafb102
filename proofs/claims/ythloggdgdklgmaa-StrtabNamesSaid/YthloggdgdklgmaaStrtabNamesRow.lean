/- The row of the law quoin/quoinlaw08.StrtabNames: it returns true. No argument, no condition. -/
import Derived.Test.YthloggdgdklgmaaRows
import Derived.Test.YthloggdgdklgmaaInfo
import Derived.WalkKit
import Derived.ProofKit
import Derived.OpenShut
import Derived.ShutString
import Derived.ChangeOld
import Derived.Below
import Derived.SizedLaws
import Derived.Carry
namespace Go.Proofs.Ythloggdgdklgmaa.strtabNames
open Go.ChangeShapes Go.WideShapes Go.ChangeAt Go.RowKit Go.Proofs.Ythloggdgdklgmaa.Ev
set_option linter.unusedVariables false
theorem own : ownKnob Try.prog.godebug = none := by kernel_rfl
def ent (f : Nat) : Option (List V → Option Value) := if f = 28 ∨ f = 30 then some indexByteE else none
theorem info_ok : InfoOk Try.prog (infoWith Try.prog (fun _ => none) ent keepOf) := infoWith_ok _ _ _ _ (by kernel_rfl)
theorem ext_ok : ExtOk Try.prog (infoWith Try.prog (fun _ => none) ent keepOf) where
  ext := fun f e vs outs r h => by cases h
  entry := fun f e vs c h hc => by
    have h' : ent f = some e := h
    unfold ent at h'
    split at h'
    · rename_i hf
      cases h'
      rcases hf with rfl | rfl
      · exact indexByte_entry Try.func28 (by kernel_rfl) (by kernel_rfl) (by kernel_rfl) (by kernel_rfl) hc
      · exact indexByte_entry Try.func30 (by kernel_rfl) (by kernel_rfl) (by kernel_rfl) (by kernel_rfl) hc
    · cases h'
set_option maxRecDepth 100000 in
/-- What it computes. -/
theorem eval : call (infoWith Try.prog (fun _ => none) ent keepOf) 100000 5 [] [] = some (.val (.bool true), []) := by kernel_rfl
set_option maxRecDepth 100000 in
theorem lifted (os : Os) (started : os.Started) (H : Type) (enc : TypeId × Value → H) :
    ReturnsInHanded {} Try.checked os 5 .any (Rows.strtabNamesSpec.pre6 enc Try.prog Try.f5 Rows.strtabNamesRow.domain false) (Rows.strtabNamesSpec.post enc Try.prog Try.f5 false true false false) := by
  refine returnsInHanded_of_change_sized (C := Try.checked) own started (by kernel_rfl) Try.func5
    (ChangeSpec.witness6 (enc := enc) (C := Try.checked) false ⟨#[], #[], []⟩ 8 (by kernel_rfl) (by kernel_rfl) (by kernel_rfl) (by kernel_rfl)) ?_
  intro W base args ds gs before hval0 hW hcnd hsz0 _
  have hW' := hW
  obtain ⟨p, q, hA0, hV, rfl, hfz, hnd⟩ := hW
  have hA : DataW.TrodAll enc Try.prog W 0 (fun _ => true) true Try.f5.params.toList args.toList ds p := hA0
  rw [Try.params5] at hA
  obtain ⟨hargs, rfl, rfl⟩ := trodAll_nil hA
  obtain rfl : args = #[] := by cases args; simp_all
  obtain ⟨rfl, rfl⟩ := trodVars_none hV
  clear hA0 hval0 hsz0
  refine (law info_ok ext_ok (w := W) (cargs := #[]) eval rfl (fun i v h => by simp at h)).mono fun e W' ⟨he, bel⟩ => ?_
  subst he
  exact ⟨_, rfl, _, _, _, [], _, [], hW', trodAll_mk1 (shut_bool Try.underlying4 _), trodAll_mk0, rfl, bel.frame _, fun h => by cases h⟩
theorem over : Rows.strtabNamesRow.holds Try.pinned (OpenSpec.ofChange Rows.strtabNamesSpec) :=
  OpenClaim.holds_of_wide 5 Try.f5 rfl rfl rfl rfl rfl rfl rfl ⟨rfl, rfl, rfl, rfl, rfl⟩ rfl rfl rfl rfl rfl (by kernel_rfl) Try.func5 (by kernel_rfl)
    (of_decide_eq_true (by kernel_rfl)) (by unfold Func.isWrapper; first | (rw [if_pos (by decide +kernel)]; kernel_rfl) | (rw [if_neg (by decide +kernel)]; exact ⟨rfl, rfl⟩))
    (fun os started H enc _ => lifted os started H enc)
theorem proved : Rows.StrtabNamesSaid := over
#print axioms proved
end Go.Proofs.Ythloggdgdklgmaa.strtabNames
namespace Go.Proofs.Ythloggdgdklgmaa
/-- The row, under a short name, for the claim. -/
theorem strtabNames_holds : Rows.StrtabNamesSaid := strtabNames.proved
end Go.Proofs.Ythloggdgdklgmaa
