/- What the row's listed variable gives the walks. -/
import Derived.Test.YtacfehneeanlgaaDoorRows
import Derived.Test.YtacfehneeanlgaaDoorLaw
import Derived.ProofKit
import Derived.LaidMore
import Derived.OpenShut
import Derived.ChangeSame
import Derived.Stop.Joined
namespace Go.Proofs.YtacfehneeanlgaaDoor.Ev
open Go.ChangeShapes Go.WideShapes Go.ChangeAt Go.RowKit Go.Proofs.YtacfehneeanlgaaDoor
set_option linter.unusedVariables false
abbrev laidN : List (String × DataW Unit) := [("quoin/resolve.nothing", Rows.laid_quoin_resolve_nothing)]
theorem gNot : Tryd.prog.globalNamed "quoin/resolve.nothing" = some 0 := by kernel_rfl
theorem tNot : (Tryd.prog.globals[0]?).map (·.type) = some 43 := by kernel_rfl
/-- The door's own heap meets the condition. -/
theorem door_met (os : Os) (args : Array Value) : laidMetH Tryd.prog laidN ((World.doorLaid Tryd.prog 400 os).forCall (fun _ _ => 0) ⟨#[], args, []⟩).memory :=
  laidMetH_of_parts3 (fuel := 8) (laidMet_of_run' 8 (by kernel_rfl) (by kernel_rfl)) (by kernel_rfl) (by kernel_rfl)
set_option maxRecDepth 100000 in
theorem glob_of_laid {W : World} (h : laidMetH Tryd.prog laidN W) : GlobOk gNone W := by
  rw [MakeChecks.laidMetH_plain _ _ _ (by kernel_rfl)] at h
  obtain ⟨ps, ⟨g0, t0, cs0, f0, p0, q0, hg0, ht0, hv0, hd0, _, _⟩, _, _⟩ := h
  obtain rfl := Option.some.inj (gNot.symm.trans hg0)
  obtain rfl := Option.some.inj (tNot.symm.trans ht0)
  obtain ⟨y0, y1, n, hx, hl, e0, e1⟩ := trod_struct2 Tryd.underlying43 hd0
  obtain ⟨a, ea, ra, _⟩ := DataW.trod_int Tryd.underlying3 e0
  obtain ⟨b, eb, rb, _⟩ := DataW.trod_int Tryd.underlying3 e1
  rw [ra, rb] at hx
  simp only [Rows.laid_quoin_resolve_nothing, Prod.mk.injEq, DataW.agg.injEq, List.cons.injEq, DataW.lit.injEq, Lit.int.injEq, true_and, and_true] at hx
  obtain ⟨⟨rfl, rfl⟩, _⟩ := hx
  have c3 : Tryd.prog.cellsOf 3 = 1 := by kernel_rfl
  have c43 : Tryd.prog.cellsOf 43 = 2 := by kernel_rfl
  obtain ⟨l0⟩ := cs0
  rw [c43] at hl
  rw [c3] at ea eb
  match l0, hl with
  | [x, y], _ =>
    simp at ea eb
    subst ea; subst eb
    have h0 := World.var?_cell hg0 hv0 0
    have h1 := World.var?_cell hg0 hv0 1
    intro z hz
    simp only [globs, List.mem_cons, List.not_mem_nil, or_false] at hz
    rcases hz with rfl | rfl
    · exact ⟨rfl, cell_lt h0, h0⟩
    · exact ⟨rfl, cell_lt h0, h1⟩
end Go.Proofs.YtacfehneeanlgaaDoor.Ev
