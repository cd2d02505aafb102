/-
  No cell of these rows narrows 'for every input' (looked for: loops, veiled, ifaces, maps, wideKeys, modest, calm, conditions, laid).
  DERIVED. THE GIVEN ROWS OF THIS SEAT. 7 by the template 'for every input the law returns true; each argument reads behind the call as it read before'; 0 by the template 'total and deterministic' (their statements: YthloggdgdklgmaaTotals.lean).
  GIVEN WITH THE SEED: the statements are not yours to turn. If you find one false, say at which input.
  Laid BY PROGRAM, IN A SANDBOX (cutbox-rows.mjs): the forced cells as the released guide's own fill.sh prints them over the translation e6be7391da1cd72d… (all of the seat's roots in one cut). By AI agents, Wed Nov 11 2026. No macro, syntax, notation, axiom, sorry.
-/
import Derived.Test.YthloggdgdklgmaaChecked
import GoSem.Claim
import GoSem.ClaimJoined
import GoSem.ClaimMapViews
import Derived.JoinedTies
import Derived.KernelRfl
namespace Go.Proofs.Ythloggdgdklgmaa
/- THE CELL 'sum', in the pinned program and in every row, IS THE sha256 OF THE DUMP (.gsa) THAT YthloggdgdklgmaaProg.lean LOADS. Nothing in Lean hashes anything: it is a label: what it is worth is what the hold of that sum in a sandbox is worth. -/
noncomputable def Try.pinned : Pinned := { name := "ythloggdgdklgmaa", sum := "e6be7391da1cd72d0d322c03e305526e9f4d01f7e5a3ef64356c23fb9111f68a", checked := Try.checked }
namespace Rows
def none {H : Type} : Left H := { results := [], args := [] }

/-- 'quoinlaw25.LayoutShifts': WHATEVER THE INPUT: true; the input reads as it did. -/
def layoutShiftsSpec : ChangeSpec := { name := "layoutShifts", fn := fun _ => fun
  | [d1, d2, d3, d4] => { results := [.lit (.bool true)], args := [d1, d2, d3, d4] }
  | _ => none }
def layoutShiftsRow : OpenClaim := { program := "ythloggdgdklgmaa", sum := "e6be7391da1cd72d0d322c03e305526e9f4d01f7e5a3ef64356c23fb9111f68a", func := "quoin/quoinlaw25.LayoutShifts", spec := "layoutShifts", apart := false }
def LayoutShiftsSaid : Prop := layoutShiftsRow.holds Try.pinned (OpenSpec.ofChange layoutShiftsSpec)

/-- ITS FALSE NEIGHBOUR: 'it returns false'. Refute it at one input. -/
def layoutShiftsWrong : ChangeSpec := { name := "layoutShifts", fn := fun _ => fun
  | [d1, d2, d3, d4] => { results := [.lit (.bool false)], args := [d1, d2, d3, d4] }
  | _ => none }
def LayoutShiftsWrongFalsely : Prop := layoutShiftsRow.holds Try.pinned (OpenSpec.ofChange layoutShiftsWrong)

/-- 'quoinlaw08.StrtabOnce': WHATEVER THE INPUT: true; the input reads as it did. -/
def strtabOnceSpec : ChangeSpec := { name := "strtabOnce", fn := fun _ => fun
  | [d1, d2] => { results := [.lit (.bool true)], args := [d1, d2] }
  | _ => none }
def strtabOnceRow : OpenClaim := { program := "ythloggdgdklgmaa", sum := "e6be7391da1cd72d0d322c03e305526e9f4d01f7e5a3ef64356c23fb9111f68a", func := "quoin/quoinlaw08.StrtabOnce", spec := "strtabOnce", inPlace := ["internal/bytealg.IndexByteString"], apart := false }
def StrtabOnceSaid : Prop := strtabOnceRow.holds Try.pinned (OpenSpec.ofChange strtabOnceSpec)

/-- ITS FALSE NEIGHBOUR: 'it returns false'. Refute it at one input. -/
def strtabOnceWrong : ChangeSpec := { name := "strtabOnce", fn := fun _ => fun
  | [d1, d2] => { results := [.lit (.bool false)], args := [d1, d2] }
  | _ => none }
def StrtabOnceWrongFalsely : Prop := strtabOnceRow.holds Try.pinned (OpenSpec.ofChange strtabOnceWrong)

/-- 'quoinlaw08.StrtabNames': WHATEVER THE INPUT: true; the input reads as it did. -/
def strtabNamesSpec : ChangeSpec := { name := "strtabNames", fn := fun _ => fun
  | [] => { results := [.lit (.bool true)], args := [] }
  | _ => none }
def strtabNamesRow : OpenClaim := { program := "ythloggdgdklgmaa", sum := "e6be7391da1cd72d0d322c03e305526e9f4d01f7e5a3ef64356c23fb9111f68a", func := "quoin/quoinlaw08.StrtabNames", spec := "strtabNames", inPlace := ["internal/bytealg.IndexByte", "internal/bytealg.IndexByteString"], apart := false }
def StrtabNamesSaid : Prop := strtabNamesRow.holds Try.pinned (OpenSpec.ofChange strtabNamesSpec)

/-- ITS FALSE NEIGHBOUR: 'it returns false'. Refute it at one input. -/
def strtabNamesWrong : ChangeSpec := { name := "strtabNames", fn := fun _ => fun
  | [] => { results := [.lit (.bool false)], args := [] }
  | _ => none }
def StrtabNamesWrongFalsely : Prop := strtabNamesRow.holds Try.pinned (OpenSpec.ofChange strtabNamesWrong)

/-- 'quoinlaw08.StrtabBuilds': WHATEVER THE INPUT: true; the input reads as it did. -/
def strtabBuildsSpec : ChangeSpec := { name := "strtabBuilds", fn := fun _ => fun
  | [d1, d2, d3] => { results := [.lit (.bool true)], args := [d1, d2, d3] }
  | _ => none }
def strtabBuildsRow : OpenClaim := { program := "ythloggdgdklgmaa", sum := "e6be7391da1cd72d0d322c03e305526e9f4d01f7e5a3ef64356c23fb9111f68a", func := "quoin/quoinlaw08.StrtabBuilds", spec := "strtabBuilds", inPlace := ["internal/bytealg.IndexByteString", "internal/bytealg.IndexByte"], apart := false }
def StrtabBuildsSaid : Prop := strtabBuildsRow.holds Try.pinned (OpenSpec.ofChange strtabBuildsSpec)

/-- ITS FALSE NEIGHBOUR: 'it returns false'. Refute it at one input. -/
def strtabBuildsWrong : ChangeSpec := { name := "strtabBuilds", fn := fun _ => fun
  | [d1, d2, d3] => { results := [.lit (.bool false)], args := [d1, d2, d3] }
  | _ => none }
def StrtabBuildsWrongFalsely : Prop := strtabBuildsRow.holds Try.pinned (OpenSpec.ofChange strtabBuildsWrong)

/-- 'quoinlaw08.StrtabBack': WHATEVER THE INPUT: true; the input reads as it did. -/
def strtabBackSpec : ChangeSpec := { name := "strtabBack", fn := fun _ => fun
  | [d] => { results := [.lit (.bool true)], args := [d] }
  | _ => none }
def strtabBackRow : OpenClaim := { program := "ythloggdgdklgmaa", sum := "e6be7391da1cd72d0d322c03e305526e9f4d01f7e5a3ef64356c23fb9111f68a", func := "quoin/quoinlaw08.StrtabBack", spec := "strtabBack", inPlace := ["internal/bytealg.IndexByteString", "internal/bytealg.IndexByte"], apart := false }
def StrtabBackSaid : Prop := strtabBackRow.holds Try.pinned (OpenSpec.ofChange strtabBackSpec)

/-- ITS FALSE NEIGHBOUR: 'it returns false'. Refute it at one input. -/
def strtabBackWrong : ChangeSpec := { name := "strtabBack", fn := fun _ => fun
  | [d] => { results := [.lit (.bool false)], args := [d] }
  | _ => none }
def StrtabBackWrongFalsely : Prop := strtabBackRow.holds Try.pinned (OpenSpec.ofChange strtabBackWrong)

/-- 'quoinlaw08.StrtabReads': WHATEVER THE INPUT: true; the input reads as it did. -/
def strtabReadsSpec : ChangeSpec := { name := "strtabReads", fn := fun _ => fun
  | [d1, d2] => { results := [.lit (.bool true)], args := [d1, d2] }
  | _ => none }
def strtabReadsRow : OpenClaim := { program := "ythloggdgdklgmaa", sum := "e6be7391da1cd72d0d322c03e305526e9f4d01f7e5a3ef64356c23fb9111f68a", func := "quoin/quoinlaw08.StrtabReads", spec := "strtabReads", inPlace := ["internal/bytealg.IndexByteString", "internal/bytealg.IndexByte"], apart := false }
def StrtabReadsSaid : Prop := strtabReadsRow.holds Try.pinned (OpenSpec.ofChange strtabReadsSpec)

/-- ITS FALSE NEIGHBOUR: 'it returns false'. Refute it at one input. -/
def strtabReadsWrong : ChangeSpec := { name := "strtabReads", fn := fun _ => fun
  | [d1, d2] => { results := [.lit (.bool false)], args := [d1, d2] }
  | _ => none }
def StrtabReadsWrongFalsely : Prop := strtabReadsRow.holds Try.pinned (OpenSpec.ofChange strtabReadsWrong)

/-- 'quoinlaw08.StrtabTails': WHATEVER THE INPUT: true; the input reads as it did. -/
def strtabTailsSpec : ChangeSpec := { name := "strtabTails", fn := fun _ => fun
  | [d1, d2] => { results := [.lit (.bool true)], args := [d1, d2] }
  | _ => none }
def strtabTailsRow : OpenClaim := { program := "ythloggdgdklgmaa", sum := "e6be7391da1cd72d0d322c03e305526e9f4d01f7e5a3ef64356c23fb9111f68a", func := "quoin/quoinlaw08.StrtabTails", spec := "strtabTails", inPlace := ["internal/bytealg.IndexByteString", "internal/bytealg.IndexByte"], apart := false }
def StrtabTailsSaid : Prop := strtabTailsRow.holds Try.pinned (OpenSpec.ofChange strtabTailsSpec)

/-- ITS FALSE NEIGHBOUR: 'it returns false'. Refute it at one input. -/
def strtabTailsWrong : ChangeSpec := { name := "strtabTails", fn := fun _ => fun
  | [d1, d2] => { results := [.lit (.bool false)], args := [d1, d2] }
  | _ => none }
def StrtabTailsWrongFalsely : Prop := strtabTailsRow.holds Try.pinned (OpenSpec.ofChange strtabTailsWrong)

/- THE SECOND FORM. 'bulk': how many values and letters a reading holds, each counted each time it is reached (what is shared counts as often as it is met; a slice's spare places count too). A statement '..UptoSaid' is the law's where the arguments, and the package variables that the reading takes, are together of bulk at most 1048576: NARROWER than '..Said'. Prove '..Said' where nothing that the law and all that it calls make is longer than what came in: it says more and counts as full. Else prove '..UptoSaid'. A law counts once. -/
mutual
def uptoBulk {H : Type} : DataW H → Nat
  | .lit (.string bytes) => bytes.length + 1
  | .lit _ => 1
  | .nil => 1
  | .ptr d => uptoBulk d + 1
  | .slice elems spare => uptoBulkAll elems + uptoBulkAll spare + 1
  | .agg parts => uptoBulkAll parts + 1
  | .iface _ d => uptoBulk d + 1
  | .map entries => uptoBulkEntries entries + 1
  | .held _ => 1
def uptoBulkAll {H : Type} : List (DataW H) → Nat
  | [] => 0
  | d :: r => uptoBulk d + uptoBulkAll r
def uptoBulkEntries {H : Type} : List (Lit × DataW H) → Nat
  | [] => 0
  | x :: r => uptoBulkEntry x + uptoBulkEntries r
def uptoBulkEntry {H : Type} : Lit × DataW H → Nat
  | (.string bytes, d) => bytes.length + uptoBulk d + 1
  | (_, d) => uptoBulk d + 1
 end
def uptoSmall : (H : Type) → List (DataW H) → Bool := fun _ ds => decide (uptoBulkAll ds ≤ 1048576)
def OpenSpec.upto (s : _root_.Go.ChangeSpec) : _root_.Go.OpenSpec := { _root_.Go.OpenSpec.ofChange s with cond := some uptoSmall }

/-- 'quoinlaw25.LayoutShifts', WHERE WHAT IT READS IS OF BULK AT MOST 1048576: true; the input reads as it did. -/
def layoutShiftsUptoRow : OpenClaim := { program := "ythloggdgdklgmaa", sum := "e6be7391da1cd72d0d322c03e305526e9f4d01f7e5a3ef64356c23fb9111f68a", func := "quoin/quoinlaw25.LayoutShifts", spec := "layoutShifts", apart := false, narrowed := true }
def LayoutShiftsUptoSaid : Prop := layoutShiftsUptoRow.holds Try.pinned (OpenSpec.upto layoutShiftsSpec)

/-- 'quoinlaw08.StrtabOnce', WHERE WHAT IT READS IS OF BULK AT MOST 1048576: true; the input reads as it did. -/
def strtabOnceUptoRow : OpenClaim := { program := "ythloggdgdklgmaa", sum := "e6be7391da1cd72d0d322c03e305526e9f4d01f7e5a3ef64356c23fb9111f68a", func := "quoin/quoinlaw08.StrtabOnce", spec := "strtabOnce", inPlace := ["internal/bytealg.IndexByteString"], apart := false, narrowed := true }
def StrtabOnceUptoSaid : Prop := strtabOnceUptoRow.holds Try.pinned (OpenSpec.upto strtabOnceSpec)

/-- 'quoinlaw08.StrtabNames', WHERE WHAT IT READS IS OF BULK AT MOST 1048576: true; the input reads as it did. -/
def strtabNamesUptoRow : OpenClaim := { program := "ythloggdgdklgmaa", sum := "e6be7391da1cd72d0d322c03e305526e9f4d01f7e5a3ef64356c23fb9111f68a", func := "quoin/quoinlaw08.StrtabNames", spec := "strtabNames", inPlace := ["internal/bytealg.IndexByte", "internal/bytealg.IndexByteString"], apart := false, narrowed := true }
def StrtabNamesUptoSaid : Prop := strtabNamesUptoRow.holds Try.pinned (OpenSpec.upto strtabNamesSpec)

/-- 'quoinlaw08.StrtabBuilds', WHERE WHAT IT READS IS OF BULK AT MOST 1048576: true; the input reads as it did. -/
def strtabBuildsUptoRow : OpenClaim := { program := "ythloggdgdklgmaa", sum := "e6be7391da1cd72d0d322c03e305526e9f4d01f7e5a3ef64356c23fb9111f68a", func := "quoin/quoinlaw08.StrtabBuilds", spec := "strtabBuilds", inPlace := ["internal/bytealg.IndexByteString", "internal/bytealg.IndexByte"], apart := false, narrowed := true }
def StrtabBuildsUptoSaid : Prop := strtabBuildsUptoRow.holds Try.pinned (OpenSpec.upto strtabBuildsSpec)

/-- 'quoinlaw08.StrtabBack', WHERE WHAT IT READS IS OF BULK AT MOST 1048576: true; the input reads as it did. -/
def strtabBackUptoRow : OpenClaim := { program := "ythloggdgdklgmaa", sum := "e6be7391da1cd72d0d322c03e305526e9f4d01f7e5a3ef64356c23fb9111f68a", func := "quoin/quoinlaw08.StrtabBack", spec := "strtabBack", inPlace := ["internal/bytealg.IndexByteString", "internal/bytealg.IndexByte"], apart := false, narrowed := true }
def StrtabBackUptoSaid : Prop := strtabBackUptoRow.holds Try.pinned (OpenSpec.upto strtabBackSpec)

/-- 'quoinlaw08.StrtabReads', WHERE WHAT IT READS IS OF BULK AT MOST 1048576: true; the input reads as it did. -/
def strtabReadsUptoRow : OpenClaim := { program := "ythloggdgdklgmaa", sum := "e6be7391da1cd72d0d322c03e305526e9f4d01f7e5a3ef64356c23fb9111f68a", func := "quoin/quoinlaw08.StrtabReads", spec := "strtabReads", inPlace := ["internal/bytealg.IndexByteString", "internal/bytealg.IndexByte"], apart := false, narrowed := true }
def StrtabReadsUptoSaid : Prop := strtabReadsUptoRow.holds Try.pinned (OpenSpec.upto strtabReadsSpec)

/-- 'quoinlaw08.StrtabTails', WHERE WHAT IT READS IS OF BULK AT MOST 1048576: true; the input reads as it did. -/
def strtabTailsUptoRow : OpenClaim := { program := "ythloggdgdklgmaa", sum := "e6be7391da1cd72d0d322c03e305526e9f4d01f7e5a3ef64356c23fb9111f68a", func := "quoin/quoinlaw08.StrtabTails", spec := "strtabTails", inPlace := ["internal/bytealg.IndexByteString", "internal/bytealg.IndexByte"], apart := false, narrowed := true }
def StrtabTailsUptoSaid : Prop := strtabTailsUptoRow.holds Try.pinned (OpenSpec.upto strtabTailsSpec)

end Rows
end Go.Proofs.Ythloggdgdklgmaa
