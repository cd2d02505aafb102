/-
  No cell of these rows narrows 'for every input' (looked for: loops, veiled, ifaces, maps, wideKeys, modest, calm, conditions, laid).
  DERIVED. THE GIVEN ROWS OF THIS SEAT. 10 by the template 'for every input the law returns true; each argument reads behind the call as it read before'; 0 by the template 'total and deterministic' (their statements: YtkcopbnaleiocaaTotals.lean).
  GIVEN WITH THE SEED: the statements are not yours to turn. If you find one false, say at which input.
  Laid BY PROGRAM, IN A SANDBOX (cutbox-rows.mjs): the forced cells as the released guide's own fill.sh prints them over the translation e02607e4d68ccaeb… (all of the seat's roots in one cut). By AI agents, Wed Nov 11 2026. No macro, syntax, notation, axiom, sorry.
-/
import Derived.Test.YtkcopbnaleiocaaChecked
import GoSem.Claim
import GoSem.ClaimJoined
import GoSem.ClaimMapViews
import Derived.JoinedTies
import Derived.KernelRfl
namespace Go.Proofs.Ytkcopbnaleiocaa
/- THE CELL 'sum', in the pinned program and in every row, IS THE sha256 OF THE DUMP (.gsa) THAT YtkcopbnaleiocaaProg.lean LOADS. Nothing in Lean hashes anything: it is a label: what it is worth is what the hold of that sum in a sandbox is worth. -/
noncomputable def Try.pinned : Pinned := { name := "ytkcopbnaleiocaa", sum := "e02607e4d68ccaeb453bea756e033ff287cda073f9ab3f43801d64384a041739", checked := Try.checked }
namespace Rows
def none {H : Type} : Left H := { results := [], args := [] }

/-- 'quoinlaw28.LinkFiles': WHATEVER THE INPUT: true; the input reads as it did. -/
def linkFilesSpec : ChangeSpec := { name := "linkFiles", fn := fun _ => fun
  | [d1, d2, d3] => { results := [.lit (.bool true)], args := [d1, d2, d3] }
  | _ => none }
def linkFilesRow : OpenClaim := { program := "ytkcopbnaleiocaa", sum := "e02607e4d68ccaeb453bea756e033ff287cda073f9ab3f43801d64384a041739", func := "quoin/quoinlaw28.LinkFiles", spec := "linkFiles", inPlace := ["internal/bytealg.IndexByteString", "internal/bytealg.IndexByte"], unfollowed := true, recurses := true, apart := false }
def LinkFilesSaid : Prop := linkFilesRow.holds Try.pinned (OpenSpec.ofChange linkFilesSpec)

/-- ITS FALSE NEIGHBOUR: 'it returns false'. Refute it at one input. -/
def linkFilesWrong : ChangeSpec := { name := "linkFiles", fn := fun _ => fun
  | [d1, d2, d3] => { results := [.lit (.bool false)], args := [d1, d2, d3] }
  | _ => none }
def LinkFilesWrongFalsely : Prop := linkFilesRow.holds Try.pinned (OpenSpec.ofChange linkFilesWrong)

/-- 'quoinlaw12.ElfwNames': WHATEVER THE INPUT: true; the input reads as it did. -/
def elfwNamesSpec : ChangeSpec := { name := "elfwNames", fn := fun _ => fun
  | [] => { results := [.lit (.bool true)], args := [] }
  | _ => none }
def elfwNamesRow : OpenClaim := { program := "ytkcopbnaleiocaa", sum := "e02607e4d68ccaeb453bea756e033ff287cda073f9ab3f43801d64384a041739", func := "quoin/quoinlaw12.ElfwNames", spec := "elfwNames", inPlace := ["internal/bytealg.IndexByteString"], unfollowed := true, recurses := true, apart := false }
def ElfwNamesSaid : Prop := elfwNamesRow.holds Try.pinned (OpenSpec.ofChange elfwNamesSpec)

/-- ITS FALSE NEIGHBOUR: 'it returns false'. Refute it at one input. -/
def elfwNamesWrong : ChangeSpec := { name := "elfwNames", fn := fun _ => fun
  | [] => { results := [.lit (.bool false)], args := [] }
  | _ => none }
def ElfwNamesWrongFalsely : Prop := elfwNamesRow.holds Try.pinned (OpenSpec.ofChange elfwNamesWrong)

/-- 'quoinlaw12.ElfwParts': WHATEVER THE INPUT: true; the input reads as it did. -/
def elfwPartsSpec : ChangeSpec := { name := "elfwParts", fn := fun _ => fun
  | [d] => { results := [.lit (.bool true)], args := [d] }
  | _ => none }
def elfwPartsRow : OpenClaim := { program := "ytkcopbnaleiocaa", sum := "e02607e4d68ccaeb453bea756e033ff287cda073f9ab3f43801d64384a041739", func := "quoin/quoinlaw12.ElfwParts", spec := "elfwParts", inPlace := ["internal/bytealg.IndexByteString"], unfollowed := true, recurses := true, apart := false }
def ElfwPartsSaid : Prop := elfwPartsRow.holds Try.pinned (OpenSpec.ofChange elfwPartsSpec)

/-- ITS FALSE NEIGHBOUR: 'it returns false'. Refute it at one input. -/
def elfwPartsWrong : ChangeSpec := { name := "elfwParts", fn := fun _ => fun
  | [d] => { results := [.lit (.bool false)], args := [d] }
  | _ => none }
def ElfwPartsWrongFalsely : Prop := elfwPartsRow.holds Try.pinned (OpenSpec.ofChange elfwPartsWrong)

/-- 'quoinlaw12.ElfwApart': WHATEVER THE INPUT: true; the input reads as it did. -/
def elfwApartSpec : ChangeSpec := { name := "elfwApart", fn := fun _ => fun
  | [d1, d2] => { results := [.lit (.bool true)], args := [d1, d2] }
  | _ => none }
def elfwApartRow : OpenClaim := { program := "ytkcopbnaleiocaa", sum := "e02607e4d68ccaeb453bea756e033ff287cda073f9ab3f43801d64384a041739", func := "quoin/quoinlaw12.ElfwApart", spec := "elfwApart", inPlace := ["internal/bytealg.IndexByteString"], unfollowed := true, recurses := true, apart := false }
def ElfwApartSaid : Prop := elfwApartRow.holds Try.pinned (OpenSpec.ofChange elfwApartSpec)

/-- ITS FALSE NEIGHBOUR: 'it returns false'. Refute it at one input. -/
def elfwApartWrong : ChangeSpec := { name := "elfwApart", fn := fun _ => fun
  | [d1, d2] => { results := [.lit (.bool false)], args := [d1, d2] }
  | _ => none }
def ElfwApartWrongFalsely : Prop := elfwApartRow.holds Try.pinned (OpenSpec.ofChange elfwApartWrong)

/-- 'quoinlaw12.ElfwLess': WHATEVER THE INPUT: true; the input reads as it did. -/
def elfwLessSpec : ChangeSpec := { name := "elfwLess", fn := fun _ => fun
  | [d1, d2] => { results := [.lit (.bool true)], args := [d1, d2] }
  | _ => none }
def elfwLessRow : OpenClaim := { program := "ytkcopbnaleiocaa", sum := "e02607e4d68ccaeb453bea756e033ff287cda073f9ab3f43801d64384a041739", func := "quoin/quoinlaw12.ElfwLess", spec := "elfwLess", inPlace := ["internal/bytealg.IndexByteString"], unfollowed := true, recurses := true, apart := false }
def ElfwLessSaid : Prop := elfwLessRow.holds Try.pinned (OpenSpec.ofChange elfwLessSpec)

/-- ITS FALSE NEIGHBOUR: 'it returns false'. Refute it at one input. -/
def elfwLessWrong : ChangeSpec := { name := "elfwLess", fn := fun _ => fun
  | [d1, d2] => { results := [.lit (.bool false)], args := [d1, d2] }
  | _ => none }
def ElfwLessWrongFalsely : Prop := elfwLessRow.holds Try.pinned (OpenSpec.ofChange elfwLessWrong)

/-- 'quoinlaw22.ObjectMakes': WHATEVER THE INPUT: true; the input reads as it did. -/
def objectMakesSpec : ChangeSpec := { name := "objectMakes", fn := fun _ => fun
  | [d] => { results := [.lit (.bool true)], args := [d] }
  | _ => none }
def objectMakesRow : OpenClaim := { program := "ytkcopbnaleiocaa", sum := "e02607e4d68ccaeb453bea756e033ff287cda073f9ab3f43801d64384a041739", func := "quoin/quoinlaw22.ObjectMakes", spec := "objectMakes", unfollowed := true, recurses := true, apart := false }
def ObjectMakesSaid : Prop := objectMakesRow.holds Try.pinned (OpenSpec.ofChange objectMakesSpec)

/-- ITS FALSE NEIGHBOUR: 'it returns false'. Refute it at one input. -/
def objectMakesWrong : ChangeSpec := { name := "objectMakes", fn := fun _ => fun
  | [d] => { results := [.lit (.bool false)], args := [d] }
  | _ => none }
def ObjectMakesWrongFalsely : Prop := objectMakesRow.holds Try.pinned (OpenSpec.ofChange objectMakesWrong)

/-- 'quoinlaw13.ElfrWhole': WHATEVER THE INPUT: true; the input reads as it did. -/
def elfrWholeSpec : ChangeSpec := { name := "elfrWhole", fn := fun _ => fun
  | [d1, d2] => { results := [.lit (.bool true)], args := [d1, d2] }
  | _ => none }
def elfrWholeRow : OpenClaim := { program := "ytkcopbnaleiocaa", sum := "e02607e4d68ccaeb453bea756e033ff287cda073f9ab3f43801d64384a041739", func := "quoin/quoinlaw13.ElfrWhole", spec := "elfrWhole", inPlace := ["internal/bytealg.IndexByteString", "internal/bytealg.IndexByte"], unfollowed := true, recurses := true, apart := false }
def ElfrWholeSaid : Prop := elfrWholeRow.holds Try.pinned (OpenSpec.ofChange elfrWholeSpec)

/-- ITS FALSE NEIGHBOUR: 'it returns false'. Refute it at one input. -/
def elfrWholeWrong : ChangeSpec := { name := "elfrWhole", fn := fun _ => fun
  | [d1, d2] => { results := [.lit (.bool false)], args := [d1, d2] }
  | _ => none }
def ElfrWholeWrongFalsely : Prop := elfrWholeRow.holds Try.pinned (OpenSpec.ofChange elfrWholeWrong)

/-- 'quoinlaw13.ElfrNames': WHATEVER THE INPUT: true; the input reads as it did. -/
def elfrNamesSpec : ChangeSpec := { name := "elfrNames", fn := fun _ => fun
  | [] => { results := [.lit (.bool true)], args := [] }
  | _ => none }
def elfrNamesRow : OpenClaim := { program := "ytkcopbnaleiocaa", sum := "e02607e4d68ccaeb453bea756e033ff287cda073f9ab3f43801d64384a041739", func := "quoin/quoinlaw13.ElfrNames", spec := "elfrNames", inPlace := ["internal/bytealg.IndexByteString", "internal/bytealg.IndexByte"], unfollowed := true, recurses := true, apart := false }
def ElfrNamesSaid : Prop := elfrNamesRow.holds Try.pinned (OpenSpec.ofChange elfrNamesSpec)

/-- ITS FALSE NEIGHBOUR: 'it returns false'. Refute it at one input. -/
def elfrNamesWrong : ChangeSpec := { name := "elfrNames", fn := fun _ => fun
  | [] => { results := [.lit (.bool false)], args := [] }
  | _ => none }
def ElfrNamesWrongFalsely : Prop := elfrNamesRow.holds Try.pinned (OpenSpec.ofChange elfrNamesWrong)

/-- 'quoinlaw13.ElfrBack': WHATEVER THE INPUT: true; the input reads as it did. -/
def elfrBackSpec : ChangeSpec := { name := "elfrBack", fn := fun _ => fun
  | [d1, d2] => { results := [.lit (.bool true)], args := [d1, d2] }
  | _ => none }
def elfrBackRow : OpenClaim := { program := "ytkcopbnaleiocaa", sum := "e02607e4d68ccaeb453bea756e033ff287cda073f9ab3f43801d64384a041739", func := "quoin/quoinlaw13.ElfrBack", spec := "elfrBack", inPlace := ["internal/bytealg.IndexByteString", "internal/bytealg.IndexByte"], unfollowed := true, recurses := true, apart := false }
def ElfrBackSaid : Prop := elfrBackRow.holds Try.pinned (OpenSpec.ofChange elfrBackSpec)

/-- ITS FALSE NEIGHBOUR: 'it returns false'. Refute it at one input. -/
def elfrBackWrong : ChangeSpec := { name := "elfrBack", fn := fun _ => fun
  | [d1, d2] => { results := [.lit (.bool false)], args := [d1, d2] }
  | _ => none }
def ElfrBackWrongFalsely : Prop := elfrBackRow.holds Try.pinned (OpenSpec.ofChange elfrBackWrong)

/-- 'quoinlaw13.ElfrUnlike': WHATEVER THE INPUT: true; the input reads as it did. -/
def elfrUnlikeSpec : ChangeSpec := { name := "elfrUnlike", fn := fun _ => fun
  | [d1, d2] => { results := [.lit (.bool true)], args := [d1, d2] }
  | _ => none }
def elfrUnlikeRow : OpenClaim := { program := "ytkcopbnaleiocaa", sum := "e02607e4d68ccaeb453bea756e033ff287cda073f9ab3f43801d64384a041739", func := "quoin/quoinlaw13.ElfrUnlike", spec := "elfrUnlike", inPlace := ["internal/bytealg.IndexByteString", "internal/bytealg.IndexByte"], unfollowed := true, recurses := true, apart := false }
def ElfrUnlikeSaid : Prop := elfrUnlikeRow.holds Try.pinned (OpenSpec.ofChange elfrUnlikeSpec)

/-- ITS FALSE NEIGHBOUR: 'it returns false'. Refute it at one input. -/
def elfrUnlikeWrong : ChangeSpec := { name := "elfrUnlike", fn := fun _ => fun
  | [d1, d2] => { results := [.lit (.bool false)], args := [d1, d2] }
  | _ => none }
def ElfrUnlikeWrongFalsely : Prop := elfrUnlikeRow.holds Try.pinned (OpenSpec.ofChange elfrUnlikeWrong)

/- THE SECOND FORM. 'bulk': how many values and letters a reading holds, each counted each time it is reached (what is shared counts as often as it is met; a slice's spare places count too). A statement '..UptoSaid' is the law's where the arguments, and the package variables that the reading takes, are together of bulk at most 1048576: NARROWER than '..Said'. Prove '..Said' where nothing that the law and all that it calls make is longer than what came in: it says more and counts as full. Else prove '..UptoSaid'. A law counts once. -/
mutual
def uptoBulk {H : Type} : DataW H → Nat
  | .lit (.string bytes) => bytes.length + 1
  | .lit _ => 1
  | .nil => 1
  | .ptr d => uptoBulk d + 1
  | .slice elems spare => uptoBulkAll elems + uptoBulkAll spare + 1
  | .agg parts => uptoBulkAll parts + 1
  | .iface _ d => uptoBulk d + 1
  | .map entries => uptoBulkEntries entries + 1
  | .held _ => 1
def uptoBulkAll {H : Type} : List (DataW H) → Nat
  | [] => 0
  | d :: r => uptoBulk d + uptoBulkAll r
def uptoBulkEntries {H : Type} : List (Lit × DataW H) → Nat
  | [] => 0
  | x :: r => uptoBulkEntry x + uptoBulkEntries r
def uptoBulkEntry {H : Type} : Lit × DataW H → Nat
  | (.string bytes, d) => bytes.length + uptoBulk d + 1
  | (_, d) => uptoBulk d + 1
 end
def uptoSmall : (H : Type) → List (DataW H) → Bool := fun _ ds => decide (uptoBulkAll ds ≤ 1048576)
def OpenSpec.upto (s : _root_.Go.ChangeSpec) : _root_.Go.OpenSpec := { _root_.Go.OpenSpec.ofChange s with cond := some uptoSmall }

/-- 'quoinlaw28.LinkFiles', WHERE WHAT IT READS IS OF BULK AT MOST 1048576: true; the input reads as it did. -/
def linkFilesUptoRow : OpenClaim := { program := "ytkcopbnaleiocaa", sum := "e02607e4d68ccaeb453bea756e033ff287cda073f9ab3f43801d64384a041739", func := "quoin/quoinlaw28.LinkFiles", spec := "linkFiles", inPlace := ["internal/bytealg.IndexByteString", "internal/bytealg.IndexByte"], unfollowed := true, recurses := true, apart := false, narrowed := true }
def LinkFilesUptoSaid : Prop := linkFilesUptoRow.holds Try.pinned (OpenSpec.upto linkFilesSpec)

/-- 'quoinlaw12.ElfwNames', WHERE WHAT IT READS IS OF BULK AT MOST 1048576: true; the input reads as it did. -/
def elfwNamesUptoRow : OpenClaim := { program := "ytkcopbnaleiocaa", sum := "e02607e4d68ccaeb453bea756e033ff287cda073f9ab3f43801d64384a041739", func := "quoin/quoinlaw12.ElfwNames", spec := "elfwNames", inPlace := ["internal/bytealg.IndexByteString"], unfollowed := true, recurses := true, apart := false, narrowed := true }
def ElfwNamesUptoSaid : Prop := elfwNamesUptoRow.holds Try.pinned (OpenSpec.upto elfwNamesSpec)

/-- 'quoinlaw12.ElfwParts', WHERE WHAT IT READS IS OF BULK AT MOST 1048576: true; the input reads as it did. -/
def elfwPartsUptoRow : OpenClaim := { program := "ytkcopbnaleiocaa", sum := "e02607e4d68ccaeb453bea756e033ff287cda073f9ab3f43801d64384a041739", func := "quoin/quoinlaw12.ElfwParts", spec := "elfwParts", inPlace := ["internal/bytealg.IndexByteString"], unfollowed := true, recurses := true, apart := false, narrowed := true }
def ElfwPartsUptoSaid : Prop := elfwPartsUptoRow.holds Try.pinned (OpenSpec.upto elfwPartsSpec)

/-- 'quoinlaw12.ElfwApart', WHERE WHAT IT READS IS OF BULK AT MOST 1048576: true; the input reads as it did. -/
def elfwApartUptoRow : OpenClaim := { program := "ytkcopbnaleiocaa", sum := "e02607e4d68ccaeb453bea756e033ff287cda073f9ab3f43801d64384a041739", func := "quoin/quoinlaw12.ElfwApart", spec := "elfwApart", inPlace := ["internal/bytealg.IndexByteString"], unfollowed := true, recurses := true, apart := false, narrowed := true }
def ElfwApartUptoSaid : Prop := elfwApartUptoRow.holds Try.pinned (OpenSpec.upto elfwApartSpec)

/-- 'quoinlaw12.ElfwLess', WHERE WHAT IT READS IS OF BULK AT MOST 1048576: true; the input reads as it did. -/
def elfwLessUptoRow : OpenClaim := { program := "ytkcopbnaleiocaa", sum := "e02607e4d68ccaeb453bea756e033ff287cda073f9ab3f43801d64384a041739", func := "quoin/quoinlaw12.ElfwLess", spec := "elfwLess", inPlace := ["internal/bytealg.IndexByteString"], unfollowed := true, recurses := true, apart := false, narrowed := true }
def ElfwLessUptoSaid : Prop := elfwLessUptoRow.holds Try.pinned (OpenSpec.upto elfwLessSpec)

/-- 'quoinlaw22.ObjectMakes', WHERE WHAT IT READS IS OF BULK AT MOST 1048576: true; the input reads as it did. -/
def objectMakesUptoRow : OpenClaim := { program := "ytkcopbnaleiocaa", sum := "e02607e4d68ccaeb453bea756e033ff287cda073f9ab3f43801d64384a041739", func := "quoin/quoinlaw22.ObjectMakes", spec := "objectMakes", unfollowed := true, recurses := true, apart := false, narrowed := true }
def ObjectMakesUptoSaid : Prop := objectMakesUptoRow.holds Try.pinned (OpenSpec.upto objectMakesSpec)

/-- 'quoinlaw13.ElfrWhole', WHERE WHAT IT READS IS OF BULK AT MOST 1048576: true; the input reads as it did. -/
def elfrWholeUptoRow : OpenClaim := { program := "ytkcopbnaleiocaa", sum := "e02607e4d68ccaeb453bea756e033ff287cda073f9ab3f43801d64384a041739", func := "quoin/quoinlaw13.ElfrWhole", spec := "elfrWhole", inPlace := ["internal/bytealg.IndexByteString", "internal/bytealg.IndexByte"], unfollowed := true, recurses := true, apart := false, narrowed := true }
def ElfrWholeUptoSaid : Prop := elfrWholeUptoRow.holds Try.pinned (OpenSpec.upto elfrWholeSpec)

/-- 'quoinlaw13.ElfrNames', WHERE WHAT IT READS IS OF BULK AT MOST 1048576: true; the input reads as it did. -/
def elfrNamesUptoRow : OpenClaim := { program := "ytkcopbnaleiocaa", sum := "e02607e4d68ccaeb453bea756e033ff287cda073f9ab3f43801d64384a041739", func := "quoin/quoinlaw13.ElfrNames", spec := "elfrNames", inPlace := ["internal/bytealg.IndexByteString", "internal/bytealg.IndexByte"], unfollowed := true, recurses := true, apart := false, narrowed := true }
def ElfrNamesUptoSaid : Prop := elfrNamesUptoRow.holds Try.pinned (OpenSpec.upto elfrNamesSpec)

/-- 'quoinlaw13.ElfrBack', WHERE WHAT IT READS IS OF BULK AT MOST 1048576: true; the input reads as it did. -/
def elfrBackUptoRow : OpenClaim := { program := "ytkcopbnaleiocaa", sum := "e02607e4d68ccaeb453bea756e033ff287cda073f9ab3f43801d64384a041739", func := "quoin/quoinlaw13.ElfrBack", spec := "elfrBack", inPlace := ["internal/bytealg.IndexByteString", "internal/bytealg.IndexByte"], unfollowed := true, recurses := true, apart := false, narrowed := true }
def ElfrBackUptoSaid : Prop := elfrBackUptoRow.holds Try.pinned (OpenSpec.upto elfrBackSpec)

/-- 'quoinlaw13.ElfrUnlike', WHERE WHAT IT READS IS OF BULK AT MOST 1048576: true; the input reads as it did. -/
def elfrUnlikeUptoRow : OpenClaim := { program := "ytkcopbnaleiocaa", sum := "e02607e4d68ccaeb453bea756e033ff287cda073f9ab3f43801d64384a041739", func := "quoin/quoinlaw13.ElfrUnlike", spec := "elfrUnlike", inPlace := ["internal/bytealg.IndexByteString", "internal/bytealg.IndexByte"], unfollowed := true, recurses := true, apart := false, narrowed := true }
def ElfrUnlikeUptoSaid : Prop := elfrUnlikeUptoRow.holds Try.pinned (OpenSpec.upto elfrUnlikeSpec)

end Rows
end Go.Proofs.Ytkcopbnaleiocaa
