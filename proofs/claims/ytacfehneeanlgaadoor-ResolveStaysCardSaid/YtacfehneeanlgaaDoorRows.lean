/-
  NARROWER THAN 'FOR EVERY INPUT', by the rows' own cells (each row's printed sentence says how): ResolveRight: laid · ResolveStays: laid · ResolveNames: laid · ResolveSucceeds: laid · ResolveEmpty: laid.
  DERIVED. THE GIVEN ROWS OF THIS SEAT. 5 by the template 'for every input the law returns true; each argument reads behind the call as it read before'; 0 by the template 'total and deterministic' (their statements: YtacfehneeanlgaaDoorTotals.lean).
  GIVEN WITH THE SEED: the statements are not yours to turn. If you find one false, say at which input.
  Laid BY PROGRAM, IN A SANDBOX (cutbox-rows.mjs): the forced cells as the released guide's own fill.sh prints them over the translation 04eb35d8f42d986c… (all of the seat's roots in one cut). By AI agents, Wed Nov 11 2026. No macro, syntax, notation, axiom, sorry.
-/
import Derived.Test.YtacfehneeanlgaaDoorChecked
import GoSem.Claim
import GoSem.ClaimJoined
import GoSem.ClaimMapViews
import Derived.JoinedTies
import Derived.KernelRfl
namespace Go.Proofs.YtacfehneeanlgaaDoor
/- THE CELL 'sum', in the pinned program and in every row, IS THE sha256 OF THE DUMP (.gsa) THAT YtacfehneeanlgaaDoorProg.lean LOADS. Nothing in Lean hashes anything: it is a label: what it is worth is what the hold of that sum in a sandbox is worth. -/
noncomputable def Tryd.pinned : Pinned := { name := "ytacfehneeanlgaadoor", sum := "04eb35d8f42d986cfd6b571c01072a11de9e635cca7072e69aab33a009d83698", checked := Tryd.checked }
namespace Rows
def none {H : Type} : Left H := { results := [], args := [] }

/- WHAT THE LISTED PACKAGE-LEVEL VARIABLES READ AS WHEN THE CALL BEGINS. Each datum BY PROGRAM (the guide's laid-datum.mjs) off the statement by which the dump's own 'gosem.cut.vars' lays the variable. In a bare row this is a premise. The card (YtacfehneeanlgaaDoorCards.lean) ties it to the program's text. -/
def laid_quoin_resolve_nothing {H : Type} : DataW H := .agg [.lit (.int .i64 (-1)), .lit (.int .i64 (-1))]

/-- 'quoinlaw23.ResolveRight': WHATEVER THE INPUT: true; the input reads as it did. -/
def resolveRightSpec : ChangeSpec := { name := "resolveRight", fn := fun _ => fun
  | [d] => { results := [.lit (.bool true)], args := [d] }
  | _ => none }
def resolveRightRow : OpenClaim := { program := "ytacfehneeanlgaadoor", sum := "04eb35d8f42d986cfd6b571c01072a11de9e635cca7072e69aab33a009d83698", func := "quoin/quoinlaw23.ResolveRight", spec := "resolveRight", unfollowed := true, recurses := true, named := ["quoin/resolve.nothing"], apart := false, laid := [("quoin/resolve.nothing", laid_quoin_resolve_nothing)] }
def ResolveRightSaid : Prop := resolveRightRow.holds Tryd.pinned (OpenSpec.ofChange resolveRightSpec)

/-- ITS FALSE NEIGHBOUR: 'it returns false'. Refute it at one input. -/
def resolveRightWrong : ChangeSpec := { name := "resolveRight", fn := fun _ => fun
  | [d] => { results := [.lit (.bool false)], args := [d] }
  | _ => none }
def ResolveRightWrongFalsely : Prop := resolveRightRow.holds Tryd.pinned (OpenSpec.ofChange resolveRightWrong)

/-- 'quoinlaw23.ResolveStays': WHATEVER THE INPUT: true; the input reads as it did. -/
def resolveStaysSpec : ChangeSpec := { name := "resolveStays", fn := fun _ => fun
  | [d1, d2] => { results := [.lit (.bool true)], args := [d1, d2] }
  | _ => none }
def resolveStaysRow : OpenClaim := { program := "ytacfehneeanlgaadoor", sum := "04eb35d8f42d986cfd6b571c01072a11de9e635cca7072e69aab33a009d83698", func := "quoin/quoinlaw23.ResolveStays", spec := "resolveStays", unfollowed := true, recurses := true, named := ["quoin/resolve.nothing"], apart := false, laid := [("quoin/resolve.nothing", laid_quoin_resolve_nothing)] }
def ResolveStaysSaid : Prop := resolveStaysRow.holds Tryd.pinned (OpenSpec.ofChange resolveStaysSpec)

/-- ITS FALSE NEIGHBOUR: 'it returns false'. Refute it at one input. -/
def resolveStaysWrong : ChangeSpec := { name := "resolveStays", fn := fun _ => fun
  | [d1, d2] => { results := [.lit (.bool false)], args := [d1, d2] }
  | _ => none }
def ResolveStaysWrongFalsely : Prop := resolveStaysRow.holds Tryd.pinned (OpenSpec.ofChange resolveStaysWrong)

/-- 'quoinlaw23.ResolveNames': WHATEVER THE INPUT: true; the input reads as it did. -/
def resolveNamesSpec : ChangeSpec := { name := "resolveNames", fn := fun _ => fun
  | [] => { results := [.lit (.bool true)], args := [] }
  | _ => none }
def resolveNamesRow : OpenClaim := { program := "ytacfehneeanlgaadoor", sum := "04eb35d8f42d986cfd6b571c01072a11de9e635cca7072e69aab33a009d83698", func := "quoin/quoinlaw23.ResolveNames", spec := "resolveNames", unfollowed := true, recurses := true, named := ["quoin/resolve.nothing"], apart := false, laid := [("quoin/resolve.nothing", laid_quoin_resolve_nothing)] }
def ResolveNamesSaid : Prop := resolveNamesRow.holds Tryd.pinned (OpenSpec.ofChange resolveNamesSpec)

/-- ITS FALSE NEIGHBOUR: 'it returns false'. Refute it at one input. -/
def resolveNamesWrong : ChangeSpec := { name := "resolveNames", fn := fun _ => fun
  | [] => { results := [.lit (.bool false)], args := [] }
  | _ => none }
def ResolveNamesWrongFalsely : Prop := resolveNamesRow.holds Tryd.pinned (OpenSpec.ofChange resolveNamesWrong)

/-- 'quoinlaw23.ResolveSucceeds': WHATEVER THE INPUT: true; the input reads as it did. -/
def resolveSucceedsSpec : ChangeSpec := { name := "resolveSucceeds", fn := fun _ => fun
  | [d] => { results := [.lit (.bool true)], args := [d] }
  | _ => none }
def resolveSucceedsRow : OpenClaim := { program := "ytacfehneeanlgaadoor", sum := "04eb35d8f42d986cfd6b571c01072a11de9e635cca7072e69aab33a009d83698", func := "quoin/quoinlaw23.ResolveSucceeds", spec := "resolveSucceeds", unfollowed := true, recurses := true, named := ["quoin/resolve.nothing"], apart := false, laid := [("quoin/resolve.nothing", laid_quoin_resolve_nothing)] }
def ResolveSucceedsSaid : Prop := resolveSucceedsRow.holds Tryd.pinned (OpenSpec.ofChange resolveSucceedsSpec)

/-- ITS FALSE NEIGHBOUR: 'it returns false'. Refute it at one input. -/
def resolveSucceedsWrong : ChangeSpec := { name := "resolveSucceeds", fn := fun _ => fun
  | [d] => { results := [.lit (.bool false)], args := [d] }
  | _ => none }
def ResolveSucceedsWrongFalsely : Prop := resolveSucceedsRow.holds Tryd.pinned (OpenSpec.ofChange resolveSucceedsWrong)

/-- 'quoinlaw23.ResolveEmpty': WHATEVER THE INPUT: true; the input reads as it did. -/
def resolveEmptySpec : ChangeSpec := { name := "resolveEmpty", fn := fun _ => fun
  | [d] => { results := [.lit (.bool true)], args := [d] }
  | _ => none }
def resolveEmptyRow : OpenClaim := { program := "ytacfehneeanlgaadoor", sum := "04eb35d8f42d986cfd6b571c01072a11de9e635cca7072e69aab33a009d83698", func := "quoin/quoinlaw23.ResolveEmpty", spec := "resolveEmpty", unfollowed := true, recurses := true, named := ["quoin/resolve.nothing"], apart := false, laid := [("quoin/resolve.nothing", laid_quoin_resolve_nothing)] }
def ResolveEmptySaid : Prop := resolveEmptyRow.holds Tryd.pinned (OpenSpec.ofChange resolveEmptySpec)

/-- ITS FALSE NEIGHBOUR: 'it returns false'. Refute it at one input. -/
def resolveEmptyWrong : ChangeSpec := { name := "resolveEmpty", fn := fun _ => fun
  | [d] => { results := [.lit (.bool false)], args := [d] }
  | _ => none }
def ResolveEmptyWrongFalsely : Prop := resolveEmptyRow.holds Tryd.pinned (OpenSpec.ofChange resolveEmptyWrong)

/- THE SECOND FORM. 'bulk': how many values and letters a reading holds, each counted each time it is reached (what is shared counts as often as it is met; a slice's spare places count too). A statement '..UptoSaid' is the law's where the arguments, and the package variables that the reading takes, are together of bulk at most 1048576: NARROWER than '..Said'. Prove '..Said' where nothing that the law and all that it calls make is longer than what came in: it says more and counts as full. Else prove '..UptoSaid'. A law counts once. -/
mutual
def uptoBulk {H : Type} : DataW H → Nat
  | .lit (.string bytes) => bytes.length + 1
  | .lit _ => 1
  | .nil => 1
  | .ptr d => uptoBulk d + 1
  | .slice elems spare => uptoBulkAll elems + uptoBulkAll spare + 1
  | .agg parts => uptoBulkAll parts + 1
  | .iface _ d => uptoBulk d + 1
  | .map entries => uptoBulkEntries entries + 1
  | .held _ => 1
def uptoBulkAll {H : Type} : List (DataW H) → Nat
  | [] => 0
  | d :: r => uptoBulk d + uptoBulkAll r
def uptoBulkEntries {H : Type} : List (Lit × DataW H) → Nat
  | [] => 0
  | x :: r => uptoBulkEntry x + uptoBulkEntries r
def uptoBulkEntry {H : Type} : Lit × DataW H → Nat
  | (.string bytes, d) => bytes.length + uptoBulk d + 1
  | (_, d) => uptoBulk d + 1
 end
def uptoSmall : (H : Type) → List (DataW H) → Bool := fun _ ds => decide (uptoBulkAll ds ≤ 1048576)
def OpenSpec.upto (s : _root_.Go.ChangeSpec) : _root_.Go.OpenSpec := { _root_.Go.OpenSpec.ofChange s with cond := some uptoSmall }

/-- 'quoinlaw23.ResolveRight', WHERE WHAT IT READS IS OF BULK AT MOST 1048576: true; the input reads as it did. -/
def resolveRightUptoRow : OpenClaim := { program := "ytacfehneeanlgaadoor", sum := "04eb35d8f42d986cfd6b571c01072a11de9e635cca7072e69aab33a009d83698", func := "quoin/quoinlaw23.ResolveRight", spec := "resolveRight", unfollowed := true, recurses := true, named := ["quoin/resolve.nothing"], apart := false, laid := [("quoin/resolve.nothing", laid_quoin_resolve_nothing)], narrowed := true }
def ResolveRightUptoSaid : Prop := resolveRightUptoRow.holds Tryd.pinned (OpenSpec.upto resolveRightSpec)

/-- 'quoinlaw23.ResolveStays', WHERE WHAT IT READS IS OF BULK AT MOST 1048576: true; the input reads as it did. -/
def resolveStaysUptoRow : OpenClaim := { program := "ytacfehneeanlgaadoor", sum := "04eb35d8f42d986cfd6b571c01072a11de9e635cca7072e69aab33a009d83698", func := "quoin/quoinlaw23.ResolveStays", spec := "resolveStays", unfollowed := true, recurses := true, named := ["quoin/resolve.nothing"], apart := false, laid := [("quoin/resolve.nothing", laid_quoin_resolve_nothing)], narrowed := true }
def ResolveStaysUptoSaid : Prop := resolveStaysUptoRow.holds Tryd.pinned (OpenSpec.upto resolveStaysSpec)

/-- 'quoinlaw23.ResolveNames', WHERE WHAT IT READS IS OF BULK AT MOST 1048576: true; the input reads as it did. -/
def resolveNamesUptoRow : OpenClaim := { program := "ytacfehneeanlgaadoor", sum := "04eb35d8f42d986cfd6b571c01072a11de9e635cca7072e69aab33a009d83698", func := "quoin/quoinlaw23.ResolveNames", spec := "resolveNames", unfollowed := true, recurses := true, named := ["quoin/resolve.nothing"], apart := false, laid := [("quoin/resolve.nothing", laid_quoin_resolve_nothing)], narrowed := true }
def ResolveNamesUptoSaid : Prop := resolveNamesUptoRow.holds Tryd.pinned (OpenSpec.upto resolveNamesSpec)

/-- 'quoinlaw23.ResolveSucceeds', WHERE WHAT IT READS IS OF BULK AT MOST 1048576: true; the input reads as it did. -/
def resolveSucceedsUptoRow : OpenClaim := { program := "ytacfehneeanlgaadoor", sum := "04eb35d8f42d986cfd6b571c01072a11de9e635cca7072e69aab33a009d83698", func := "quoin/quoinlaw23.ResolveSucceeds", spec := "resolveSucceeds", unfollowed := true, recurses := true, named := ["quoin/resolve.nothing"], apart := false, laid := [("quoin/resolve.nothing", laid_quoin_resolve_nothing)], narrowed := true }
def ResolveSucceedsUptoSaid : Prop := resolveSucceedsUptoRow.holds Tryd.pinned (OpenSpec.upto resolveSucceedsSpec)

/-- 'quoinlaw23.ResolveEmpty', WHERE WHAT IT READS IS OF BULK AT MOST 1048576: true; the input reads as it did. -/
def resolveEmptyUptoRow : OpenClaim := { program := "ytacfehneeanlgaadoor", sum := "04eb35d8f42d986cfd6b571c01072a11de9e635cca7072e69aab33a009d83698", func := "quoin/quoinlaw23.ResolveEmpty", spec := "resolveEmpty", unfollowed := true, recurses := true, named := ["quoin/resolve.nothing"], apart := false, laid := [("quoin/resolve.nothing", laid_quoin_resolve_nothing)], narrowed := true }
def ResolveEmptyUptoSaid : Prop := resolveEmptyUptoRow.holds Tryd.pinned (OpenSpec.upto resolveEmptySpec)

end Rows
end Go.Proofs.YtacfehneeanlgaaDoor
