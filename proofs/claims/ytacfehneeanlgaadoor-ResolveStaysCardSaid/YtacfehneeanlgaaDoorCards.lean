/-
  DERIVED. GIVEN WITH THE SEED: THE CARDS: each row of YtacfehneeanlgaaDoorRows.lean that lists a variable, with what it lists TIED to the program's text (the seventh form; the later family's looks); each row that meets fmt, with fmt's text TOLD by the authors' own Lean function (tested against real Go, not proved from fmt's source: count such statements apart). THE CARD IS WHAT COUNTS. Prove the row's statement (the work); the ties are given (YtacfehneeanlgaaDoorTie.lean); close each card by the builder's one call (the guide's Derived/Test/ToyasCard.lean, 'card_holds'). Laid BY PROGRAM, IN A SANDBOX (cutbox-door.mjs). By AI agents, Wed Nov 11 2026. No macro, syntax, notation, axiom, sorry.
-/
import Derived.Test.YtacfehneeanlgaaDoorRows
import GoSem.ClaimSeven
namespace Go.Proofs.YtacfehneeanlgaaDoor
namespace Rows

/-- THE TIED CARD OF 'quoinlaw23.ResolveRight'. -/
def resolveRightCard : Claim7 := { stood := { row := resolveRightRow, standIns := [], harness := (true, "b242451278e3e19d738484efb391564e1daa88859dc8ffbe7648ab5359c700b9"), looks := false }, kinds := [], alts := [], laidByText := true, laidKinds := [.data], laidTests := true, laidLooks := .later }
def ResolveRightCardSaid : Prop := Claim7.holds Tryd.pinned (.plain (OpenSpec.ofChange resolveRightSpec)) resolveRightCard

/-- THE TIED CARD OF 'quoinlaw23.ResolveStays'. -/
def resolveStaysCard : Claim7 := { stood := { row := resolveStaysRow, standIns := [], harness := (true, "b242451278e3e19d738484efb391564e1daa88859dc8ffbe7648ab5359c700b9"), looks := false }, kinds := [], alts := [], laidByText := true, laidKinds := [.data], laidTests := true, laidLooks := .later }
def ResolveStaysCardSaid : Prop := Claim7.holds Tryd.pinned (.plain (OpenSpec.ofChange resolveStaysSpec)) resolveStaysCard

/-- THE TIED CARD OF 'quoinlaw23.ResolveNames'. -/
def resolveNamesCard : Claim7 := { stood := { row := resolveNamesRow, standIns := [], harness := (true, "b242451278e3e19d738484efb391564e1daa88859dc8ffbe7648ab5359c700b9"), looks := false }, kinds := [], alts := [], laidByText := true, laidKinds := [.data], laidTests := true, laidLooks := .later }
def ResolveNamesCardSaid : Prop := Claim7.holds Tryd.pinned (.plain (OpenSpec.ofChange resolveNamesSpec)) resolveNamesCard

/-- THE TIED CARD OF 'quoinlaw23.ResolveSucceeds'. -/
def resolveSucceedsCard : Claim7 := { stood := { row := resolveSucceedsRow, standIns := [], harness := (true, "b242451278e3e19d738484efb391564e1daa88859dc8ffbe7648ab5359c700b9"), looks := false }, kinds := [], alts := [], laidByText := true, laidKinds := [.data], laidTests := true, laidLooks := .later }
def ResolveSucceedsCardSaid : Prop := Claim7.holds Tryd.pinned (.plain (OpenSpec.ofChange resolveSucceedsSpec)) resolveSucceedsCard

/-- THE TIED CARD OF 'quoinlaw23.ResolveEmpty'. -/
def resolveEmptyCard : Claim7 := { stood := { row := resolveEmptyRow, standIns := [], harness := (true, "b242451278e3e19d738484efb391564e1daa88859dc8ffbe7648ab5359c700b9"), looks := false }, kinds := [], alts := [], laidByText := true, laidKinds := [.data], laidTests := true, laidLooks := .later }
def ResolveEmptyCardSaid : Prop := Claim7.holds Tryd.pinned (.plain (OpenSpec.ofChange resolveEmptySpec)) resolveEmptyCard

/-- THE SECOND FORM's CARD OF 'quoinlaw23.ResolveRight'. -/
def resolveRightUptoCard : Claim7 := { stood := { row := resolveRightUptoRow, standIns := [], harness := (true, "b242451278e3e19d738484efb391564e1daa88859dc8ffbe7648ab5359c700b9"), looks := false }, kinds := [], alts := [], laidByText := true, laidKinds := [.data], laidTests := true, laidLooks := .later }
def ResolveRightUptoCardSaid : Prop := Claim7.holds Tryd.pinned (.plain (OpenSpec.upto resolveRightSpec)) resolveRightUptoCard

/-- THE SECOND FORM's CARD OF 'quoinlaw23.ResolveStays'. -/
def resolveStaysUptoCard : Claim7 := { stood := { row := resolveStaysUptoRow, standIns := [], harness := (true, "b242451278e3e19d738484efb391564e1daa88859dc8ffbe7648ab5359c700b9"), looks := false }, kinds := [], alts := [], laidByText := true, laidKinds := [.data], laidTests := true, laidLooks := .later }
def ResolveStaysUptoCardSaid : Prop := Claim7.holds Tryd.pinned (.plain (OpenSpec.upto resolveStaysSpec)) resolveStaysUptoCard

/-- THE SECOND FORM's CARD OF 'quoinlaw23.ResolveNames'. -/
def resolveNamesUptoCard : Claim7 := { stood := { row := resolveNamesUptoRow, standIns := [], harness := (true, "b242451278e3e19d738484efb391564e1daa88859dc8ffbe7648ab5359c700b9"), looks := false }, kinds := [], alts := [], laidByText := true, laidKinds := [.data], laidTests := true, laidLooks := .later }
def ResolveNamesUptoCardSaid : Prop := Claim7.holds Tryd.pinned (.plain (OpenSpec.upto resolveNamesSpec)) resolveNamesUptoCard

/-- THE SECOND FORM's CARD OF 'quoinlaw23.ResolveSucceeds'. -/
def resolveSucceedsUptoCard : Claim7 := { stood := { row := resolveSucceedsUptoRow, standIns := [], harness := (true, "b242451278e3e19d738484efb391564e1daa88859dc8ffbe7648ab5359c700b9"), looks := false }, kinds := [], alts := [], laidByText := true, laidKinds := [.data], laidTests := true, laidLooks := .later }
def ResolveSucceedsUptoCardSaid : Prop := Claim7.holds Tryd.pinned (.plain (OpenSpec.upto resolveSucceedsSpec)) resolveSucceedsUptoCard

/-- THE SECOND FORM's CARD OF 'quoinlaw23.ResolveEmpty'. -/
def resolveEmptyUptoCard : Claim7 := { stood := { row := resolveEmptyUptoRow, standIns := [], harness := (true, "b242451278e3e19d738484efb391564e1daa88859dc8ffbe7648ab5359c700b9"), looks := false }, kinds := [], alts := [], laidByText := true, laidKinds := [.data], laidTests := true, laidLooks := .later }
def ResolveEmptyUptoCardSaid : Prop := Claim7.holds Tryd.pinned (.plain (OpenSpec.upto resolveEmptySpec)) resolveEmptyUptoCard
end Rows
end Go.Proofs.YtacfehneeanlgaaDoor
