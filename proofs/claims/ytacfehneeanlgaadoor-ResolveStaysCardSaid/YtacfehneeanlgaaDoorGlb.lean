/- What package variables hold (resolve.nothing). -/
import Derived.WalkKit
namespace Go.Proofs.YtacfehneeanlgaaDoor.Ev
open Go
/-- Block, cell, value. -/
def globs : List (Nat × Nat × Value) := [(0, 0, .int .i64 (-1)), (0, 1, .int .i64 (-1))]
end Go.Proofs.YtacfehneeanlgaaDoor.Ev
