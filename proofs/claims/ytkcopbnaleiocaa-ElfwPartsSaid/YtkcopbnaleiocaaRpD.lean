/- A reader reads its parts, and an object: what the functions compute, in plain words. -/
import Derived.Test.YtkcopbnaleiocaaEsC
namespace Go.Proofs.Ytkcopbnaleiocaa.Ev
open Go
set_option linter.unusedVariables false
/-! ### part -/
def cutName (nm : ByteArray) : ByteArray := nm.extract (if (nm.size : Int) < 7 then (nm.size : Int) else 7).toNat nm.size
/-- A group's numbers. -/
def grpR (x : List (List D)) : Nat → Int → Int → List (List D) → List (List D) × Int
  | 0, _, e, l => (l, e)
  | d + 1, a, e, l => if a < x.length then grpR x d (a + 4) (numE x a 4 e) (l ++ [[.int (getV x a 4)]]) else (l, e)
/-- Relocations. -/
def relOne (x : List (List D)) (info : Int) : List D := [.int info, .int (okI (relRe x) (getV x 0 8)), .int (okI (relRe x) (relRk x)), .int (okI (relRe x) (relRc x)), .int (okI (relRe x) (getV x 16 8))]
def relR (info : Int) : Nat → List (List D) → Int → List (List D) → List (List D) × Int
  | 0, _, e, l => (l, e)
  | d + 1, x, e, l => if 24 ≤ x.length then relR info d (x.drop 24) (if relRe (x.take 24) ≠ 0 then relRe (x.take 24) else e) (l ++ [relOne (x.take 24) info]) else (l, e)
/-- Symbols. -/
def symOne (x : List (List D)) (nm : ByteArray) : List D := [.str nm, .int (symRb x), .bool (symRh x), .int (symRw x), .int (getV x 8 8), .int (getV x 16 8)]
def symR (x : List (List D)) : Nat → Int → Rd → Rd
  | 0, _, r => r
  | d + 1, a, r => if a + 24 ≤ x.length ∧ r.e = 0 then (if symRe (cut x a (a + 24)) ≠ 0 then { r with e := symRe (cut x a (a + 24)) } else symR x d (a + 24) { r with y := r.y ++ [symOne (cut x a (a + 24)) (nameS r (r.h.length - 2) (getV (cut x a (a + 24)) 0 4))], e := nameE r (r.h.length - 2) (getV (cut x a (a + 24)) 0 4) }) else r
def partN (r : Rd) (h : Hd) : Rd := { r with e := nameE r (r.h.length - 1) h.name }
def partC (r : Rd) (h : Hd) : Rd := { partN r h with e := cutE r.b h.offset h.size (partN r h).e }
def partX (r : Rd) (h : Hd) : List (List D) := cutV r.b h.offset h.size (partN r h).e
def partR (r : Rd) (h : Hd) : Rd :=
  if h.type = 8 then { partN r h with s := r.s ++ [[.str (nameS r (r.h.length - 1) h.name), .int h.align, .arr [], .int h.size]] }
  else if h.type = 1 then { partC r h with s := r.s ++ [[.str (nameS r (r.h.length - 1) h.name), .int h.align, .arr (partX r h), .int 0]] }
  else if h.type = 17 then { partC r h with g := r.g ++ [[.str (cutName (nameS r (r.h.length - 1) h.name)), .arr (grpR (partX r h) (partX r h).length 4 (partC r h).e []).1]], e := (grpR (partX r h) (partX r h).length 4 (partC r h).e []).2 }
  else if h.type = 4 then { partC r h with l := (relR h.info (partX r h).length (partX r h) (partC r h).e r.l).1, e := (relR h.info (partX r h).length (partX r h) (partC r h).e r.l).2 }
  else if h.type = 2 then symR (partX r h) (partX r h).length 24 (partC r h)
  else partC r h
def rdBig (r : Rd) : Bool := bytesIn r.b && decide (r.b.length ≤ 1048576) && decide (2 ≤ r.h.length) && decide (r.h.length ≤ 1048576) && decide (r.s.length ≤ 1073741824) && decide (r.y.length ≤ 1073741824) && decide (r.l.length ≤ 1073741824) && decide (r.g.length ≤ 1073741824)
def pRpt : List V → List V → Bool
  | _, os => match rdOf os with
    | some r => rdBig r
    | none => true
def gRpt : List V → List V → Option (V × List V)
  | [.ptr (.out 0) 0, .agg [.val (.int .i64 a), .val (.int .i64 b), .val (.int .i64 c), .val (.int .i64 d), .val (.int .i64 e), .val (.int .i64 f), .val (.int .i64 g), .val (.int .i64 h), .val (.int .i64 i), .val (.int .i64 j)]], os => match rdOf os with
    | some r => some (.tup [], (partR r ⟨a, b, c, d, e, f, g, h, i, j⟩).cells)
    | none => none
  | _, _ => none
noncomputable def le5 : List (Nat × ExtF) := (93, exB [] rdC pRpt gRpt) :: le3
noncomputable def es5 : Info := infoL Try.prog le5 ent keepOf
end Go.Proofs.Ytkcopbnaleiocaa.Ev
