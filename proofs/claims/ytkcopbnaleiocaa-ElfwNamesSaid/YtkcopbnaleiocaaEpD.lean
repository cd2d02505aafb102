/- What may be, and a file's bytes, whole. -/
import Derived.Test.YtkcopbnaleiocaaEoC
namespace Go.Proofs.Ytkcopbnaleiocaa.Ev
open Go
set_option linter.unusedVariables false
/-! ### relasMay -/
def relBad (q r : List D) : Bool := decide (rI q 0 > rI r 0) || ((rI q 0 == rI r 0) && (decide (rI q 1 > rI r 1) || !apartB (rI q 1) (rI q 2) (rI q 4) (rI r 1) (rI r 2) (rI r 4)))
noncomputable def relsGo (S : List (List D)) (n : Int) (L : List (List D)) : List (List D) → Nat → Bool
  | [], _ => true
  | e :: t, i => (relCk (rI e 0) (rI e 1) (rI e 2) (rI e 3) (rI e 4) S n == 0) && (!(rI e 2 == 43) || fillB (cut (rA (S.getD (rI e 0 - 1).toNat []) 2) (rI e 1) (rI e 1 + rI e 4))) && (L.take i).all (fun q => !relBad q e) && relsGo S n L t (i + 1)
noncomputable def relsB (S Y L : List (List D)) : Bool := decide (L.length ≤ 256) && relsGo S Y.length L L 0
def relsOk (L : List (List D)) : Bool := L.all fun e => decide (0 ≤ rI e 2) && decide (rI e 2 ≤ 255) && decide (rI e 2 ≠ 43)
def pRls : List V → Bool
  | [.agg [.arr _ s, .arr _ y, .arr _ r, .arr _ g]] => relsOk r
  | _ => true
noncomputable def gRls : List V → Option V
  | [.agg [.arr [.str, .int .i64, .arr [.int .u8], .int .i64] s, .arr [.str, .int .u8, .bool, .int .i64, .int .i64, .int .i64] y, .arr [.int .i64, .int .i64, .int .u8, .int .i64, .int .i64] r, .arr [.str, .arr [.int .i64]] g]] => some (.val (.bool (relsB s y r)))
  | _ => none
noncomputable def lc4 : List (Nat × ExtF) := (57, exP nObj pRls gRls) :: lc3
/-! ### Check -/
noncomputable def chkB (S Y L G : List (List D)) : Bool := decide (S.length ≤ 16) && secAll S && symsB S Y && relsB S Y L && grpsB S G
def pChkO : List V → Bool
  | [.agg [.arr _ s, .arr _ y, .arr _ r, .arr _ g]] => decide (s.length ≤ 1048576) && decide (y.length ≤ 1048576) && relsOk r && decide (g.length ≤ 1048576) && lensOk 1 1048576 g
  | _ => true
noncomputable def gChkO : List V → Option V
  | [.agg [.arr [.str, .int .i64, .arr [.int .u8], .int .i64] s, .arr [.str, .int .u8, .bool, .int .i64, .int .i64, .int .i64] y, .arr [.int .i64, .int .i64, .int .u8, .int .i64, .int .i64] r, .arr [.str, .arr [.int .i64]] g]] => some (.val (.int .i64 (if chkB s y r g = true then 0 else 8)))
  | _ => none
noncomputable def lc5 : List (Nat × ExtF) := (22, exP nObj pChkO gChkO) :: lc4
/-! ### Write -/
def wrF2 (S Y L G : List (List D)) : Fl := restF S Y L G (secsF (grpMap G []) S 0 ⟨zeros 64, [], []⟩)
def wrTb (S Y L G : List (List D)) : Bld := bldR ((wrF2 S Y L G).names ++ [[.str sShs]])
def wrF3 (S Y L G : List (List D)) : Fl := partF (wrF2 S Y L G) sShs ⟨0, 3, 0, 0, 0, 0, 0, 0, 1, 0⟩ (wrTb S Y L G).t
def hdOf (e : List D) (nm : Int) : Hd := ⟨nm, rI e 1, rI e 2, rI e 3, rI e 4, rI e 5, rI e 6, rI e 7, rI e 8, rI e 9⟩
def hdB (h : Hd) : List (List D) := if h.ok then h.b else []
def headsF (P : List (List D)) : List (List D) → Nat → List (List D)
  | [], _ => []
  | e :: t, i => hdB (hdOf e (cellI P i 0)) ++ headsF P t (i + 1)
def wrAll (S Y L G : List (List D)) : List (List D) := padB (wrF3 S Y L G).b 8 ++ zeros 64 ++ headsF (wrTb S Y L G).p (wrF3 S Y L G).heads 0
def copyB (F A : List (List D)) : List (List D) := List.take A.length (List.take A.length F ++ List.drop (0 + min F.length A.length) A)
def wrFst (S Y L G : List (List D)) : List (List D) := firstB (padB (wrF3 S Y L G).b 8).length (IntKind.wrap .i64 (((wrF3 S Y L G).heads.length : Int) + 1))
def wrB (S Y L G : List (List D)) : List (List D) := copyB (wrFst S Y L G) (wrAll S Y L G)
noncomputable def wrE (S Y L G : List (List D)) : Int := if chkB S Y L G = true then (if (wrAll S Y L G).length > 65536 then 9 else 0) else 8
noncomputable def wrV (S Y L G : List (List D)) : List (List D) := if wrE S Y L G = 0 then wrB S Y L G else []
/-- What holds of an object that may be. -/
def wrOk (S Y L G : List (List D)) : Bool := lensOk 2 4096 S && (bysOk S L && decide (G.length ≤ 16) && lensOk 1 16 G && strsOk 0 4096 G && strsOk 0 4096 S && decide (Y.length ≤ 64) && posOk 1 Y && decide ((bldR (namesY Y)).p.length = Y.length) && decide ((bldR (namesY Y)).t.length ≤ 65536)) && decide ((wrTb S Y L G).p.length = (wrF2 S Y L G).names.length + 1) && decide ((wrTb S Y L G).t.length ≤ 65536)
noncomputable def pWrt : List V → Bool
  | [.agg [.arr _ s, .arr _ y, .arr _ r, .arr _ g]] => pChkO [.agg [.arr [] s, .arr [] y, .arr [] r, .arr [] g]] && (!chkB s y r g || wrOk s y r g)
  | _ => true
noncomputable def gWrt : List V → Option V
  | [.agg [.arr [.str, .int .i64, .arr [.int .u8], .int .i64] s, .arr [.str, .int .u8, .bool, .int .i64, .int .i64, .int .i64] y, .arr [.int .i64, .int .i64, .int .u8, .int .i64, .int .i64] r, .arr [.str, .arr [.int .i64]] g]] => some (.tup [.uni u8s (wrV s y r g), .val (.int .i64 (wrE s y r g))])
  | _ => none
noncomputable def lc6 : List (Nat × ExtF) := (24, exP nObj pWrt gWrt) :: lc5
noncomputable def ep6 : Info := infoL Try.prog lc6 ent keepOf
noncomputable def ep4 : Info := infoL Try.prog lc4 ent keepOf
noncomputable def ep5 : Info := infoL Try.prog lc5 ent keepOf
end Go.Proofs.Ytkcopbnaleiocaa.Ev
