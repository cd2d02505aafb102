/- A file's parts: what the functions compute, in plain words. -/
import Derived.Test.YtacfehneeanlgaaDoorEmD
namespace Go.Proofs.YtacfehneeanlgaaDoor.Ev
open Go
set_option linter.unusedVariables false
/-! ### A file under way -/
structure Fl where
  b : List (List D)
  heads : List (List D)
  names : List (List D)
def Hd.row (h : Hd) : List D := [.int h.name, .int h.type, .int h.flags, .int h.addr, .int h.offset, .int h.size, .int h.link, .int h.info, .int h.align, .int h.entry]
def partF (f : Fl) (name : ByteArray) (h : Hd) (data : List (List D)) : Fl :=
  ⟨padB f.b h.align ++ data, f.heads ++ [({ h with offset := (padB f.b h.align).length, size := if h.type = 8 then h.size else data.length } : Hd).row], f.names ++ [[.str name]]⟩
def Fl.cells (f : Fl) : List V := [.arr u8s f.b, .own hdC f.heads, .own strs f.names]
/-! ### A handed box whose rows may be nil -/
inductive BK where
  | no
  | own (cs : List CT)
  | arr (cs : List CT)
def nilO : BK → V → V
  | .own cs, .val (.slice none 0 0) => .own cs []
  | .arr cs, .val (.slice none 0 0) => .arr cs []
  | .arr _, .own c xs => .arr c xs
  | _, v => v
def nilOs : List BK → List V → List V
  | k :: ks, v :: vs => nilO k v :: nilOs ks vs
  | _, vs => vs
theorem nilO_rx (k : BK) (v : V) : Rx1 v (nilO k v) := by
  unfold nilO
  split
  · exact .nilOwn _
  · exact .nilArr _
  · exact .ownArr _ _
  · exact .refl _
theorem nilOs_length : ∀ (ks : List BK) (vs : List V), (nilOs ks vs).length = vs.length
  | [], _ => by simp [nilOs]
  | _ :: _, [] => by simp [nilOs]
  | _ :: ks, _ :: vs => by simp [nilOs, nilOs_length ks vs]
theorem nilOs_get : ∀ (ks : List BK) (vs : List V) (i : Nat) (v' : V), (nilOs ks vs)[i]? = some v' → ∃ v, vs[i]? = some v ∧ Rx1 v v'
  | [], vs, i, v', h => ⟨v', by simpa [nilOs] using h, .refl _⟩
  | k :: ks, [], i, v', h => by simp [nilOs] at h
  | k :: ks, v :: vs, 0, v', h => by
    simp only [nilOs, List.getElem?_cons_zero, Option.some.injEq] at h
    subst h
    exact ⟨v, rfl, nilO_rx k v⟩
  | k :: ks, v :: vs, i + 1, v', h => by
    simp only [nilOs, List.getElem?_cons_succ] at h
    obtain ⟨u, hu, hx⟩ := nilOs_get ks vs i v' h
    exact ⟨u, by simpa using hu, hx⟩
theorem nilOs_cell {g : Gh} {w : World} {k : Key} {os : List V} (cs : List BK) (h : CellRel g w k os) : CellRel g w k (nilOs cs os) := by
  obtain ⟨b, cur, e, h1, h2, h3, h4, h5, h6⟩ := h
  refine ⟨b, cur, e, h1, h2, h3, by rw [nilOs_length]; exact h4, fun i v' hv' => ?_, fun i v' c hv' hc => ?_⟩
  · obtain ⟨v, hv, hx⟩ := nilOs_get cs os i v' hv'
    exact hx.cellP (h5 i v hv)
  · obtain ⟨v, hv, hx⟩ := nilOs_get cs os i v' hv'
    exact hx.rel (h6 i v c hv hc)
theorem Contract.normO {P : Program} {f : Nat} {cs : List BK} {vs os : List V} {r : R} (h : Contract P f vs [nilOs cs os] r) : Contract P f vs [os] r := by
  intro g w cargs hh
  refine h g w cargs ⟨hh.size, hh.args, fun i u hi => ?_, hh.fresh, hh.loc, hh.mp, hh.mn, hh.out, hh.nones, hh.glob⟩
  cases i with
  | zero =>
    cases hi
    exact .ofCell rfl (nilOs_cell cs ((hh.boxes 0 os rfl).cell rfl))
  | succ i => cases hi
/-- .. and what is given back in it, told as less. -/
theorem Contract.outO {P : Program} {f : Nat} {cs : List BK} {vs os o : List V} {v : V} (h : Contract P f vs [os] (v, [o])) : Contract P f vs [os] (v, [nilOs cs o]) := by
  intro g w cargs hh
  refine (h g w cargs hh).mono ?_
  rintro e w' ⟨c, g', h1, h2, h3, h4, h5, h6⟩
  refine ⟨c, g', h1, h2, h3, h4, fun i u hi => ?_, h6⟩
  cases i with
  | zero =>
    cases hi
    obtain ⟨b1, b2⟩ := h5 0 o rfl
    refine ⟨.ofCell rfl (nilOs_cell cs (b1.cell rfl)), fun u hu => ?_⟩
    obtain ⟨j, hj, rfl⟩ := List.getElem_of_mem hu
    obtain ⟨u', hu', hx⟩ := nilOs_get cs o j _ (List.getElem?_eq_getElem hj)
    exact hx.flat (b2 u' (List.mem_of_getElem? hu'))
  | succ i => cases hi
/-- A contract of a function with one box, its rows told as less. -/
def exB (ks : List CK) (cs : List BK) (p : List V → List V → Bool) (g : List V → List V → Option (V × List V)) : ExtF :=
  { pre := fun vs outs => match outs with | [os] => p (normArgs ks vs) (nilOs cs os) | _ => true, ans := fun vs outs => match outs with | [os] => (g (normArgs ks vs) (nilOs cs os)).map fun r => (r.1, [r.2]) | _ => none }
theorem ExtAll.box {P : Program} {l : List (Nat × ExtF)} {f : Nat} {ks : List CK} {cs : List BK} {p : List V → List V → Bool} {g : List V → List V → Option (V × List V)} (h : ∀ (vs os : List V) (r : V × List V), p vs os = true → g vs os = some r → Contract P f vs [os] (r.1, [r.2])) (hl : ExtAll P l) : ExtAll P ((f, exB ks cs p g) :: l) :=
  .cons (fun vs outs r h1 h2 => by
    simp only [exB] at h2 h1
    split at h2
    · obtain ⟨v, hv, rfl⟩ := Option.map_eq_some_iff.1 h2
      exact Contract.normO (Contract.norm (h _ _ _ h1 hv))
    · cases h2) hl
def flOf : List V → Option Fl
  | [.arr [.int .u8] b, .own hc h, .own [.str] n] => if sameCTs hc hdC = true then some ⟨b, h, n⟩ else none
  | _ => none
def flOk (f : Fl) : Bool := decide (f.b.length ≤ 8388608) && decide (f.heads.length ≤ 65536) && decide (f.names.length ≤ 65536)
def nPart : List CK := [.no, .no, .no, .sl u8s]
def flC : List BK := [.arr u8s, .own hdC, .own strs]
def pPart : List V → List V → Bool
  | [_, _, _, .arr [.int .u8] x], cs => match flOf cs with | some f => flOk f && decide (x.length ≤ 1048576) | none => true
  | _, _ => true
def gPart : List V → List V → Option (V × List V)
  | [.ptr (.out 0) 0, .val (.string nm), .agg [.val (.int .i64 a), .val (.int .i64 b), .val (.int .i64 c), .val (.int .i64 d), .val (.int .i64 e), .val (.int .i64 f), .val (.int .i64 g), .val (.int .i64 h), .val (.int .i64 i), .val (.int .i64 j)], .arr [.int .u8] x], cs =>
      match flOf cs with
      | some fl => some (.tup [], (partF fl nm ⟨a, b, c, d, e, f, g, h, i, j⟩ x).cells)
      | none => none
  | _, _ => none
/-- A file's head. -/
def firstB (place many : Int) : List (List D) := ([127, 69, 76, 70, 2, 1, 1, 0, 0, 0, 0, 0, 0, 0, 0, 0, 1, 0, 243, 0, 1, 0, 0, 0, 0, 0, 0, 0, 0, 0, 0, 0, 0, 0, 0, 0, 0, 0, 0, 0].map fun n => [D.int n]) ++ putB place 8 ++ ([1, 0, 0, 0, 64, 0, 0, 0, 0, 0, 64, 0].map fun n => [D.int n]) ++ putB many 2 ++ putB (IntKind.wrap .i64 (many - 1)) 2
def gFst : List V → Option V
  | [.val (.int .i64 p), .val (.int .i64 m)] => some (.own u8s (firstB p m))
  | _ => none
/-! ### slices.Clone of names -/
def gClnS : List V → Option V
  | [.arr [.str] xs] => some (.own strs xs)
  | _ => none
def pClnS : List V → Bool
  | [.arr [.str] xs] => decide (0 < xs.length) && decide (xs.length ≤ 1048576)
  | _ => true
/-! ### rela.Write; what relocations are about -/
def relWok (b k c d : Int) : Bool := (fieldE k == 0) && decide (0 ≤ b) && decide (b ≤ 4096) && decide (-1 ≤ c) && decide (c < 64) && decide (-2147483648 ≤ d) && decide (d ≤ 4294967295)
def relB (b k c d : Int) : List (List D) := putB b 8 ++ putB (IntKind.wrap .i64 k) 4 ++ putB (IntKind.wrap .i64 (c + 1)) 4 ++ putB d 8
def gRelW : List V → Option V
  | [.agg [.val (.int .i64 a), .val (.int .i64 b), .val (.int .u8 k), .val (.int .i64 c), .val (.int .i64 d)]] => some (.tup [.own u8s (if relWok b k c d then relB b k c d else []), .val (.int .i64 (if relWok b k c d then 0 else 8))])
  | _ => none
def spanTo (b k d : Int) : Int := IntKind.wrap .i64 (b + if k = 43 then d else fieldN k)
def gSpn : List V → Option V
  | [.agg [.val (.int .i64 a), .val (.int .i64 b), .val (.int .u8 k), .val (.int .i64 c), .val (.int .i64 d)]] => some (.tup [.val (.int .i64 b), .val (.int .i64 (spanTo b k d))])
  | _ => none
def sumsB (k l : Int) : Bool := decide ((if l < k then l else k) ≥ 33) && decide ((if l < k then l else k) ≤ 36) && ((if k < l then l else k) == IntKind.wrap .u8 (IntKind.wrap .u8 ((if l < k then l else k) + 37) - 33))
def gSums : List V → Option V
  | [.agg [.val (.int .i64 a), .val (.int .i64 b), .val (.int .u8 k), .val (.int .i64 c), .val (.int .i64 d)], .agg [.val (.int .i64 a'), .val (.int .i64 b'), .val (.int .u8 k'), .val (.int .i64 c'), .val (.int .i64 d')]] => some (.val (.bool (sumsB k k')))
  | _ => none
/-! ### Rows -/
def rI (e : List D) (j : Nat) : Int := (e.getD j default).toInt
def rS (e : List D) (j : Nat) : ByteArray := (e.getD j default).toStr
def rB (e : List D) (j : Nat) : Bool := (e.getD j default).toBool
def rA (e : List D) (j : Nat) : List (List D) := (e.getD j default).toArr
def count (k : CT) (v : Value) (d : D) (m : List (List D)) : List (List D) := setRow k v [d, .int (IntKind.wrap .i64 ((lookD k v (.int 0) m).toInt + 1))] m
def twice (k : CT) (v : Value) (d : D) (m : List (List D)) : Bool := decide ((lookD k v (.int 0) (count k v d m)).toInt > 1)
def nObj : List CK := [.ag [some secC, some symC, some relC, some grpC]]
/-! ### symbolsMay -/
def secLen (e : List D) : Int := IntKind.wrap .i64 ((rA e 2).length + rI e 3)
def symIn (S : List (List D)) (e : List D) : Bool := (symE (rS e 0) (rI e 1) (rB e 2) (rI e 3) (rI e 4) (rI e 5) S.length == 0) && !(decide (rI e 3 > 0) && decide (IntKind.wrap .i64 (rI e 4 + rI e 5) > secLen (S.getD (IntKind.wrap .i64 (rI e 3 - 1)).toNat [])))
def symsGo (S : List (List D)) : List (List D) → Bool → List (List D) → Bool
  | [], _, _ => true
  | e :: t, gl, m => if symIn S e = false then false else if rI e 1 = 0 then (if gl = true then false else symsGo S t gl m) else if twice .str (.string (rS e 0)) (.str (rS e 0)) m = true then false else symsGo S t true (count .str (.string (rS e 0)) (.str (rS e 0)) m)
def symsB (S Y : List (List D)) : Bool := symsGo S Y false [] && decide (Y.length ≤ 64)
def pSyms : List V → Bool
  | [.agg [.arr _ s, .arr _ y, .arr _ r, .arr _ g]] => decide (y.length ≤ 1048576)
  | _ => true
def gSyms : List V → Option V
  | [.agg [.arr [.str, .int .i64, .arr [.int .u8], .int .i64] s, .arr [.str, .int .u8, .bool, .int .i64, .int .i64, .int .i64] y, .arr [.int .i64, .int .i64, .int .u8, .int .i64, .int .i64] r, .arr [.str, .arr [.int .i64]] g]] => some (.val (.bool (symsB s y)))
  | _ => none
/-! ### groupsMay -/
def grpIn (n : Int) : List (List D) → Int → List (List D) → Option (List (List D))
  | [], _, tk => some tk
  | e :: t, last, tk => if rI e 0 ≤ last then none else if rI e 0 > n then none else if twice (.int .i64) (.int .i64 (rI e 0)) (.int (rI e 0)) tk = true then none else grpIn n t (rI e 0) (count (.int .i64) (.int .i64 (rI e 0)) (.int (rI e 0)) tk)
def grpsGo (n : Int) : List (List D) → List (List D) → List (List D) → Bool
  | [], _, _ => true
  | e :: t, m, tk => if symE (rS e 0) 1 false 0 0 0 0 ≠ 0 then false else if twice .str (.string (rS e 0)) (.str (rS e 0)) m = true then false else if (rA e 1).length = 0 then false else match grpIn n (rA e 1) 0 tk with
    | none => false
    | some tk => grpsGo n t (count .str (.string (rS e 0)) (.str (rS e 0)) m) tk
def grpsB (S G : List (List D)) : Bool := grpsGo S.length G [] [] && decide (G.length ≤ 16)
def lensOk (j n : Nat) (G : List (List D)) : Bool := G.all fun e => decide ((rA e j).length ≤ n)
def pGrps : List V → Bool
  | [.agg [.arr _ s, .arr _ y, .arr _ r, .arr _ g]] => decide (g.length ≤ 1048576) && lensOk 1 1048576 g
  | _ => true
def gGrps : List V → Option V
  | [.agg [.arr [.str, .int .i64, .arr [.int .u8], .int .i64] s, .arr [.str, .int .u8, .bool, .int .i64, .int .i64, .int .i64] y, .arr [.int .i64, .int .i64, .int .u8, .int .i64, .int .i64] r, .arr [.str, .arr [.int .i64]] g]] => some (.val (.bool (grpsB s g)))
  | _ => none
def lc1 : List (Nat × ExtF) := (65, exN [] gSpn) :: (66, exN [] gSums) :: (34, exP nObj pSyms gSyms) :: (36, exP nObj pGrps gGrps) :: lb4

noncomputable def en1 : Info := infoL Tryd.prog lc1 ent keepOf
end Go.Proofs.YtacfehneeanlgaaDoor.Ev
