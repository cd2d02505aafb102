/- resolve's table of definitions, in memory: how a definition reads; one more definition (put), walked with the kit's words. -/
import Derived.Test.YtacfehneeanlgaaDoorRsC
import Derived.Maps.OwnIn
import Derived.Maps.OwnOps
import Derived.Maps.OwnSet
import Derived.Maps.RangeWalk
import Derived.Maps.Ext
import Derived.Tactics
import Derived.Tactics2
import Derived.WalkKit
import Derived.WalkSpells
import Derived.StillTactics
import Derived.OwnWalk
import Derived.Laws.Pointers
import Derived.Deep.RegionLaw
import Derived.Deep.QuietTactic
import Derived.BigQuiet
import Derived.BigRegion
namespace Go.Proofs.YtacfehneeanlgaaDoor.Ev
open Go Go.RowKit Go.Shelf Go.Maps
set_option linter.unusedVariables false
set_option linter.unusedSimpArgs false
/-- What defines a name: rank (three numbers), where, how many strong ones, whether there is one. -/
structure Def1 where
  r0 : Int
  r1 : Int
  r2 : Int
  ob : Int
  sy : Int
  st : Int
  is : Bool
def Def1.zero : Def1 := ⟨0, 0, 0, 0, 0, 0, false⟩
def Def1.v (d : Def1) : Value := .agg #[.int .i64 d.r0, .int .i64 d.r1, .int .i64 d.r2, .int .i64 d.ob, .int .i64 d.sy, .int .i64 d.st, .bool d.is]
def Def1.d (d : Def1) : DataW Unit := .agg [.lit (.int .i64 d.r0), .lit (.int .i64 d.r1), .lit (.int .i64 d.r2), .lit (.int .i64 d.ob), .lit (.int .i64 d.sy), .lit (.int .i64 d.st), .lit (.bool d.is)]
def defR : Value → Option (DataW Unit × List MemPlace)
  | .agg ⟨[.int .i64 a, .int .i64 b, .int .i64 c, .int .i64 o, .int .i64 s, .int .i64 n, .bool i]⟩ => some (Def1.d ⟨a, b, c, o, s, n, i⟩, [])
  | _ => none
theorem defR_v (d : Def1) : defR d.v = some (d.d, []) := rfl
theorem defR_inv {v : Value} {z : DataW Unit × List MemPlace} (h : defR v = some z) : ∃ d : Def1, v = d.v ∧ z = (d.d, []) := by
  unfold defR at h
  split at h
  · rename_i a b c o s n i
    cases h
    exact ⟨⟨a, b, c, o, s, n, i⟩, rfl, rfl⟩
  · cases h
theorem Def1.d_inj {a b : Def1} (h : a.d = b.d) : a = b := by
  cases a; cases b
  simp only [Def1.d, DataW.agg.injEq, List.cons.injEq, DataW.lit.injEq, Lit.int.injEq, Lit.bool.injEq, and_true, true_and] at h
  simp_all
abbrev strK (s : ByteArray) : Lit := .string s.data.toList
theorem str_law : Keyed Tryd.prog 9 := string_keyed Tryd.underlying9
theorem zero_def (w : World) : (zeroValue 62).run Tryd.prog w = .ok Def1.zero.v w := by kernel_rfl
theorem zero_int (w : World) : (zeroValue 3).run Tryd.prog w = .ok (.int .i64 0) w := by kernel_rfl
/-- The table's look-up. -/
theorem look_def {W : World} {b n : Nat} {M : DataW Unit} (h : W.ownsMap Tryd.prog 9 defR b n M) {s : ByteArray} (hs : s.size ≤ maxLen) :
    ∃ d : Def1, (Instr.lookup 55 (.map (some b)) (.string s) false).run Tryd.prog W = .ok d.v W ∧ M.atKey (strK s) Def1.zero.d = d.d := by
  obtain ⟨v, ps, hrun, hv⟩ := h.lookup str_law Tryd.underlying55 (zero_def W) (defR_v _) (WideMaps.keyOf_string_mk Tryd.underlying9 hs)
  obtain ⟨d, rfl, e⟩ := defR_inv hv
  exact ⟨d, hrun, by simpa using (Prod.mk.inj e).1⟩
/-- A definition's rank. -/
def rankOf (bd wh va sz : Int) : Int × Int × Int := if wh = -2 then (0, sz, va) else if bd = 2 then (1, 0, 0) else (2, 0, 0)
def rankD (r : Int × Int × Int) : List (List D) := [[.int r.1], [.int r.2.1], [.int r.2.2]]
/-- One more definition. -/
def Def1.put (d : Def1) (bd wh va sz ob sy : Int) : Def1 :=
  let n := if wh = -2 ∨ bd = 2 then d.st else Go.RowKit.wrap64 (d.st + 1)
  if d.is = false ∨ 0 < cmpL (rankD (rankOf bd wh va sz)) (rankD (d.r0, d.r1, d.r2)) then ⟨(rankOf bd wh va sz).1, (rankOf bd wh va sz).2.1, (rankOf bd wh va sz).2.2, ob, sy, n, true⟩ else { d with st := n }
/-- A contract of the frame at the kit's calls: nothing is written to. -/
theorem calls_of_con {f : Nat} {vs : List V} {v : V} (h : Contract Tryd.prog f vs [] (v, [])) (W : World) (cargs : Array Value) (hl : cargs.size = vs.length) (hG : ∀ x ∈ globs, x.1 < W.heap.size ∧ W.cell? (pl x.1 x.2.1) = some x.2.2)
    (ha : ∀ (i : Nat) (u : V), vs[i]? = some u → ∃ c, cargs[i]? = some c ∧ VRel gNone W (.tmp i) u c) : Calls Tryd.prog f cargs W fun e W' => ∃ c g', e = .returned c ∧ VRel g' W' .ret v c ∧ Go.RowKit.Below W.heap.size W W' ∧ Evol gNone W g' W' :=
  (h gNone W cargs ⟨hl, ha, fun i cs hi => by simp at hi, fun _ _ => rfl, fun _ => rfl, fun _ => rfl, fun _ => rfl, fun i b hb => (nomatch hb), fun b r l _ ho => (nomatch ho), fun x hx => ⟨rfl, hG x hx⟩⟩).mono fun e W' ⟨c, g', he, q1, q2, q3, q4, q5, q6⟩ =>
    ⟨c, g', he, q1, ⟨q5.os, q5.tape, q5.output, q5.size, fun k hk => (q5.free k hk rfl).1⟩, q5⟩
/-- Package variables are as they were laid. -/
def GlobW (W : World) : Prop := ∀ x ∈ globs, x.1 < W.heap.size ∧ W.cell? (pl x.1 x.2.1) = some x.2.2
theorem GlobW.below {n : Nat} {W W' : World} (h : GlobW W) (hb : Go.RowKit.Below n W W') (hn : ∀ x ∈ globs, x.1 < n) : GlobW W' := fun x hx =>
  ⟨Nat.lt_of_lt_of_le (h x hx).1 hb.size, (hb.cell (p := pl x.1 x.2.1) (hn x hx)).trans (h x hx).2⟩
/-- slices.Compare of two arrays of three. -/
theorem cmp_calls (W : World) (hG : GlobW W) (b1 b2 : Nat) (r0 r1 r2 d0 d1 d2 : Int) (c0 : W.cell? ⟨b1, 0, none⟩ = some (.int .i64 r0)) (c1 : W.cell? ⟨b1, 1, none⟩ = some (.int .i64 r1)) (c2 : W.cell? ⟨b1, 2, none⟩ = some (.int .i64 r2))
    (e0 : W.cell? ⟨b2, 0, none⟩ = some (.int .i64 d0)) (e1 : W.cell? ⟨b2, 1, none⟩ = some (.int .i64 d1)) (e2 : W.cell? ⟨b2, 2, none⟩ = some (.int .i64 d2)) :
    Calls Tryd.prog 38 #[.slice (some ⟨b1, 0, none⟩) 3 3, .slice (some ⟨b2, 0, none⟩) 3 3] W fun e W' => e = .returned (.int .i64 (cmpL (rankD (r0, r1, r2)) (rankD (d0, d1, d2)))) ∧ Go.RowKit.Below W.heap.size W W' := by
  have row : ∀ (b : Nat) (r : Int × Int × Int), W.cell? ⟨b, 0, none⟩ = some (.int .i64 r.1) → W.cell? ⟨b, 1, none⟩ = some (.int .i64 r.2.1) → W.cell? ⟨b, 2, none⟩ = some (.int .i64 r.2.2) → DRel gNone.stable W (.arr [.int .i64]) (.arr (rankD r)) (.slice (some ⟨b, 0, none⟩) 3 3) := by
    intro b r e0 e1 e2
    refine .arr [.int .i64] (.arr (rankD r)) b 0 3 (fun i _ => match i with | 0 => .int .i64 r.1 | 1 => .int .i64 r.2.1 | _ => .int .i64 r.2.2) (by simp [D.toArr, rankD]) (by simp [maxLen]) (fun i j hi hj => ?_) (fun i j c hi hj => ?_)
    · have hj : j = 0 := by simpa using hj
      subst hj
      match i with
      | 0 => exact ⟨trivial, by simpa using e0⟩
      | 1 => exact ⟨trivial, by simpa using e1⟩
      | 2 => exact ⟨trivial, by simpa using e2⟩
      | i + 3 => simp [D.toArr, rankD] at hi; omega
    · have hj0 : j = 0 := by have := (List.getElem?_eq_some_iff.1 hj).1; simpa using this
      subst hj0
      simp at hj
      subst hj
      match i with
      | 0 => exact .int .i64 (.int r.1)
      | 1 => exact .int .i64 (.int r.2.1)
      | 2 => exact .int .i64 (.int r.2.2)
      | i + 3 => simp [D.toArr, rankD] at hi; omega
  refine (calls_of_con (con_cmq [.arr [.int .i64] (rankD (r0, r1, r2)), .arr [.int .i64] (rankD (d0, d1, d2))] _ (by kernel_rfl) rfl) W _ rfl hG (fun i u hi => ?_)).mono fun e W' ⟨c, g', he, hv, hb, _⟩ => ?_
  · match i with
    | 0 => simp at hi; subst hi; exact ⟨_, rfl, .arr _ _ _ _ (row b1 (r0, r1, r2) c0 c1 c2)⟩
    | 1 => simp at hi; subst hi; exact ⟨_, rfl, .arr _ _ _ _ (row b2 (d0, d1, d2) e0 e1 e2)⟩
    | i + 2 => simp at hi
  · rw [val_inv hv] at he
    exact ⟨he, hb⟩
/-- The world behind a store in the table. -/
noncomputable def updW (b1 : Nat) (nm : ByteArray) (W : World) (d : Def1) : World :=
  match (Instr.mapUpdate 55 (.map (some b1)) (.string nm) d.v).run Tryd.prog W with
  | .ok _ W' => W'
  | _ => W
theorem updW_run {W : World} {b1 n : Nat} {M : DataW Unit} (h : W.ownsMap Tryd.prog 9 defR b1 n M) (hn : n < maxLen) {nm : ByteArray} (hs : nm.size ≤ maxLen) (d : Def1) :
    (Instr.mapUpdate 55 (.map (some b1)) (.string nm) d.v).run Tryd.prog W = .ok () (updW b1 nm W d) ∧ (updW b1 nm W d).ownsMap Tryd.prog 9 defR b1 (n + 1) (M.put (strK nm) d.d) ∧ W.grownBy (updW b1 nm W d) (some b1) := by
  obtain ⟨W', h1, h2, h3⟩ := h.update str_law Tryd.underlying55 hn (WideMaps.keyOf_string_mk Tryd.underlying9 hs) (defR_v d)
  have e : updW b1 nm W d = W' := by unfold updW; rw [h1]
  rw [e]
  exact ⟨h1, h2, h3⟩
theorem put_fin {w W : World} {b1 n : Nat} {M : DataW Unit} (h : W.ownsMap Tryd.prog 9 defR b1 n M) (hg : w.grownBy W none) (hn : n < maxLen) {nm : ByteArray} (hs : nm.size ≤ maxLen) {d d' : Def1} (e : d' = d) :
    (updW b1 nm W d).ownsMap Tryd.prog 9 defR b1 (n + 1) (M.put (strK nm) d'.d) ∧ w.grownBy (updW b1 nm W d) (some b1) := by
  subst e
  obtain ⟨_, h2, h3⟩ := updW_run h hn hs d'
  exact ⟨h2, (hg.but (some b1)).andThen h3 (fun j hj => .inr hj)⟩
theorem put_eq (d : Def1) (bd wh va sz ob sy : Int) (r0 r1 r2 n : Int) (hr : rankOf bd wh va sz = (r0, r1, r2)) (hn : (if wh = -2 ∨ bd = 2 then d.st else Go.RowKit.wrap64 (d.st + 1)) = n) :
    d.put bd wh va sz ob sy = if d.is = false ∨ 0 < cmpL (rankD (r0, r1, r2)) (rankD (d.r0, d.r1, d.r2)) then ⟨r0, r1, r2, ob, sy, n, true⟩ else { d with st := n } := by
  unfold Def1.put
  simp only [hr, hn]
end Go.Proofs.YtacfehneeanlgaaDoor.Ev
