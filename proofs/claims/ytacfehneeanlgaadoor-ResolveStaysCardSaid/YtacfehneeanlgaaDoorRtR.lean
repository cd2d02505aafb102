/- resolve: what is read of objects in memory; the table in plain words. resolve's read, walked with the kit's words: the table of all names. -/
import Derived.Test.YtacfehneeanlgaaDoorRtP
import Derived.Deep.LoopGhost
namespace Go.Proofs.YtacfehneeanlgaaDoor.Ev
open Go Go.RowKit Go.Shelf Go.Maps
set_option linter.unusedVariables false
set_option linter.unusedSimpArgs false
/-! ### What is read: objects, and their symbols -/
/-- A row's cells lie in memory. -/
def allS : Nat → Nat → Prop := gNone.stable
theorem arr_cells {W : World} {cs : List CT} {xs : List (List D)} {b o n cap : Nat} (h : DRel allS W (.arr cs) (.arr xs) (.slice (some (pl b o)) n cap)) (hn : 0 < n) : n = xs.length ∧ xs.length ≤ cap ∧ ∀ i j ct, i < xs.length → cs[j]? = some ct → ∃ v, W.cell? (pl b (o + i * cs.length + j)) = some v ∧ DRel allS W ct ((xs.getD i []).getD j default) v := by
  generalize hd : D.arr xs = d at h
  generalize hv : Value.slice (some (pl b o)) n cap = v at h
  cases h with
  | nil _ _ p h3 => injection hv with h1 h2 h3; omega
  | arr _ _ b' o' cap' f hn' hm hc hdd =>
    subst hd
    injection hv with h1 h2 h3
    injection h1 with h1
    injection h1 with e1 e2 _
    subst e1; subst e2; subst h3
    exact ⟨h2, hn', fun i j ct hi hj => ⟨f i j, (hc i j hi (List.getElem?_eq_some_iff.1 hj).1).2, hdd i j ct hi hj⟩⟩
theorem arr_slice {W : World} {cs : List CT} {d : D} {v : Value} (h : DRel allS W (.arr cs) d v) : ∃ p cap, v = .slice p d.toArr.length cap ∧ (0 < d.toArr.length → ∃ b o, p = some (pl b o)) := by
  cases h with
  | nil _ _ p h3 => exact ⟨p, 0, by rw [h3]; rfl, by rw [h3]; simp⟩
  | arr _ _ b o cap f hn hm hc hd => exact ⟨some (pl b o), cap, rfl, fun _ => ⟨b, o, rfl⟩⟩
theorem below_drel {n : Nat} {W W' : World} (hb : Go.RowKit.Below n W W') (hn : W.heap.size ≤ n) {ct : CT} {d : D} {v : Value} (h : DRel allS W ct d v) : DRel allS W' ct d v :=
  h.mono fun b o c h1 h2 => ⟨h1, (hb.cell (p := ⟨b, o, none⟩) (Nat.lt_of_lt_of_le (cell_lt h2) hn)).trans h2⟩
/-- One symbol's six cells. -/
structure SymAt (W : World) (b o : Nat) (y : List D) : Prop where
  c0 : W.cell? ⟨b, o, none⟩ = some (.string (y.getD 0 default).toStr)
  c1 : W.cell? ⟨b, o + 1, none⟩ = some (.int .u8 (y.getD 1 default).toInt)
  c2 : W.cell? ⟨b, o + 2, none⟩ = some (.bool (y.getD 2 default).toBool)
  c3 : W.cell? ⟨b, o + 3, none⟩ = some (.int .i64 (y.getD 3 default).toInt)
  c4 : W.cell? ⟨b, o + 4, none⟩ = some (.int .i64 (y.getD 4 default).toInt)
  c5 : W.cell? ⟨b, o + 5, none⟩ = some (.int .i64 (y.getD 5 default).toInt)
theorem sym_at {W : World} {Y : List (List D)} {b o n cap : Nat} (h : DRel allS W (.arr symC) (.arr Y) (.slice (some (pl b o)) n cap)) (hn : 0 < n) (i : Nat) (hi : i < Y.length) : SymAt W b (o + i * 6) (Y.getD i []) := by
  obtain ⟨_, _, hc⟩ := arr_cells h hn
  obtain ⟨v0, a0, b0⟩ := hc i 0 _ hi rfl
  obtain ⟨v1, a1, b1⟩ := hc i 1 _ hi rfl
  obtain ⟨v2, a2, b2⟩ := hc i 2 _ hi rfl
  obtain ⟨v3, a3, b3⟩ := hc i 3 _ hi rfl
  obtain ⟨v4, a4, b4⟩ := hc i 4 _ hi rfl
  obtain ⟨v5, a5, b5⟩ := hc i 5 _ hi rfl
  cases b0; cases b1; cases b2; cases b3; cases b4; cases b5
  exact ⟨a0, a1, a2, a3, a4, a5⟩
/-- One object's seven cells. -/
structure KeptAt (W : World) (b o : Nat) (e : List D) (v2 v3 v4 v5 v6 : Value) : Prop where
  c0 : W.cell? ⟨b, o, none⟩ = some (.int .i64 (e.getD 0 default).toInt)
  c1 : W.cell? ⟨b, o + 1, none⟩ = some (.int .i64 (e.getD 1 default).toInt)
  c2 : W.cell? ⟨b, o + 2, none⟩ = some v2
  c3 : W.cell? ⟨b, o + 3, none⟩ = some v3
  c4 : W.cell? ⟨b, o + 4, none⟩ = some v4
  c5 : W.cell? ⟨b, o + 5, none⟩ = some v5
  c6 : W.cell? ⟨b, o + 6, none⟩ = some v6
  d2 : DRel allS W (.arr secC) (.arr (rA e 2)) v2
  d3 : DRel allS W (.arr symC) (.arr (rA e 3)) v3
  d4 : DRel allS W (.arr relC) (.arr (rA e 4)) v4
  d5 : DRel allS W (.arr grpC) (.arr (rA e 5)) v5
  d6 : DRel allS W (.arr bls) (.arr (rA e 6)) v6
theorem kept_at {W : World} {L : List (List D)} {b o n cap : Nat} (h : DRel allS W (.arr keptC) (.arr L) (.slice (some (pl b o)) n cap)) (hn : 0 < n) (i : Nat) (hi : i < L.length) : ∃ v2 v3 v4 v5 v6, KeptAt W b (o + i * 7) (L.getD i []) v2 v3 v4 v5 v6 := by
  obtain ⟨_, _, hc⟩ := arr_cells h hn
  obtain ⟨v0, a0, b0⟩ := hc i 0 _ hi rfl
  obtain ⟨v1, a1, b1⟩ := hc i 1 _ hi rfl
  obtain ⟨v2, a2, b2⟩ := hc i 2 _ hi rfl
  obtain ⟨v3, a3, b3⟩ := hc i 3 _ hi rfl
  obtain ⟨v4, a4, b4⟩ := hc i 4 _ hi rfl
  obtain ⟨v5, a5, b5⟩ := hc i 5 _ hi rfl
  obtain ⟨v6, a6, b6⟩ := hc i 6 _ hi rfl
  cases b0; cases b1
  exact ⟨v2, v3, v4, v5, v6, a0, a1, a2, a3, a4, a5, a6, b2.toArr_congr rfl, b3.toArr_congr rfl, b4.toArr_congr rfl, b5.toArr_congr rfl, b6.toArr_congr rfl⟩
/-! ### The table in plain words, name by name -/
abbrev rN (y : List D) : ByteArray := (y.getD 0 default).toStr
/-- Does a symbol define its name? -/
def symDef (e y : List D) : Bool := decide (rI y 1 ≠ 0) && (decide (rI y 3 ≠ 0) && !(goneB (rA e 6) (rI y 3)))
/-- Does it ask for it strongly? -/
def symAsk (e y : List D) : Bool := decide (rI y 1 = 1) && !(decide (rI y 3 ≠ 0) && !(goneB (rA e 6) (rI y 3)))
def dStep (s : ByteArray) (e : List D) (i n : Nat) (d : Def1) : Def1 := if symDef e ((rA e 3).getD n []) = true ∧ rN ((rA e 3).getD n []) = s then d.put (rI ((rA e 3).getD n []) 1) (rI ((rA e 3).getD n []) 3) (rI ((rA e 3).getD n []) 4) (rI ((rA e 3).getD n []) 5) i n else d
def dRow (s : ByteArray) (e : List D) (i : Nat) (d : Def1) (n : Nat) : Def1 := (List.range n).foldl (fun d k => dStep s e i k d) d
def dAll (s : ByteArray) (L : List (List D)) (i : Nat) : Def1 := (List.range i).foldl (fun d k => dRow s (L.getD k []) k d (rA (L.getD k []) 3).length) Def1.zero
def aRow (s : ByteArray) (e : List D) (n : Nat) : Bool := (List.range n).any fun k => symAsk e ((rA e 3).getD k []) && decide (rN ((rA e 3).getD k []) = s)
def aAll (s : ByteArray) (L : List (List D)) (i : Nat) : Bool := (List.range i).any fun k => aRow s (L.getD k []) (rA (L.getD k []) 3).length
theorem dRow_succ (s : ByteArray) (e : List D) (i : Nat) (d : Def1) (n : Nat) : dRow s e i d (n + 1) = dStep s e i n (dRow s e i d n) := by simp [dRow, List.range_succ]
theorem dAll_succ (s : ByteArray) (L : List (List D)) (i : Nat) : dAll s L (i + 1) = dRow s (L.getD i []) i (dAll s L i) (rA (L.getD i []) 3).length := by simp [dAll, List.range_succ]
theorem aRow_succ (s : ByteArray) (e : List D) (n : Nat) : aRow s e (n + 1) = (aRow s e n || (symAsk e ((rA e 3).getD n []) && decide (rN ((rA e 3).getD n []) = s))) := by simp [aRow, List.range_succ]
theorem aAll_succ (s : ByteArray) (L : List (List D)) (i : Nat) : aAll s L (i + 1) = (aAll s L i || aRow s (L.getD i []) (rA (L.getD i []) 3).length) := by simp [aAll, List.range_succ]
theorem strK_inj {s t : ByteArray} (h : strK s = strK t) : s = t := by
  injection h with h
  exact ByteArray.ext (Array.toList_inj.1 h)
/-- What the two maps hold. -/
structure TabIs (M A : DataW Unit) (d : ByteArray → Def1) (a : ByteArray → Bool) : Prop where
  im : IsMap M
  ia : IsMap A
  defs : ∀ s : ByteArray, M.atKey (strK s) Def1.zero.d = (d s).d
  asks : ∀ s : ByteArray, Maps.has A (strK s) = a s
theorem str_isKey (s : ByteArray) : WideAt.IsKeyLit (strK s) := by simp [WideAt.IsKeyLit]
theorem TabIs.put {M A : DataW Unit} {d : ByteArray → Def1} {a : ByteArray → Bool} (h : TabIs M A d a) (nm : ByteArray) (x : Def1) : TabIs (M.put (strK nm) x.d) A (fun s => if nm = s then x else d s) a := by
  refine ⟨h.im.put _ _, h.ia, fun s => ?_, h.asks⟩
  by_cases e : nm = s
  · subst e; rw [if_pos rfl, atKey_put_same h.im (str_isKey _)]
  · rw [if_neg e, atKey_put_other (fun h2 => e (strK_inj h2).symm), h.defs]
theorem TabIs.ask {M A : DataW Unit} {d : ByteArray → Def1} {a : ByteArray → Bool} (h : TabIs M A d a) (nm : ByteArray) (x : DataW Unit) : TabIs M (A.put (strK nm) x) d (fun s => a s || decide (nm = s)) := by
  refine ⟨h.im, h.ia.put _ _, h.defs, fun s => ?_⟩
  by_cases e : nm = s
  · subst e; rw [has_put_same h.ia (str_isKey _)]; simp
  · rw [has_put_other (fun h2 => e (strK_inj h2).symm), h.asks]; simp [e]
theorem TabIs.congr {M A : DataW Unit} {d d' : ByteArray → Def1} {a a' : ByteArray → Bool} (h : TabIs M A d a) (e1 : ∀ s, d s = d' s) (e2 : ∀ s, a s = a' s) : TabIs M A d' a' := ⟨h.im, h.ia, fun s => by rw [← e1]; exact h.defs s, fun s => by rw [← e2]; exact h.asks s⟩
theorem tab_start : TabIs (.map []) (.map []) (fun _ => Def1.zero) (fun _ => false) := ⟨isMap_empty, isMap_empty, fun s => rfl, fun s => rfl⟩
set_option maxRecDepth 100000 in
set_option maxHeartbeats 4000000 in
/-- gone, walked: two new blocks. -/
theorem gone_calls (W : World) (i0 i1 : Int) (v2 v3 v4 v5 : Value) (p : Option Addr) (nb cb : Nat) (B : List (List D)) (hb : B.length = nb) (hd6 : DRel allS W (.arr bls) (.arr B) (.slice p nb cb)) (nm : ByteArray) (bd : Int) (hd : Bool) (wh va sz : Int) (h2 : wh ≤ nb) (h3 : nb ≤ 1048576) :
    Calls Tryd.prog 24 #[.agg #[.int .i64 i0, .int .i64 i1, v2, v3, v4, v5, .slice p nb cb], .agg #[.string nm, .int .u8 bd, .bool hd, .int .i64 wh, .int .i64 va, .int .i64 sz]] W fun e W' => e = .returned (.bool (goneB B wh)) ∧
      W' = (W.alloc (.cells #[.int .i64 i0, .int .i64 i1, v2, v3, v4, v5, .slice p nb cb] 38)).alloc (.cells #[.string nm, .int .u8 bd, .bool hd, .int .i64 wh, .int .i64 va, .int .i64 sz] 40) := by
  subst hb
  by_cases h0 : 0 < wh
  · obtain ⟨p', cap', e1, e2⟩ := arr_slice hd6
    injection e1 with e3 e4 e5
    have hnb : 0 < B.length := by omega
    obtain ⟨bb, ob, e6⟩ := e2 (by show 0 < B.length; omega)
    subst e6; subst e3
    obtain ⟨k, hk⟩ : ∃ k : Nat, wh = (k : Int) + 1 := ⟨(wh - 1).toNat, by omega⟩
    subst hk
    obtain ⟨_, _, hc⟩ := arr_cells hd6 hnb
    obtain ⟨v, a0, b0⟩ := hc k 0 .bool (by omega) rfl
    cases b0
    simp only [List.length_cons, List.length_nil, Nat.zero_add, Nat.mul_one, Nat.add_zero] at a0
    have hlt : bb < W.heap.size := cell_lt a0
    have hki : (k : Int) < (B.length : Int) := by omega
    have hk0 : (0 : Int) ≤ (k : Int) := Int.natCast_nonneg _
    have hkl : k < B.length := by omega
    have hg : goneB B ((k : Int) + 1) = !((B.getD k []).getD 0 default).toBool := by
      have : ((k : Int) + 1 - 1).toNat = k := by omega
      simp [goneB, cellB, this]
    rw [hg]
    have hw : Go.RowKit.wrap64 (k : Int) = (k : Int) := by unfold Go.RowKit.wrap64; omega
    generalize ((B.getD k []).getD 0 default).toBool = x at a0 ⊢
    clear hd6 hc e4 e5 hg e2
    go_enter Tryd.func24, Tryd.ntmps24
    go_wp2
    all_goals go_ret
    all_goals exact ⟨rfl, rfl⟩
  · have hg : goneB B wh = false := by simp [goneB, h0]
    rw [hg]
    have hw : decide (0 < wh) = false := decide_eq_false h0
    go_enter Tryd.func24, Tryd.ntmps24
    go_wp2
    all_goals go_ret
    all_goals exact ⟨rfl, rfl⟩
end Go.Proofs.YtacfehneeanlgaaDoor.Ev
namespace Go.Proofs.YtacfehneeanlgaaDoor.Ev
open Go Go.RowKit Go.Shelf Go.Maps
set_option linter.unusedVariables false
set_option linter.unusedSimpArgs false
set_option maxRecDepth 100000 in
set_option maxHeartbeats 4000000 in
theorem read_calls (w : World) (hG : GlobW w) (p : Option Addr) (cap : Nat) (L : List (List D)) (hL : DRel allS w (.arr keptC) (.arr L) (.slice p L.length cap)) (h64 : L.length ≤ 64)
    (hk : ∀ i, i < L.length → (rA (L.getD i []) 3).length ≤ 64 ∧ (rA (L.getD i []) 6).length ≤ 64 ∧ ∀ n, n < (rA (L.getD i []) 3).length → (rN ((rA (L.getD i []) 3).getD n [])).size ≤ 32 ∧ rI ((rA (L.getD i []) 3).getD n []) 3 ≤ (rA (L.getD i []) 6).length) :
    Calls Tryd.prog 22 #[.slice p L.length cap] w fun e W' => ∃ b1 b2 M A k, e = .returned (.agg #[.map (some b1), .map (some b2)]) ∧ w.heap.size ≤ b1 ∧ w.heap.size ≤ b2 ∧ b1 ≠ b2 ∧ W'.ownsMap Tryd.prog 9 defR b1 k M ∧ W'.ownsMap Tryd.prog 9 (plainElem Tryd.prog 3) b2 k A ∧ k ≤ 8192 ∧ TabIs M A (fun s => dAll s L L.length) (fun s => aAll s L L.length) ∧ Go.RowKit.Below w.heap.size w W' := by
  have hp : 0 < L.length → ∃ b o, p = some (pl b o) := by
    obtain ⟨p', cap', e1, h2⟩ := arr_slice hL
    injection e1 with e1 _ _
    rw [e1]; exact h2
  have hmm := @run_makeMap Tryd.prog
  go_enter Tryd.func22, Tryd.ntmps22
  go_wp2
  go_loopw [13] (fun i wr => ∃ (k : Nat) (M A : DataW Unit), k ≤ L.length ∧ i = .int .i64 k ∧ wr.ownsMap Tryd.prog 9 defR (w.heap.size + 1) (64 * k) M ∧ wr.ownsMap Tryd.prog 9 (plainElem Tryd.prog 3) (w.heap.size + 1 + 1) (64 * k) A ∧ TabIs M A (fun s => dAll s L k) (fun s => aAll s L k) ∧
      wr.cell? ⟨w.heap.size + 1 + 1 + 1, 0, none⟩ = some (.map (some (w.heap.size + 1))) ∧ wr.cell? ⟨w.heap.size + 1 + 1 + 1, 1, none⟩ = some (.map (some (w.heap.size + 1 + 1))) ∧
      (∀ j, j < 2 → (∃ v, wr.cell? ⟨w.heap.size, j, none⟩ = some v) ∧ wr.frozen? ⟨w.heap.size, j, none⟩ = false) ∧ Go.RowKit.Below w.heap.size w wr)
    (fun i _ => L.length - (intOf i).toNat)
  case atStart =>
    refine ⟨0, .map [], .map [], Nat.zero_le _, rfl, ?_, ?_, tab_start, ?_, ?_, fun j hj => ?_, ?_⟩
    · have h1 := World.ownsMap_made (w.alloc (Obj.cells #[Value.map none, Value.map none] 58)) Tryd.prog 9 defR
      rw [World.size_alloc] at h1
      exact (h1.alloc _).alloc _
    · have h1 := World.ownsMap_made ((w.alloc (Obj.cells #[Value.map none, Value.map none] 58)).alloc (Obj.map #[] 0)) Tryd.prog 9 (plainElem (H := Unit) Tryd.prog 3)
      rw [World.size_alloc, World.size_alloc] at h1
      exact h1.alloc _
    · exact World.cell?_alloc_at _ _ _ 0 (by simp)
    · exact World.cell?_alloc_at _ _ _ 1 (by simp)
    · have e1 : ∀ j, ((((w.alloc (Obj.cells #[Value.map none, Value.map none] 58)).alloc (Obj.map #[] 0)).alloc (Obj.map #[] 0)).alloc (Obj.cells #[Value.map (some (w.heap.size + 1)), Value.map (some (w.heap.size + 1 + 1))] 58)).cell? ⟨w.heap.size, j, none⟩ = (#[Value.map none, Value.map none] : Array Value)[j]? := fun j =>
        (World.cell?_alloc_past _ _ j (by simp; omega)).trans ((World.cell?_alloc_past _ _ j (by simp; omega)).trans ((World.cell?_alloc_past _ _ j (by simp)).trans (World.cell?_alloc_at _ _ _ j rfl)))
      have e2 : ∀ j, ((((w.alloc (Obj.cells #[Value.map none, Value.map none] 58)).alloc (Obj.map #[] 0)).alloc (Obj.map #[] 0)).alloc (Obj.cells #[Value.map (some (w.heap.size + 1)), Value.map (some (w.heap.size + 1 + 1))] 58)).frozen? ⟨w.heap.size, j, none⟩ = false := fun j =>
        (World.frozen?_alloc_past _ _ j (by simp; omega)).trans ((World.frozen?_alloc_past _ _ j (by simp; omega)).trans ((World.frozen?_alloc_past _ _ j (by simp)).trans (World.frozen?_alloc_at _ _ _ j rfl)))
      refine ⟨?_, e2 j⟩
      match j with
      | 0 => exact ⟨_, e1 0⟩
      | 1 => exact ⟨_, e1 1⟩
      | j + 2 => omega
    · exact ((((Go.RowKit.Below.refl _ w).alloc (Nat.le_refl _) _).alloc (by simp) _).alloc (by simp; omega) _).alloc (by simp; omega) _
  case round =>
    obtain ⟨k, M, A, hk0, rfl, hM, hA, hT, ht0, ht1, hres, hB⟩ := hrel
    by_cases hlt : k < L.length
    · have hLn : 0 < L.length := by omega
      obtain ⟨b, o, rfl⟩ := hp hLn
      obtain ⟨v2, v3, v4, v5, v6, q0, q1, q2, q3, q4, q5, q6, d2, d3, d4, d5, d6⟩ := kept_at hL hLn k hlt
      obtain ⟨p2, c2, rfl, -⟩ := arr_slice d2
      obtain ⟨p3, c3, rfl, hp3⟩ := arr_slice d3
      obtain ⟨p4, c4, rfl, -⟩ := arr_slice d4
      obtain ⟨p5, c5, rfl, -⟩ := arr_slice d5
      obtain ⟨p6, c6, rfl, -⟩ := arr_slice d6
      obtain ⟨k3, k6, kn⟩ := hk k hlt
      simp only [D.toArr] at q2 q3 q4 q5 q6 d3 d6 hp3
      clear d2 d4 d5
      have hbw : b < w.heap.size := cell_lt q0
      replace q0 := (hB.cell (p := ⟨b, o + k * 7, none⟩) hbw).trans q0
      replace q1 := (hB.cell (p := ⟨b, o + k * 7 + 1, none⟩) hbw).trans q1
      replace q2 := (hB.cell (p := ⟨b, o + k * 7 + 2, none⟩) hbw).trans q2
      replace q3 := (hB.cell (p := ⟨b, o + k * 7 + 3, none⟩) hbw).trans q3
      replace q4 := (hB.cell (p := ⟨b, o + k * 7 + 4, none⟩) hbw).trans q4
      replace q5 := (hB.cell (p := ⟨b, o + k * 7 + 5, none⟩) hbw).trans q5
      replace q6 := (hB.cell (p := ⟨b, o + k * 7 + 6, none⟩) hbw).trans q6
      generalize ((L.getD k []).getD 0 default).toInt = i0 at q0
      generalize ((L.getD k []).getD 1 default).toInt = i1 at q1
      have hE : ∃ E, E = L.getD k [] := ⟨_, rfl⟩
      obtain ⟨E, hE⟩ := hE
      rw [← hE] at q2 q3 q4 q5 q6 d3 d6 hp3 k3 k6 kn
      obtain ⟨Y, hY⟩ : ∃ Y, Y = rA E 3 := ⟨_, rfl⟩
      obtain ⟨B, hBo⟩ : ∃ B, B = rA E 6 := ⟨_, rfl⟩
      rw [← hY] at q3 d3 hp3 k3 kn
      rw [← hBo] at q6 d6 k6 kn
      generalize (rA E 2).length = n2 at q2
      generalize (rA E 4).length = n4 at q4
      generalize (rA E 5).length = n5 at q5
      have hbr : b < wr.heap.size := Nat.lt_of_lt_of_le hbw hB.size
      have HE : Aside (E = L.getD k []) := hE
      have HY : Aside (Y = rA E 3) := hY
      have HBo : Aside (B = rA E 6) := hBo
      clear hE hY hBo
      go_wp2
      go_loopw [22] (fun i w2 => ∃ (n : Nat) (M A : DataW Unit), n ≤ Y.length ∧ i = .int .i64 n ∧ w2.ownsMap Tryd.prog 9 defR (w.heap.size + 1) (64 * k + n) M ∧ w2.ownsMap Tryd.prog 9 (plainElem Tryd.prog 3) (w.heap.size + 1 + 1) (64 * k + n) A ∧ TabIs M A (fun s => dRow s E k (dAll s L k) n) (fun s => aAll s L k || aRow s E n) ∧
        w2.cell? ⟨w.heap.size + 1 + 1 + 1, 0, none⟩ = some (.map (some (w.heap.size + 1))) ∧ w2.cell? ⟨w.heap.size + 1 + 1 + 1, 1, none⟩ = some (.map (some (w.heap.size + 1 + 1))) ∧
        (∀ j, j < 2 → (∃ v, w2.cell? ⟨w.heap.size, j, none⟩ = some v) ∧ w2.frozen? ⟨w.heap.size, j, none⟩ = false) ∧
        (∀ j, w2.cell? ⟨wr.heap.size, j, none⟩ = (#[.int .i64 i0, .int .i64 i1, .slice p2 n2 c2, .slice p3 Y.length c3, .slice p4 n4 c4, .slice p5 n5 c5, .slice p6 B.length c6] : Array Value)[j]?) ∧ wr.heap.size < w2.heap.size ∧ Go.RowKit.Below w.heap.size w w2)
        (fun i _ => Y.length - (intOf i).toNat)
      case atStart =>
        refine ⟨0, M, A, Nat.zero_le _, rfl, (hM.alloc _).mono (by omega), (hA.alloc _).mono (by omega), hT.congr (fun s => rfl) (fun s => by simp [aRow]), ?_, ?_, fun j hj => ?_, fun j => World.cell?_alloc_at _ _ _ j rfl, by simp, hB.alloc hB.size _⟩
        · exact (World.cell?_alloc_past _ _ 0 (cell_lt ht0)).trans ht0
        · exact (World.cell?_alloc_past _ _ 1 (cell_lt ht1)).trans ht1
        · obtain ⟨⟨v, r⟩, z⟩ := hres j hj
          exact ⟨⟨v, (World.cell?_alloc_past _ _ j (cell_lt r)).trans r⟩, (World.frozen?_alloc_past _ _ j (cell_lt r)).trans z⟩
      case round =>
        obtain ⟨n, M', A', hn0, rfl, hM', hA', hT', ht0', ht1', hres', h5, hsz, hB'⟩ := hrel
        by_cases hlt2 : n < Y.length
        · have d3' := below_drel hB' (Nat.le_refl _) d3
          have d6' := below_drel hB' (Nat.le_refl _) d6
          obtain ⟨bs, os, rfl⟩ := hp3 (by omega)
          obtain ⟨s0, s1, s2, s3, s4, s5⟩ := sym_at d3' (by omega) n hlt2
          obtain ⟨kn1, kn2⟩ := kn n hlt2
          obtain ⟨y, hy⟩ : ∃ y, y = Y.getD n [] := ⟨_, rfl⟩
          rw [← hy] at s0 s1 s2 s3 s4 s5 kn1 kn2
          obtain ⟨nm, hnm⟩ : ∃ nm, nm = rN y := ⟨_, rfl⟩
          obtain ⟨bd, hbd⟩ : ∃ bd, bd = rI y 1 := ⟨_, rfl⟩
          obtain ⟨wh, hwh⟩ : ∃ wh, wh = rI y 3 := ⟨_, rfl⟩
          obtain ⟨va, hva⟩ : ∃ va, va = rI y 4 := ⟨_, rfl⟩
          obtain ⟨sz, hsz5⟩ : ∃ sz, sz = rI y 5 := ⟨_, rfl⟩
          have e0 : (y.getD 0 default).toStr = nm := hnm.symm
          have e1 : (y.getD 1 default).toInt = bd := hbd.symm
          have e3 : (y.getD 3 default).toInt = wh := hwh.symm
          have e4 : (y.getD 4 default).toInt = va := hva.symm
          have e5 : (y.getD 5 default).toInt = sz := hsz5.symm
          rw [e0] at s0
          rw [e1] at s1
          rw [e3] at s3
          rw [e4] at s4
          rw [e5] at s5
          rw [← hnm] at kn1
          rw [← hwh] at kn2
          generalize (y.getD 2 default).toBool = hd at s2
          have Hy : Aside (y = Y.getD n []) := hy
          have Hn : Aside (nm = rN y ∧ bd = rI y 1 ∧ wh = rI y 3 ∧ va = rI y 4 ∧ sz = rI y 5) := ⟨hnm, hbd, hwh, hva, hsz5⟩
          have hmx : nm.size ≤ maxLen := by unfold maxLen; omega
          clear hy hnm hbd hwh hva hsz5 e0 e1 e3 e4 e5 hB
          have hbs := cell_lt s0
          by_cases hb0 : bd = 0
          · subst hb0
            go_wp2
            go_roundw
            case rel =>
              refine ⟨n + 1, M', A', by omega, by simp, (hM'.alloc _).mono (by omega), (hA'.alloc _).mono (by omega), hT'.congr (fun s => ?_) (fun s => ?_), ?_, ?_, fun j hj => ?_, fun j => ?_, by simp; omega, hB'.alloc hB'.size _⟩
              · rw [dRow_succ, dStep, ← HY.out, ← Hy.out, if_neg (fun h => by have := h.1; simp [symDef, ← Hn.out.2.1] at this)]
              · rw [aRow_succ, ← HY.out, ← Hy.out]; simp [symAsk, ← Hn.out.2.1]
              · exact (World.cell?_alloc_past _ _ 0 (cell_lt ht0')).trans ht0'
              · exact (World.cell?_alloc_past _ _ 1 (cell_lt ht1')).trans ht1'
              · obtain ⟨⟨v, r⟩, z⟩ := hres' j hj
                exact ⟨⟨v, (World.cell?_alloc_past _ _ j (cell_lt r)).trans r⟩, (World.frozen?_alloc_past _ _ j (cell_lt r)).trans z⟩
              · exact (World.cell?_alloc_past _ _ j hsz).trans (h5 j)
            case measure => simp [intOf]; omega
          · have hbf : (bd == 0) = false := beq_eq_false_iff_ne.2 hb0
            have d6a : ∀ A : Obj, DRel allS (wr.alloc A) (.arr bls) (.arr B) (.slice p6 B.length c6) := fun A => below_drel ((Go.RowKit.Below.refl _ wr).alloc (Nat.le_refl _) A) (Nat.le_refl _) d6'
            have k6' : B.length ≤ 1048576 := by omega
            by_cases hdf : wh ≠ 0 ∧ goneB B wh = false
            · obtain ⟨hw0, hgo⟩ := hdf
              have hwf : (wh == 0) = false := beq_eq_false_iff_ne.2 hw0
              have hB3 : ∀ A B1 C1 : Obj, Go.RowKit.Below wr.heap.size wr (((wr.alloc A).alloc B1).alloc C1) := fun A B1 C1 => (((Go.RowKit.Below.refl _ wr).alloc (Nat.le_refl _) _).alloc (by simp) _).alloc (by simp; omega) _
              have g3 : ∀ A B1 C1 : Obj, GlobW (((wr.alloc A).alloc B1).alloc C1) := fun A B1 C1 => (hG.below hB' (fun x hx => (hG x hx).1)).below (hB3 A B1 C1) (fun x hx => Nat.lt_of_lt_of_le (hG x hx).1 hB'.size)
              have c3' : ∀ (A B1 C1 : Obj) (bb k : Nat) (v : Value), wr.cell? ⟨bb, k, none⟩ = some v → (((wr.alloc A).alloc B1).alloc C1).cell? ⟨bb, k, none⟩ = some v := fun A B1 C1 bb k v h => ((hB3 A B1 C1).cell (p := ⟨bb, k, none⟩) (cell_lt h)).trans h
              have m3 : ∀ A B1 C1 : Obj, (((wr.alloc A).alloc B1).alloc C1).ownsMap Tryd.prog 9 defR (w.heap.size + 1) (64 * k + n) M' := fun A B1 C1 => ((hM'.alloc A).alloc B1).alloc C1
              have a3 : ∀ A B1 C1 : Obj, (((wr.alloc A).alloc B1).alloc C1).ownsMap Tryd.prog 9 (plainElem Tryd.prog 3) (w.heap.size + 1 + 1) (64 * k + n) A' := fun A B1 C1 => ((hA'.alloc A).alloc B1).alloc C1
              have s3 : ∀ A B1 C1 : Obj, (((wr.alloc A).alloc B1).alloc C1).heap.size = wr.heap.size + 3 := fun A B1 C1 => by simp
              have z3 : ∀ (A B1 C1 : Obj) (bb k : Nat) (x : Bool), bb < wr.heap.size → wr.frozen? ⟨bb, k, none⟩ = x → (((wr.alloc A).alloc B1).alloc C1).frozen? ⟨bb, k, none⟩ = x := fun A B1 C1 bb k x hb h => ((World.frozen?_alloc_past _ _ k (by simp; omega)).trans ((World.frozen?_alloc_past _ _ k (by simp; omega)).trans (World.frozen?_alloc_past _ _ k hb))).trans h
              have hnk : 64 * k + n < maxLen := by unfold maxLen; omega
              go_wp2_with (first
                | (go_at_call 24; refine (gone_calls _ _ _ _ _ _ _ _ _ _ B rfl (d6a _) _ _ _ _ _ _ kn2 k6').mono ?_; rintro e W3 ⟨rfl, rfl⟩; rw [hgo])
                | (go_at_call 28; refine (put_calls _ (g3 _ _ _) _ _ _ M' (c3' _ _ _ _ _ _ ht0') (m3 _ _ _) hnk nm hmx _ _ _ _ _ _ _ _ (hT'.defs nm)).mono ?_; rintro e W4 ⟨rfl, hM4, hg4⟩)
                | go_in)
              go_roundw
              case rel =>
                have e4 : ∀ bb, bb < wr.heap.size → bb ≠ w.heap.size + 1 → W4.heap[bb]? = wr.heap[bb]? := fun bb h1 h2 => (hg4.block bb (by rw [s3]; omega) (by simp; omega)).trans ((hB3 _ _ _).block bb h1)
                have k4 : ∀ bb j, bb < wr.heap.size → bb ≠ w.heap.size + 1 → W4.cell? ⟨bb, j, none⟩ = wr.cell? ⟨bb, j, none⟩ := fun bb j h1 h2 => World.cell?_of_block (a := ⟨bb, j, none⟩) (e4 bb h1 h2)
                have z4 : ∀ bb j, bb < wr.heap.size → bb ≠ w.heap.size + 1 → W4.frozen? ⟨bb, j, none⟩ = wr.frozen? ⟨bb, j, none⟩ := fun bb j h1 h2 => by simp only [World.frozen?, e4 bb h1 h2]
                have hws := hB'.size
                have hltt := cell_lt ht0'
                have hsd : symDef E y = true := by simp [symDef, ← Hn.out.2.1, ← Hn.out.2.2.1, ← HBo.out, hb0, hw0, hgo]
                have hsa : symAsk E y = false := by simp [symAsk, ← Hn.out.2.1, ← Hn.out.2.2.1, ← HBo.out, hw0, hgo]
                refine ⟨n + 1, _, A', by omega, by simp, hM4, ((a3 _ _ _).kept hg4 (by simp)).mono (by omega), (hT'.put nm _).congr (fun s => ?_) (fun s => ?_), (k4 _ 0 hltt (by omega)).trans ht0', (k4 _ 1 hltt (by omega)).trans ht1', fun j hj => ?_, fun j => (k4 _ j hsz ?_).trans (h5 j), ?_, ?_⟩
                · rw [dRow_succ, dStep, ← HY.out, ← Hy.out, hsd, ← Hn.out.1, ← Hn.out.2.1, ← Hn.out.2.2.1, ← Hn.out.2.2.2.1, ← Hn.out.2.2.2.2]
                  by_cases h : nm = s
                  · subst h; simp
                  · simp [h]
                · rw [aRow_succ, ← HY.out, ← Hy.out, hsa]; simp
                · obtain ⟨⟨v, r⟩, z⟩ := hres' j hj
                  have := cell_lt r
                  exact ⟨⟨v, (k4 _ j this (by omega)).trans r⟩, (z4 _ j this (by omega)).trans z⟩
                · exact Nat.ne_of_gt hM.lt
                · have := hg4.size; rw [s3] at this; omega
                · have h3 := hB3 (Obj.cells #[.string nm, .int .u8 bd, .bool hd, .int .i64 wh, .int .i64 va, .int .i64 sz] 40) (Obj.cells #[.int .i64 i0, .int .i64 i1, .slice p2 n2 c2, .slice (some (pl bs os)) Y.length c3, .slice p4 n4 c4, .slice p5 n5 c5, .slice p6 B.length c6] 38) (Obj.cells #[.string nm, .int .u8 bd, .bool hd, .int .i64 wh, .int .i64 va, .int .i64 sz] 40)
                  exact ⟨hg4.os.trans (h3.os.trans hB'.os), hg4.tape.trans (h3.tape.trans hB'.tape), hg4.output.trans (h3.output.trans hB'.output), by have := hg4.size; rw [s3] at this; omega, fun i hi => (e4 i (by omega) (by omega)).trans (hB'.block i hi)⟩
              case measure => simp [intOf]; omega
            · have hB3 : ∀ A B1 C1 : Obj, Go.RowKit.Below wr.heap.size wr (((wr.alloc A).alloc B1).alloc C1) := fun A B1 C1 => (((Go.RowKit.Below.refl _ wr).alloc (Nat.le_refl _) _).alloc (by simp) _).alloc (by simp; omega) _
              have c3' : ∀ (A B1 C1 : Obj) (bb k : Nat) (v : Value), wr.cell? ⟨bb, k, none⟩ = some v → (((wr.alloc A).alloc B1).alloc C1).cell? ⟨bb, k, none⟩ = some v := fun A B1 C1 bb k v h => ((hB3 A B1 C1).cell (p := ⟨bb, k, none⟩) (cell_lt h)).trans h
              have z3 : ∀ (A B1 C1 : Obj) (bb k : Nat) (x : Bool), bb < wr.heap.size → wr.frozen? ⟨bb, k, none⟩ = x → (((wr.alloc A).alloc B1).alloc C1).frozen? ⟨bb, k, none⟩ = x := fun A B1 C1 bb k x hb h => ((World.frozen?_alloc_past _ _ k (by simp; omega)).trans ((World.frozen?_alloc_past _ _ k (by simp; omega)).trans (World.frozen?_alloc_past _ _ k hb))).trans h
              have hnk : 64 * k + n < maxLen := by unfold maxLen; omega
              have hkey : keyOf Tryd.prog 9 (.string nm) = some (strK nm) := WideMaps.keyOf_string_mk Tryd.underlying9 hmx
              have hws := hB'.size
              have hbt3 : w.heap.size + 1 + 1 + 1 < wr.heap.size := cell_lt ht1'
              have hnd : symDef E y = false := by
                cases hx : symDef E y with
                | false => rfl
                | true =>
                  exfalso
                  simp only [symDef, ← Hn.out.2.2.1, ← HBo.out, Bool.and_eq_true, decide_eq_true_eq, Bool.not_eq_true'] at hx
                  exact hdf hx.2
              have hasb : symAsk E y = decide (bd = 1) := by
                have h2 : (decide (wh ≠ 0) && !(goneB B wh)) = false := by
                  cases hx : (decide (wh ≠ 0) && !(goneB B wh)) with
                  | false => rfl
                  | true => exfalso; simp only [Bool.and_eq_true, decide_eq_true_eq, Bool.not_eq_true'] at hx; exact hdf hx
                simp only [symAsk, ← Hn.out.2.1, ← Hn.out.2.2.1, ← HBo.out, h2]; simp
              have s3 : ∀ A B1 C1 : Obj, (((wr.alloc A).alloc B1).alloc C1).heap.size = wr.heap.size + 3 := fun A B1 C1 => by simp
              by_cases hw0 : wh = 0
              · subst hw0
                have hgt : True := trivial
                by_cases ha : bd = 1
                · subst ha
                  go_wp2_with (first
                  | (go_at_call 24; refine (gone_calls _ _ _ _ _ _ _ _ _ _ B rfl (d6a _) _ _ _ _ _ _ kn2 k6').mono ?_; rintro e W3 ⟨rfl, rfl⟩; skip)
                  | (at_lookup; refine wpList_lookup_own_int _ rfl _ _ 56 rfl 9 3 .i64 str_law Tryd.underlying56 Tryd.underlying3 (zero_int _) _ _ A' rfl ((hA').alloc _) _ _ rfl hkey ?_; intro c hat hwc)
                  | (at_mapUpdate; refine wpList_mapUpdate_own _ rfl _ _ _ 56 rfl 9 3 str_law Tryd.underlying56 _ _ _ A' rfl ((hA').alloc _) hnk _ _ _ rfl rfl hkey _ [] (plainElem_int Tryd.underlying3 (wrap64_wf _)) ?_; intro W4 hA4 hg4; go_frame)
                  | go_in)
                  go_roundw
                  case rel =>
                    have e4 : ∀ bb, bb < wr.heap.size → bb ≠ w.heap.size + 1 + 1 → W4.heap[bb]? = wr.heap[bb]? := fun bb h1 h2 => (hg4.block bb (by rw [World.size_alloc]; omega) (by simp; omega)).trans (heap_push_old wr _ h1)
                    have k4 : ∀ bb j, bb < wr.heap.size → bb ≠ w.heap.size + 1 + 1 → W4.cell? ⟨bb, j, none⟩ = wr.cell? ⟨bb, j, none⟩ := fun bb j h1 h2 => World.cell?_of_block (a := ⟨bb, j, none⟩) (e4 bb h1 h2)
                    have z4 : ∀ bb j, bb < wr.heap.size → bb ≠ w.heap.size + 1 + 1 → W4.frozen? ⟨bb, j, none⟩ = wr.frozen? ⟨bb, j, none⟩ := fun bb j h1 h2 => by simp only [World.frozen?, e4 bb h1 h2]
                    have hltt := cell_lt ht0'
                    have hsa : symAsk E y = true := by rw [hasb]; rfl
                    refine ⟨n + 1, M', _, by omega, by simp, (((hM').alloc _).kept hg4 (by simp)).mono (by omega), hA4, (hT'.ask nm _).congr (fun s => ?_) (fun s => ?_), (k4 _ 0 hltt (by omega)).trans ht0', (k4 _ 1 hltt (by omega)).trans ht1', fun j hj => ?_, fun j => (k4 _ j hsz (Nat.ne_of_gt hA.lt)).trans (h5 j), ?_, ?_⟩
                    · rw [dRow_succ, dStep, ← HY.out, ← Hy.out, hnd]; simp
                    · rw [aRow_succ, ← HY.out, ← Hy.out, hsa, ← Hn.out.1, Bool.true_and, Bool.or_assoc]
                    · obtain ⟨⟨v, r⟩, z⟩ := hres' j hj
                      have := cell_lt r
                      exact ⟨⟨v, (k4 _ j this (by omega)).trans r⟩, (z4 _ j this (by omega)).trans z⟩
                    · have := hg4.size; rw [World.size_alloc] at this; omega
                    · exact ⟨hg4.os.trans hB'.os, hg4.tape.trans hB'.tape, hg4.output.trans hB'.output, by have := hg4.size; rw [World.size_alloc] at this; omega, fun i hi => (e4 i (by omega) (by omega)).trans (hB'.block i hi)⟩
                  case measure => simp [intOf]; omega
                · have haf : (bd == 1) = false := beq_eq_false_iff_ne.2 ha
                  go_wp2
                  go_roundw
                  case rel =>
                    have hsa : symAsk E y = false := by rw [hasb]; exact decide_eq_false ha
                    refine ⟨n + 1, M', A', by omega, by simp, ((hM').alloc _).mono (by omega), ((hA').alloc _).mono (by omega), hT'.congr (fun s => ?_) (fun s => ?_), ?_, ?_, fun j hj => ?_, fun j => ?_, by simp; omega, hB'.alloc hB'.size _⟩
                    · rw [dRow_succ, dStep, ← HY.out, ← Hy.out, hnd]; simp
                    · rw [aRow_succ, ← HY.out, ← Hy.out, hsa]; simp
                    · exact (World.cell?_alloc_past _ _ 0 (cell_lt ht0')).trans ht0'
                    · exact (World.cell?_alloc_past _ _ 1 (cell_lt ht1')).trans ht1'
                    · obtain ⟨⟨v, r⟩, z⟩ := hres' j hj
                      exact ⟨⟨v, (World.cell?_alloc_past _ _ j (cell_lt r)).trans r⟩, (World.frozen?_alloc_past _ _ j (cell_lt r)).trans z⟩
                    · exact (World.cell?_alloc_past _ _ j hsz).trans (h5 j)
                  case measure => simp [intOf]; omega
              · have hwf : (wh == 0) = false := beq_eq_false_iff_ne.2 hw0
                have hgt : goneB B wh = true := by
                  cases hx : goneB B wh with
                  | true => rfl
                  | false => exact absurd ⟨hw0, hx⟩ hdf
                by_cases ha : bd = 1
                · subst ha
                  go_wp2_with (first
                  | (go_at_call 24; refine (gone_calls _ _ _ _ _ _ _ _ _ _ B rfl (d6a _) _ _ _ _ _ _ kn2 k6').mono ?_; rintro e W3 ⟨rfl, rfl⟩; rw [hgt])
                  | (at_lookup; refine wpList_lookup_own_int _ rfl _ _ 56 rfl 9 3 .i64 str_law Tryd.underlying56 Tryd.underlying3 (zero_int _) _ _ A' rfl ((((hA').alloc _).alloc _).alloc _) _ _ rfl hkey ?_; intro c hat hwc)
                  | (at_mapUpdate; refine wpList_mapUpdate_own _ rfl _ _ _ 56 rfl 9 3 str_law Tryd.underlying56 _ _ _ A' rfl ((((hA').alloc _).alloc _).alloc _) hnk _ _ _ rfl rfl hkey _ [] (plainElem_int Tryd.underlying3 (wrap64_wf _)) ?_; intro W4 hA4 hg4; go_frame)
                  | go_in)
                  go_roundw
                  case rel =>
                    have e4 : ∀ bb, bb < wr.heap.size → bb ≠ w.heap.size + 1 + 1 → W4.heap[bb]? = wr.heap[bb]? := fun bb h1 h2 => (hg4.block bb (by rw [s3]; omega) (by simp; omega)).trans ((hB3 _ _ _).block bb h1)
                    have k4 : ∀ bb j, bb < wr.heap.size → bb ≠ w.heap.size + 1 + 1 → W4.cell? ⟨bb, j, none⟩ = wr.cell? ⟨bb, j, none⟩ := fun bb j h1 h2 => World.cell?_of_block (a := ⟨bb, j, none⟩) (e4 bb h1 h2)
                    have z4 : ∀ bb j, bb < wr.heap.size → bb ≠ w.heap.size + 1 + 1 → W4.frozen? ⟨bb, j, none⟩ = wr.frozen? ⟨bb, j, none⟩ := fun bb j h1 h2 => by simp only [World.frozen?, e4 bb h1 h2]
                    have hltt := cell_lt ht0'
                    have hsa : symAsk E y = true := by rw [hasb]; rfl
                    refine ⟨n + 1, M', _, by omega, by simp, (((((hM').alloc _).alloc _).alloc _).kept hg4 (by simp)).mono (by omega), hA4, (hT'.ask nm _).congr (fun s => ?_) (fun s => ?_), (k4 _ 0 hltt (by omega)).trans ht0', (k4 _ 1 hltt (by omega)).trans ht1', fun j hj => ?_, fun j => (k4 _ j hsz (Nat.ne_of_gt hA.lt)).trans (h5 j), ?_, ?_⟩
                    · rw [dRow_succ, dStep, ← HY.out, ← Hy.out, hnd]; simp
                    · rw [aRow_succ, ← HY.out, ← Hy.out, hsa, ← Hn.out.1, Bool.true_and, Bool.or_assoc]
                    · obtain ⟨⟨v, r⟩, z⟩ := hres' j hj
                      have := cell_lt r
                      exact ⟨⟨v, (k4 _ j this (by omega)).trans r⟩, (z4 _ j this (by omega)).trans z⟩
                    · have := hg4.size; rw [s3] at this; omega
                    · exact ⟨hg4.os.trans hB'.os, hg4.tape.trans hB'.tape, hg4.output.trans hB'.output, by have := hg4.size; rw [s3] at this; omega, fun i hi => (e4 i (by omega) (by omega)).trans (hB'.block i hi)⟩
                  case measure => simp [intOf]; omega
                · have haf : (bd == 1) = false := beq_eq_false_iff_ne.2 ha
                  go_wp2_with (first
                  | (go_at_call 24; refine (gone_calls _ _ _ _ _ _ _ _ _ _ B rfl (d6a _) _ _ _ _ _ _ kn2 k6').mono ?_; rintro e W3 ⟨rfl, rfl⟩; rw [hgt])
                  | (at_lookup; refine wpList_lookup_own_int _ rfl _ _ 56 rfl 9 3 .i64 str_law Tryd.underlying56 Tryd.underlying3 (zero_int _) _ _ A' rfl ((((hA').alloc _).alloc _).alloc _) _ _ rfl hkey ?_; intro c hat hwc)
                  | (at_mapUpdate; refine wpList_mapUpdate_own _ rfl _ _ _ 56 rfl 9 3 str_law Tryd.underlying56 _ _ _ A' rfl ((((hA').alloc _).alloc _).alloc _) hnk _ _ _ rfl rfl hkey _ [] (plainElem_int Tryd.underlying3 (wrap64_wf _)) ?_; intro W4 hA4 hg4; go_frame)
                  | go_in)
                  go_roundw
                  case rel =>
                    have hsa : symAsk E y = false := by rw [hasb]; exact decide_eq_false ha
                    refine ⟨n + 1, M', A', by omega, by simp, ((((hM').alloc _).alloc _).alloc _).mono (by omega), ((((hA').alloc _).alloc _).alloc _).mono (by omega), hT'.congr (fun s => ?_) (fun s => ?_), ?_, ?_, fun j hj => ?_, fun j => ?_, by simp; omega, hB'.trans ((hB3 _ _ _).mono hB'.size)⟩
                    · rw [dRow_succ, dStep, ← HY.out, ← Hy.out, hnd]; simp
                    · rw [aRow_succ, ← HY.out, ← Hy.out, hsa]; simp
                    · exact c3' _ _ _ _ 0 _ ht0'
                    · exact c3' _ _ _ _ 1 _ ht1'
                    · obtain ⟨⟨v, r⟩, z⟩ := hres' j hj
                      exact ⟨⟨v, c3' _ _ _ _ j _ r⟩, z3 _ _ _ _ j _ (cell_lt r) z⟩
                    · exact ((hB3 _ _ _).cell (p := ⟨_, j, none⟩) hsz).trans (h5 j)
                  case measure => simp [intOf]; omega
        · obtain rfl : n = Y.length := by omega
          go_wp2
          go_roundw
          case rel =>
            refine ⟨k + 1, M', A', by omega, by simp, hM'.mono (by omega), hA'.mono (by omega), hT'.congr (fun s => ?_) (fun s => ?_), ht0', ht1', hres', hB'⟩
            · rw [dAll_succ, ← HE.out, ← HY.out]
            · rw [aAll_succ, ← HE.out, ← HY.out]
          case measure => simp [intOf]; omega
    · obtain rfl : k = L.length := by omega
      obtain ⟨⟨x0, r0⟩, z0⟩ := hres 0 (by omega)
      obtain ⟨⟨x1, r1⟩, z1⟩ := hres 1 (by omega)
      go_wp2
      refine ⟨rfl, .agg #[.map (some (w.heap.size + 1)), .map (some (w.heap.size + 1 + 1))], ?_, ?_⟩
      · have g0 : ∀ a, (wr.setCell ⟨w.heap.size, 0, none⟩ a).cell? ⟨w.heap.size, 0, none⟩ = some a := fun a => World.cell?_setCell_same _ _ _ r0
        have g1 : ∀ a c, ((wr.setCell ⟨w.heap.size, 0, none⟩ a).setCell ⟨w.heap.size, 1, none⟩ c).cell? ⟨w.heap.size, 1, none⟩ = some c := fun a c => World.cell?_setCell_same _ _ _ ((World.cell?_setCell_other _ _ _ _ (by simp)).trans r1)
        simp [results, Tryd.f22, go_sem, g0, g1]
      · refine ⟨_, _, M, A, 64 * L.length, rfl, by omega, by omega, by omega, (hM.setCell (by simp) _).setCell (by simp) _, (hA.setCell (by simp; omega) _).setCell (by simp; omega) _, by omega, hT, ?_⟩
        exact (hB.setCell (Nat.le_refl _) _).setCell (Nat.le_refl _) _
end Go.Proofs.YtacfehneeanlgaaDoor.Ev
