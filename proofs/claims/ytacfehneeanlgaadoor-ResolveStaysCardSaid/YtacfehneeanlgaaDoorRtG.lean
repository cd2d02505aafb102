/- resolve.Bind, walked. -/
import Derived.Test.YtacfehneeanlgaaDoorRtH
import Derived.Maps.RangeWalk
namespace Go.Proofs.YtacfehneeanlgaaDoor.Ev
open Go Go.RowKit Go.Shelf Go.Maps
set_option linter.unusedVariables false
set_option linter.unusedSimpArgs false
theorem grown_below {a c : World} (h : a.grownBy c none) : Go.RowKit.Below a.heap.size a c := ⟨h.os, h.tape, h.output, h.size, fun i hi => h.block i hi (by simp)⟩
/-- Blocks of rows of bounds. -/
def stR (base : Nat) (W : World) (b o : Nat) : Prop := base ≤ b ∧ ∃ c fz, W.heap[b]? = some (.cells c 43 fz)
def RowsAre (base : Nat) (W : World) (L : List (List D)) (xs : List Value) : Prop := ∀ i y, xs[i]? = some y → DRel (stR base W) W (.arr bndC) (.arr (rowD L i)) y
theorem RowsAre.mono {base : Nat} {W W' : World} {L : List (List D)} {xs : List Value} (h : RowsAre base W L xs) (hb : ∀ b o, stR base W b o → W'.heap[b]? = W.heap[b]?) : RowsAre base W' L xs := fun i y hy =>
  (h i y hy).mono fun b o c h1 h2 => ⟨⟨h1.1, by rw [hb b o h1]; exact h1.2⟩, by rw [cell_of_heap (hb b o h1)]; exact h2⟩
theorem RowsAre.grown {base : Nat} {W W' : World} {L : List (List D)} {xs : List Value} (h : RowsAre base W L xs) (hg : W.grownBy W' none) : RowsAre base W' L xs := h.mono fun b o h1 => by
  obtain ⟨_, c, fz, h2⟩ := h1
  exact hg.block b (Array.getElem?_eq_some_iff.1 h2).1 (by simp)
theorem RowsAre.push {base k : Nat} {W W' : World} {L : List (List D)} {v x : Value} {xs : List Value} (h : RowsAre base W L xs) (hown : W.ownsRow base 29 1 v k xs) (hd : DRel (stR base W) W (.arr bndC) (.arr (rowD L k)) x) (hg : W.grownBy W' v.ownBlock) : RowsAre base W' L (xs ++ [x]) := by
  have hl : xs.length = k := by have := hown.1; omega
  have h2 : RowsAre base W L (xs ++ [x]) := fun i y hy => by
    by_cases hi : i < xs.length
    · rw [List.getElem?_append_left hi] at hy; exact h i y hy
    · rw [List.getElem?_append_right (by omega)] at hy
      have : i = k := by have := (List.getElem?_eq_some_iff.1 hy).1; simp at this; omega
      subst this
      rw [hl] at hy; simp at hy; subst hy; exact hd
  refine h2.mono fun b o h1 => ?_
  obtain ⟨_, c, fz, h3⟩ := h1
  refine hg.block b (Array.getElem?_eq_some_iff.1 h3).1 fun e => ?_
  rcases hown.2 with ⟨rfl, _⟩ | ⟨g, cap, cur, rfl, _, hg2, _⟩
  · simp [Value.ownBlock] at e
  · simp [Value.ownBlock] at e
    subst e
    rw [hg2] at h3
    simp at h3
theorem own_keep {W W' : World} {base : Nat} {e : TypeId} {sz : Nat} {v : Value} {n : Nat} {xs : List Value} (h : W.ownsRow base e sz v n xs) (hb : ∀ i, i < W.heap.size → W'.heap[i]? = W.heap[i]?) : W'.ownsRow base e sz v n xs := by
  refine ⟨h.1, ?_⟩
  rcases h.2 with h2 | ⟨g, cap, cur, h1, h2, h3, h4⟩
  · exact .inl h2
  · exact .inr ⟨g, cap, cur, h1, h2, (hb g (Array.getElem?_eq_some_iff.1 h3).1).trans h3, h4⟩
theorem RowsAre.base {base b' : Nat} {W : World} {L : List (List D)} {xs : List Value} (h : RowsAre base W L xs) (hb : b' ≤ base) : RowsAre b' W L xs := fun i y hy =>
  (h i y hy).mono fun b o c h1 h2 => ⟨⟨Nat.le_trans hb h1.1, h1.2⟩, h2⟩
theorem drel_alloc {base : Nat} {W : World} {ct : CT} {d : D} {v : Value} (h : DRel (stR base W) W ct d v) (A : Obj) : DRel (stR base (W.alloc A)) (W.alloc A) ct d v :=
  h.mono fun b o c h1 h2 => by
    obtain ⟨e1, c1, fz, e2⟩ := h1
    have hb := heap_push_old W A (Array.getElem?_eq_some_iff.1 e2).1
    exact ⟨⟨e1, c1, fz, hb.trans e2⟩, (cell_of_heap hb).trans h2⟩
theorem own_base {W : World} {base : Nat} {e : TypeId} {sz : Nat} {v : Value} {n : Nat} {xs : List Value} (h : W.ownsRow base e sz v n xs) {b : Nat} (hb : b < base) : some b ≠ v.ownBlock := by
  intro e
  rcases h.2 with ⟨rfl, _⟩ | ⟨g, cap, cur, rfl, h2, _⟩
  · simp [Value.ownBlock] at e
  · simp [Value.ownBlock] at e; omega
/-- A row of bounds whose cells are told. -/
theorem row_drel {base n b : Nat} {W : World} {f : Nat → Int × Int} (hb : base ≤ b) (hh : ∃ c fz, W.heap[b]? = some (.cells c 43 fz)) (hm : n ≤ maxLen) (hc : ∀ m, m < n → W.cell? ⟨b, m * 2, none⟩ = some (.int .i64 (f m).1) ∧ W.cell? ⟨b, m * 2 + 1, none⟩ = some (.int .i64 (f m).2)) :
    DRel (stR base W) W (.arr bndC) (.arr ((List.range n).map fun m => [.int (f m).1, .int (f m).2])) (.slice (some ⟨b, 0, none⟩) n n) := by
  have e : n = (D.arr ((List.range n).map fun m => [D.int (f m).1, D.int (f m).2])).toArr.length := by simp [D.toArr]
  have hst : ∀ o, stR base W b o := fun o => ⟨hb, hh⟩
  generalize hX : (List.range n).map (fun m => [D.int (f m).1, D.int (f m).2]) = X at e
  have hX2 : ∀ i, i < n → (D.arr X).toArr.getD i [] = [D.int (f i).1, D.int (f i).2] := fun i hi => by rw [← hX]; simp [D.toArr, List.getD_eq_getElem?_getD, hi]
  have hn : n = (D.arr X).toArr.length := e
  have hS : Value.slice (some ⟨b, 0, none⟩) n n = .slice (some (pl b 0)) (D.arr X).toArr.length n := by rw [← hn]
  rw [hS]
  refine .arr bndC _ b 0 n (fun i j => match j with | 0 => .int .i64 (f i).1 | _ => .int .i64 (f i).2) (by omega) hm (fun i j hi hj => ?_) (fun i j ct hi hj => ?_)
  · refine ⟨hst _, ?_⟩
    match j, hj with
    | 0, _ => have := (hc i (by omega)).1; simpa using this
    | 1, _ => have := (hc i (by omega)).2; simpa using this
    | j + 2, hj => simp at hj; omega
  · rw [hX2 i (by omega)]
    match j, hj with
    | 0, hj => simp at hj; subst hj; exact .int .i64 (.int (f i).1)
    | 1, hj => simp at hj; subst hj; exact .int .i64 (.int (f i).2)
    | j + 2, hj => simp at hj
/-- A block of bounds whose cells are told. -/
structure CellsAre (b N : Nat) (W : World) (F : Nat → Value) : Prop where
  cell : ∀ j, j < N → W.cell? ⟨b, j, none⟩ = some (F j)
  fz : ∀ j, j < N → W.frozen? ⟨b, j, none⟩ = false
  kind : ∃ c fz, W.heap[b]? = some (.cells c 43 fz)
theorem CellsAre.lt {b N : Nat} {W : World} {F : Nat → Value} (h : CellsAre b N W F) : b < W.heap.size := by
  obtain ⟨c, fz, h⟩ := h.kind
  exact (Array.getElem?_eq_some_iff.1 h).1
theorem CellsAre.set {b N : Nat} {W : World} {F : Nat → Value} (h : CellsAre b N W F) {q : Nat} (hq : q < N) (v : Value) : CellsAre b N (W.setCell ⟨b, q, none⟩ v) (fun j => if j = q then v else F j) := by
  refine ⟨fun j hj => ?_, fun j hj => by rw [World.frozen?_setCell]; exact h.fz j hj, ?_⟩
  · by_cases e : j = q
    · subst e; rw [if_pos rfl]; exact World.cell?_setCell_same _ _ _ (h.cell j hj)
    · rw [if_neg e, World.cell?_setCell_other _ _ _ _ (by intro h2; injection h2 with _ h2; exact e h2.symm)]; exact h.cell j hj
  · obtain ⟨c, fz, hk⟩ := h.kind
    refine ⟨c.setIfInBounds q v, fz, ?_⟩
    simp only [World.setCell, Array.getElem?_modify, if_true, hk, Option.map_some]
    rfl
theorem CellsAre.alloc {b N : Nat} {W : World} {F : Nat → Value} (h : CellsAre b N W F) (A : Obj) : CellsAre b N (W.alloc A) F :=
  ⟨fun j hj => (World.cell?_alloc_past _ _ j h.lt).trans (h.cell j hj), fun j hj => (World.frozen?_alloc_past _ _ j h.lt).trans (h.fz j hj), by
    obtain ⟨c, fz, hk⟩ := h.kind
    exact ⟨c, fz, (heap_push_old W A h.lt).trans hk⟩⟩
theorem fset2 {F : Nat → Value} {m : Nat} {u u' : Value} {P : Nat → Int × Int} (hF : ∀ j, j < m → F (j * 2) = .int .i64 (P j).1 ∧ F (j * 2 + 1) = .int .i64 (P j).2) (h1 : u = .int .i64 (P m).1) (h2 : u' = .int .i64 (P m).2) :
    ∀ j, j < m + 1 → (fun j => if j = m * 2 + 1 then u' else (fun j => if j = m * 2 then u else F j) j) (j * 2) = .int .i64 (P j).1 ∧ (fun j => if j = m * 2 + 1 then u' else (fun j => if j = m * 2 then u else F j) j) (j * 2 + 1) = .int .i64 (P j).2 := by
  intro j hj
  subst h1; subst h2
  by_cases e : j = m
  · subst e
    exact ⟨by dsimp only; rw [if_neg (by omega), if_pos rfl], by dsimp only; rw [if_pos rfl]⟩
  · have h := hF j (by omega)
    exact ⟨by dsimp only; rw [if_neg (by omega), if_neg (by omega), h.1], by dsimp only; rw [if_neg (by omega), if_neg (by omega), h.2]⟩
theorem fset4 {F : Nat → Value} {m : Nat} {v v' u u' : Value} {P : Nat → Int × Int} (hF : ∀ j, j < m → F (j * 2) = .int .i64 (P j).1 ∧ F (j * 2 + 1) = .int .i64 (P j).2) (h1 : u = .int .i64 (P m).1) (h2 : u' = .int .i64 (P m).2) :
    ∀ j, j < m + 1 → (fun j => if j = m * 2 + 1 then u' else (fun j => if j = m * 2 then u else (fun j => if j = m * 2 + 1 then v' else (fun j => if j = m * 2 then v else F j) j) j) j) (j * 2) = .int .i64 (P j).1 ∧ (fun j => if j = m * 2 + 1 then u' else (fun j => if j = m * 2 then u else (fun j => if j = m * 2 + 1 then v' else (fun j => if j = m * 2 then v else F j) j) j) j) (j * 2 + 1) = .int .i64 (P j).2 := by
  intro j hj
  subst h1; subst h2
  by_cases e : j = m
  · subst e
    exact ⟨by dsimp only; rw [if_neg (by omega), if_pos rfl], by dsimp only; rw [if_pos rfl]⟩
  · have h := hF j (by omega)
    exact ⟨by dsimp only; rw [if_neg (by omega), if_neg (by omega), if_neg (by omega), if_neg (by omega), h.1], by dsimp only; rw [if_neg (by omega), if_neg (by omega), if_neg (by omega), if_neg (by omega), h.2]⟩
set_option maxRecDepth 100000 in
set_option maxHeartbeats 4000000 in
theorem bind_calls (w : World) (hG : GlobW w) (p : Option Addr) (cap : Nat) (L : List (List D)) (hL : DRel allS w (.arr keptC) (.arr L) (.slice p L.length cap)) (hl : L.length ≤ 1048576) (hk : 64 < L.length ∨ L.all okArg = true) :
    Calls Tryd.prog 10 #[.slice p L.length cap] w fun e W' => ∃ v, e = .returned (.tuple #[v, .int .i64 (bindE L)]) ∧ ((bindE L = 0 ∧ ∃ xs, W'.ownsRow w.heap.size 29 1 v L.length xs ∧ RowsAre w.heap.size W' L xs) ∨ (bindE L ≠ 0 ∧ v = .slice none 0 0)) ∧ Go.RowKit.Below w.heap.size w W' := by
  have hck := check2_calls w hG p cap L hL hl hk
  have hp : Aside (0 < L.length → ∃ b o, p = some (pl b o)) := by
    obtain ⟨p', cap', e1, h2⟩ := arr_slice hL
    injection e1 with e1 _ _
    unfold Aside
    rw [e1]; exact h2
  obtain ⟨r, hr⟩ : ∃ r, r = bindE L := ⟨_, rfl⟩
  rw [← hr]
  have HR : Aside (r = bindE L) := hr
  clear hr
  go_enter Tryd.func10, Tryd.ntmps10
  by_cases hc : chkL L = true
  case neg =>
    have hcf : chkL L = false := by simpa using hc
    obtain rfl : r = 8 := by rw [HR.out, bindE, if_pos hcf]
    rw [if_neg hc] at hck
    go_wp2_with (first
      | (go_at_call 19; refine hck.mono ?_; rintro e W1 ⟨rfl, hB1⟩)
      | go_in)
    refine ⟨rfl, .tuple #[.slice none 0 0, .int .i64 8], by simp [results, Tryd.f10, go_sem], _, rfl, .inr ⟨by omega, rfl⟩, hB1⟩
  case pos =>
    have hcf : ¬chkL L = false := by rw [hc]; simp
    rw [if_pos hc] at hck
    obtain ⟨r1, r2⟩ := chk_read hc
    have HK : Aside (chkL L = true) := hc
    clear hc
    go_wp2_with (first
      | (go_at_call 19; refine hck.mono ?_; rintro e W1 ⟨rfl, hB1⟩)
      | (go_at_call 22; refine (read_calls W1 (hG.below hB1 (fun x hx => (hG x hx).1)) p cap L (below_drel hB1 (Nat.le_refl _) hL) r1 r2).mono ?_; rintro e W2 ⟨b1, b2, M, A, k, rfl, hb1, hb2, hne, hM, hA, hk8, hT, hB2⟩)
      | (at_range; refine wpList_range_own _ rfl _ 55 rfl 9 62 str_law Tryd.underlying55 defR b1 k M rfl (hM.alloc _) ?_; intro w0 hrg0 hg0 hs0; simp only [World.size_alloc] at hrg0 hs0 ⊢; go_frame)
      | go_in)
    have hB4 : Go.RowKit.Below w.heap.size w (W2.alloc (Obj.cells #[.map (some b1), .map (some b2)] 58)) := (hB1.trans (hB2.mono hB1.size)).alloc (hB1.trans (hB2.mono hB1.size)).size _
    have hbl1 := hM.lt
    have hbl2 := hA.lt
    go_loopw [2, 24] (fun v2 _ wr => v2 = .slice none 0 0 ∧ ∃ (left : Lit → Bool) (cnt : Nat), wr.ranges Tryd.prog 9 defR b1 (W2.heap.size + 1) k M left cnt ∧ (W2.alloc (Obj.cells #[.map (some b1), .map (some b2)] 58)).grownBy wr none ∧ Aside (∀ s, left (strK s) = false → (dAll s L L.length).st ≤ 1))
      (fun _ _ wr => wr.rangeLeft b1 (W2.heap.size + 1))
    case atStart =>
      refine ⟨rfl, _, _, hrg0, hg0, fun s h => ?_⟩
      have h1 := Maps.atKey_of_not_has h Def1.zero.d
      rw [hT.defs] at h1
      rw [Def1.d_inj h1]
      exact by decide
    case round =>
      obtain ⟨rfl, left, cnt, hrg, hgw, HD⟩ := hrel
      go_wp2_with (first
        | (at_next; refine wpList_next_ranges _ rfl _ rfl 9 str_law defR encStr Def1.v (fun key kl h => by obtain ⟨x, h1, _⟩ := Maps.keyOf_str Tryd.underlying9 h; exact ⟨x, h1⟩) (fun v y h => by obtain ⟨d, h1, _⟩ := defR_inv h; exact ⟨d, h1⟩) b1 (W2.heap.size + 1) k M _ _ rfl hrg ?_ ?_)
        | go_in)
      · intro hc0 hl0
        have hdb : doubleB L = false := doubleB_false fun s => HD.out s (hl0 _)
        clear HD hc0 hl0
        have hgA := hgw.andThen (World.grownBy.refl wr none) (fun j hj => .inr hj)
        have hA' : wr.ownsMap Tryd.prog 9 (plainElem Tryd.prog 3) b2 k A := (hA.alloc _).kept hgw (by simp)
        have hM' := hrg.owns
        have hbx : ∀ j, wr.cell? ⟨W2.heap.size, j, none⟩ = (#[.map (some b1), .map (some b2)] : Array Value)[j]? := fun j => (World.cell?_of_block (a := ⟨W2.heap.size, j, none⟩) (hgw.block _ (by simp) (by simp))).trans (World.cell?_alloc_at _ _ _ j rfl)
        go_wp2_with (first
          | (go_at_call 23; refine (lacks_calls wr b1 b2 k k M A _ _ hM' hA' hT hne hk8).mono ?_; rintro e W3 ⟨v, ss, rfl, hms, hnd, hrow, hnil, hg3, hle⟩; obtain ⟨pv, cv, rfl⟩ : ∃ pv cv, v = .slice pv ss.length cv := by
               rcases hrow.2 with ⟨h1, h2⟩ | ⟨g, cap', cur, h1, _⟩
               · exact ⟨none, 0, by rw [h1, h2]⟩
               · exact ⟨_, _, h1⟩)
          | go_in)
        have hB5 : Go.RowKit.Below w.heap.size w wr := hB4.trans ((grown_below hgw).mono hB4.size)
        have hws := hB1.size
        have hB6 : Go.RowKit.Below w.heap.size w W3 := ⟨hg3.os.trans hB5.os, hg3.tape.trans hB5.tape, hg3.output.trans hB5.output, Nat.le_trans hB5.size hg3.size, fun i hi => (hg3.block i (Nat.lt_of_lt_of_le hi hB5.size) (by simp; omega)).trans (hB5.block i hi)⟩
        have hs : (ss.mergeSort fun x y => decide (x ≤ y)) = lackN L := lack_sorted hms hnd
        have hlen : ss.length = (lackN L).length := by rw [← hs, List.length_mergeSort]
        · rename_i hz
          have hne0 : lackN L ≠ [] := fun e => by rw [e] at hlen; simp at hlen; rw [hlen] at hz; simp at hz
          obtain rfl : r = 231 := by rw [HR.out, bindE, if_neg hcf, if_neg (by rw [hdb]; simp), if_neg hne0]
          refine ⟨rfl, .tuple #[.slice none 0 0, .int .i64 231], by simp [results, Tryd.f10, go_sem], _, rfl, .inr ⟨by decide, rfl⟩, hB6⟩
        have hB5 : Go.RowKit.Below w.heap.size w wr := hB4.trans ((grown_below hgw).mono hB4.size)
        have hws := hB1.size
        have hB6 : Go.RowKit.Below w.heap.size w W3 := ⟨hg3.os.trans hB5.os, hg3.tape.trans hB5.tape, hg3.output.trans hB5.output, Nat.le_trans hB5.size hg3.size, fun i hi => (hg3.block i (Nat.lt_of_lt_of_le hi hB5.size) (by simp; omega)).trans (hB5.block i hi)⟩
        have hs : (ss.mergeSort fun x y => decide (x ≤ y)) = lackN L := lack_sorted hms hnd
        have hlen : ss.length = (lackN L).length := by rw [← hs, List.length_mergeSort]
        have he0 : lackN L = [] := List.length_eq_zero_iff.1 (by omega)
        obtain rfl : r = 0 := by rw [HR.out, bindE, if_neg hcf, if_neg (by rw [hdb]; simp), if_pos he0]
        have hM3 : W3.ownsMap Tryd.prog 9 defR b1 k M := hM'.kept hg3 (by simp; exact hne)
        have hbx3 : ∀ j, W3.cell? ⟨W2.heap.size, j, none⟩ = (#[.map (some b1), .map (some b2)] : Array Value)[j]? := fun j => (World.cell?_of_block (a := ⟨W2.heap.size, j, none⟩) (hg3.block _ (Nat.lt_of_lt_of_le (by simp) hgw.size) (by simp; omega))).trans (hbx j)
        clear hms hnd hrow hnil hg3 hle hs he0 hdb hcf
        have hwM : w.heap.size ≤ b1 := Nat.le_trans hB1.size hb1
        have h64 := r1
        have hsW3 : W2.heap.size < W3.heap.size := cell_lt (hbx3 0)
        have hb13 : b1 < W3.heap.size := hM3.lt
        have hB3W : w.heap.size ≤ W2.heap.size := Nat.le_trans hB1.size hB2.size
        clear hbx hM' hA' hgA hgw hrg hB5 hA hM hB4
        have hzf : decide (0 < ss.length) = false := decide_eq_false (by omega)
        simp only [hzf]
        clear hlen
        go_loopw [2, 37] (fun v i w1 => ∃ (n : Nat) (xs : List Value), n ≤ L.length ∧ i = .int .i64 n ∧ w1.ownsRow W3.heap.size 29 1 v n xs ∧ RowsAre W3.heap.size w1 L xs ∧ w1.ownsMap Tryd.prog 9 defR b1 k M ∧ (∀ j, w1.cell? ⟨W2.heap.size, j, none⟩ = (#[.map (some b1), .map (some b2)] : Array Value)[j]?) ∧ W3.heap.size ≤ w1.heap.size ∧ Go.RowKit.Below w.heap.size w w1)
          (fun _ i _ => L.length - (intOf i).toNat)
        case atStart =>
          refine ⟨0, [], Nat.zero_le _, rfl, World.ownsRow_nil _ _ _ _, fun i y hy => by simp at hy, hM3, hbx3, Nat.le_refl _, hB6⟩
        case round =>
          obtain ⟨n, xs, hn0, rfl, hv, hX, hM4, hbx4, hs4, hB7⟩ := hrel
          obtain ⟨w4, hw4⟩ : ∃ w4, w4 = wr := ⟨_, rfl⟩
          subst hw4
          by_cases hlt : n < L.length
          · obtain ⟨b, o, rfl⟩ := hp.out (by omega)
            obtain ⟨v2, v3, v4, v5, v6, q0, q1, q2, q3, q4, q5, q6, d2, d3, d4, d5, d6⟩ := kept_at hL (by omega) n hlt
            obtain ⟨p2, c2, rfl, -⟩ := arr_slice d2
            obtain ⟨p3, c3, rfl, hp3⟩ := arr_slice d3
            obtain ⟨p4, c4, rfl, -⟩ := arr_slice d4
            obtain ⟨p5, c5, rfl, -⟩ := arr_slice d5
            obtain ⟨p6, c6, rfl, -⟩ := arr_slice d6
            obtain ⟨k3, k6, kn⟩ := r2 n hlt
            simp only [D.toArr] at q2 q3 q4 q5 q6 d3 d6 hp3
            clear d2 d4 d5
            have hbw : b < w.heap.size := cell_lt q0
            replace q0 := (hB7.cell (p := ⟨b, o + n * 7, none⟩) hbw).trans q0
            replace q1 := (hB7.cell (p := ⟨b, o + n * 7 + 1, none⟩) hbw).trans q1
            replace q2 := (hB7.cell (p := ⟨b, o + n * 7 + 2, none⟩) hbw).trans q2
            replace q3 := (hB7.cell (p := ⟨b, o + n * 7 + 3, none⟩) hbw).trans q3
            replace q4 := (hB7.cell (p := ⟨b, o + n * 7 + 4, none⟩) hbw).trans q4
            replace q5 := (hB7.cell (p := ⟨b, o + n * 7 + 5, none⟩) hbw).trans q5
            replace q6 := (hB7.cell (p := ⟨b, o + n * 7 + 6, none⟩) hbw).trans q6
            generalize ((L.getD n []).getD 0 default).toInt = i0 at q0
            generalize ((L.getD n []).getD 1 default).toInt = i1 at q1
            obtain ⟨Y, hY⟩ : ∃ Y, Y = rA (L.getD n []) 3 := ⟨_, rfl⟩
            obtain ⟨B, hBo⟩ : ∃ B, B = rA (L.getD n []) 6 := ⟨_, rfl⟩
            rw [← hY] at q3 d3 hp3 k3 kn
            rw [← hBo] at q6 d6 k6 kn
            generalize (rA (L.getD n []) 2).length = n2 at q2
            generalize (rA (L.getD n []) 4).length = n4 at q4
            generalize (rA (L.getD n []) 5).length = n5 at q5
            have HY : Aside (Y = rA (L.getD n []) 3) := hY
            have HBo : Aside (B = rA (L.getD n []) 6) := hBo
            clear hY hBo
            have hmk : ∀ W : World, (Instr.makeSlice 29 (.int .i64 (Y.length : Nat)) (.int .i64 (Y.length : Nat))).run Tryd.prog W = .ok (.slice (some ⟨W.heap.size, 0, none⟩) Y.length Y.length) (W.alloc (.cells (madeCells #[.int .i64 0, .int .i64 0] (Y.length * 2)) 43)) := fun W => by
              obtain ⟨ib, hib, hz0, hz1, hz2⟩ := info_parts (show (Tryd.prog.info? 43).map (fun i => (i.zero, i.size, i.bytes)) = some (some (.agg #[.int .i64 0, .int .i64 0]), 2, 16) by kernel_rfl)
              have := run_make (P := Tryd.prog) W 29 43 ib (.agg #[.int .i64 0, .int .i64 0]) Tryd.underlying29 hib hz0 .i64 .i64 (Y.length : Nat) (Y.length : Nat) (by omega) (by omega) (by rw [hz2]; omega) (by omega)
              rw [hz1] at this
              simpa [Value.cells] using this
            go_wp2
            have hB8 : ∀ A1 A2 : Obj, Go.RowKit.Below w4.heap.size w4 ((w4.alloc A1).alloc A2) := fun A1 A2 => ((Go.RowKit.Below.refl _ w4).alloc (Nat.le_refl _) _).alloc (by simp) _
            have hg8 : ∀ A1 A2 : Obj, w4.grownBy ((w4.alloc A1).alloc A2) none := fun A1 A2 => (World.grownBy_alloc _ _ _).trans (World.grownBy_alloc _ _ _)
            go_loopw [51] (fun i w5 => ∃ (m : Nat), m ≤ Y.length ∧ i = .int .i64 m ∧ (∀ j, w5.cell? ⟨w4.heap.size, j, none⟩ = (#[.int .i64 i0, .int .i64 i1, .slice p2 n2 c2, .slice p3 Y.length c3, .slice p4 n4 c4, .slice p5 n5 c5, .slice p6 B.length c6] : Array Value)[j]?) ∧
                (∃ F, CellsAre (w4.heap.size + 1) (Y.length * 2) w5 F ∧ ∀ j, j < m → F (j * 2) = .int .i64 (bndOf L n j).1 ∧ F (j * 2 + 1) = .int .i64 (bndOf L n j).2) ∧
                w4.heap.size + 1 < w5.heap.size ∧ Go.RowKit.Below w4.heap.size w4 w5)
              (fun i _ => Y.length - (intOf i).toNat)
            case atStart =>
              have e1 : ∀ A : Obj, (w4.alloc A).heap.size = w4.heap.size + 1 := fun A => by simp
              refine ⟨0, Nat.zero_le _, rfl, fun j => (World.cell?_alloc_past _ _ j (by simp)).trans (World.cell?_alloc_at _ _ _ j rfl), ⟨fun j => (madeCells #[.int .i64 0, .int .i64 0] (Y.length * 2)).getD j undef, ⟨fun j hj => ?_, fun j hj => ?_, madeCells #[.int .i64 0, .int .i64 0] (Y.length * 2), (0, 0), ?_⟩, fun j hj => absurd hj (by omega)⟩, by simp, hB8 _ _⟩
              · rw [← e1, World.cell?_alloc_at _ _ _ j rfl]
                have hjs : j < (madeCells #[.int .i64 0, .int .i64 0] (Y.length * 2)).size := by simp [madeCells]; omega
                rw [Array.getElem?_eq_getElem hjs]
                simp [Array.getD, hjs]
              · rw [← e1]; exact World.frozen?_alloc_at _ _ _ j rfl
              · rw [← e1]; exact heap_alloc_new _ _
            case round =>
              obtain ⟨m, hm0, rfl, hk5, ⟨F, hF, hFm⟩, hs5, hB9⟩ := hrel
              obtain ⟨w5, hw5⟩ : ∃ w5, w5 = wr := ⟨_, rfl⟩
              subst hw5
              by_cases hlt2 : m < Y.length
              · have hB10 : Go.RowKit.Below w.heap.size w w5 := hB7.trans (hB9.mono hB7.size)
                have d3' := below_drel hB10 (Nat.le_refl _) d3
                have d6' := below_drel hB10 (Nat.le_refl _) d6
                have hM5 : w5.ownsMap Tryd.prog 9 defR b1 k M := hM4.kept (below_full hB9 (Nat.le_refl _)) (by simp)
                have hbx5 : ∀ j, w5.cell? ⟨W2.heap.size, j, none⟩ = (#[.map (some b1), .map (some b2)] : Array Value)[j]? := fun j => (hB9.cell (p := ⟨W2.heap.size, j, none⟩) (Nat.lt_of_lt_of_le hsW3 hs4)).trans (hbx4 j)
                obtain ⟨bs, os, rfl⟩ := hp3 (by omega)
                obtain ⟨s0, s1, s2, s3, s4, s5⟩ := sym_at d3' (by omega) m hlt2
                obtain ⟨kn1, kn2⟩ := kn m hlt2
                obtain ⟨y, hy⟩ : ∃ y, y = Y.getD m [] := ⟨_, rfl⟩
                rw [← hy] at s0 s1 s2 s3 s4 s5 kn1 kn2
                obtain ⟨nm, hnm⟩ : ∃ nm, nm = rN y := ⟨_, rfl⟩
                obtain ⟨bd, hbd⟩ : ∃ bd, bd = rI y 1 := ⟨_, rfl⟩
                obtain ⟨wh, hwh⟩ : ∃ wh, wh = rI y 3 := ⟨_, rfl⟩
                have e0 : (y.getD 0 default).toStr = nm := hnm.symm
                have e1 : (y.getD 1 default).toInt = bd := hbd.symm
                have e3 : (y.getD 3 default).toInt = wh := hwh.symm
                rw [e0] at s0
                rw [e1] at s1
                rw [e3] at s3
                rw [← hnm] at kn1
                rw [← hwh] at kn2
                generalize (y.getD 2 default).toBool = hd at s2
                generalize (y.getD 4 default).toInt = va at s4
                generalize (y.getD 5 default).toInt = sz at s5
                have hmx : nm.size ≤ maxLen := by unfold maxLen; omega
                have k6b : B.length ≤ 1048576 := by omega
                obtain ⟨d, hd0⟩ : ∃ d, d = dAll nm L L.length := ⟨_, rfl⟩
                have hat : M.atKey (strK nm) Def1.zero.d = d.d := by rw [hT.defs, hd0]
                have HBN : Aside (bndOf L n m = if bd ≠ 0 ∧ d.is = true then (d.ob, d.sy) else if bd = 0 ∧ goneB B wh = false then ((n : Int), (m : Int)) else (-1, -1)) := by
                  unfold Aside bndOf
                  rw [← HY.out, ← hy, ← hbd, ← hwh, ← hnm, ← hd0, ← HBo.out]
                have hG5 : GlobW w5 := hG.below hB10 (fun x hx => (hG x hx).1)
                have hGA : ∀ A : Obj, GlobW (w5.alloc A) := fun A => hG5.below ((Go.RowKit.Below.refl _ w5).alloc (Nat.le_refl _) A) (fun x hx => (hG5 x hx).1)
                have c00 : ∀ A : Obj, (w5.alloc A).cell? ⟨0, 0, none⟩ = some (.int .i64 (-1)) := fun A => ((hGA A) (0, 0, .int .i64 (-1)) (by simp [globs])).2
                have c01 : ∀ A : Obj, (w5.alloc A).cell? ⟨0, 1, none⟩ = some (.int .i64 (-1)) := fun A => ((hGA A) (0, 1, .int .i64 (-1)) (by simp [globs])).2
                clear hy hnm hbd hwh e0 e1 e3 hd0 hB10 hGA
                obtain ⟨t0, t1, t2, t_o, ts, tn, ti⟩ := d
                have g0 := hF.cell (m * 2) (by omega)
                have f0 := hF.fz (m * 2) (by omega)
                have g1 := hF.cell (m * 2 + 1) (by omega)
                have f1 := hF.fz (m * 2 + 1) (by omega)
                obtain ⟨x0, hx0⟩ : ∃ x, x = F (m * 2) := ⟨_, rfl⟩
                obtain ⟨x1, hx1⟩ : ∃ x, x = F (m * 2 + 1) := ⟨_, rfl⟩
                rw [← hx0] at g0
                rw [← hx1] at g1
                clear hx0 hx1
                have hne45 : w5.heap.size ≠ w4.heap.size + 1 := by omega
                have g0A : ∀ A : Obj, (w5.alloc A).cell? ⟨w4.heap.size + 1, m * 2, none⟩ = some x0 := fun A => (World.cell?_alloc_past _ _ _ hs5).trans g0
                have f0A : ∀ A : Obj, (w5.alloc A).frozen? ⟨w4.heap.size + 1, m * 2, none⟩ = false := fun A => (World.frozen?_alloc_past _ _ _ hs5).trans f0
                have g1A : ∀ (A : Obj) (u : Value), ((w5.alloc A).setCell ⟨w4.heap.size + 1, m * 2, none⟩ u).cell? ⟨w4.heap.size + 1, m * 2 + 1, none⟩ = some x1 := fun A u => (World.cell?_setCell_other _ _ _ _ (by simp)).trans ((World.cell?_alloc_past _ _ _ hs5).trans g1)
                have f1A : ∀ (A : Obj) (u : Value), ((w5.alloc A).setCell ⟨w4.heap.size + 1, m * 2, none⟩ u).frozen? ⟨w4.heap.size + 1, m * 2 + 1, none⟩ = false := fun A u => by rw [World.frozen?_setCell]; exact (World.frozen?_alloc_past _ _ _ hs5).trans f1
                have far2 : ∀ (u u' : Value) (bb j : Nat), bb ≠ w4.heap.size + 1 → ((w5.setCell ⟨w4.heap.size + 1, m * 2, none⟩ u).setCell ⟨w4.heap.size + 1, m * 2 + 1, none⟩ u').cell? ⟨bb, j, none⟩ = w5.cell? ⟨bb, j, none⟩ := fun u u' bb j h => (far_set h _ _).trans (far_set h _ _)
                have hbxA : ∀ (A : Obj) (u u' : Value) (j : Nat), (((w5.setCell ⟨w4.heap.size + 1, m * 2, none⟩ u).setCell ⟨w4.heap.size + 1, m * 2 + 1, none⟩ u').alloc A).cell? ⟨W2.heap.size, j, none⟩ = (#[.map (some b1), .map (some b2)] : Array Value)[j]? := fun A u u' j => (World.cell?_alloc_past _ _ _ (by simp; omega)).trans ((far2 u u' _ j (by omega)).trans (hbx5 j))
                have hMA : ∀ (A : Obj) (u u' : Value), (((w5.setCell ⟨w4.heap.size + 1, m * 2, none⟩ u).setCell ⟨w4.heap.size + 1, m * 2 + 1, none⟩ u').alloc A).ownsMap Tryd.prog 9 defR b1 k M := fun A u u' => ((hM5.setCell (by simp; omega) _).setCell (by simp; omega) _).alloc A
                have hlk : ∀ (A : Obj) (u u' : Value), (Instr.lookup 55 (.map (some b1)) (.string nm) false).run Tryd.prog (((w5.setCell ⟨w4.heap.size + 1, m * 2, none⟩ u).setCell ⟨w4.heap.size + 1, m * 2 + 1, none⟩ u').alloc A) = .ok (.agg #[.int .i64 t0, .int .i64 t1, .int .i64 t2, .int .i64 t_o, .int .i64 ts, .int .i64 tn, .bool ti]) (((w5.setCell ⟨w4.heap.size + 1, m * 2, none⟩ u).setCell ⟨w4.heap.size + 1, m * 2 + 1, none⟩ u').alloc A) := fun A u u' => by
                  obtain ⟨d', h1, h2⟩ := look_def (hMA A u u') hmx
                  rw [hat] at h2
                  rw [h1, ← Def1.d_inj h2]
                  rfl
                have CV : ∀ (u u' : Value) (A B : Obj), CellsAre (w4.heap.size + 1) (Y.length * 2) ((((w5.setCell ⟨w4.heap.size + 1, m * 2, none⟩ u).setCell ⟨w4.heap.size + 1, m * 2 + 1, none⟩ u').alloc A).alloc B) (fun j => if j = m * 2 + 1 then u' else if j = m * 2 then u else F j) := fun u u' A B => (((hF.set (by omega) u).set (by omega) u').alloc A).alloc B
                have h0V : ∀ (u u' : Value) (A B : Obj), ((((w5.setCell ⟨w4.heap.size + 1, m * 2, none⟩ u).setCell ⟨w4.heap.size + 1, m * 2 + 1, none⟩ u').alloc A).alloc B).cell? ⟨w4.heap.size + 1, m * 2, none⟩ = some u := fun u u' A B => by
                  rw [(CV u u' A B).cell _ (by omega), if_neg (by omega), if_pos rfl]
                have z0V : ∀ (u u' : Value) (A B : Obj), ((((w5.setCell ⟨w4.heap.size + 1, m * 2, none⟩ u).setCell ⟨w4.heap.size + 1, m * 2 + 1, none⟩ u').alloc A).alloc B).frozen? ⟨w4.heap.size + 1, m * 2, none⟩ = false := fun u u' A B => (CV u u' A B).fz _ (by omega)
                have CW : ∀ (u u' v : Value) (A B : Obj), CellsAre (w4.heap.size + 1) (Y.length * 2) (((((w5.setCell ⟨w4.heap.size + 1, m * 2, none⟩ u).setCell ⟨w4.heap.size + 1, m * 2 + 1, none⟩ u').setCell ⟨w4.heap.size + 1, m * 2, none⟩ v).alloc A).alloc B) (fun j => if j = m * 2 then v else if j = m * 2 + 1 then u' else if j = m * 2 then u else F j) := fun u u' v A B => ((((hF.set (by omega) u).set (by omega) u').set (by omega) v).alloc A).alloc B
                have h1W : ∀ (u u' v : Value) (A B : Obj), (((((w5.setCell ⟨w4.heap.size + 1, m * 2, none⟩ u).setCell ⟨w4.heap.size + 1, m * 2 + 1, none⟩ u').setCell ⟨w4.heap.size + 1, m * 2, none⟩ v).alloc A).alloc B).cell? ⟨w4.heap.size + 1, m * 2 + 1, none⟩ = some u' := fun u u' v A B => by
                  rw [(CW u u' v A B).cell _ (by omega), if_neg (by omega), if_pos rfl]
                have z1W : ∀ (u u' v : Value) (A B : Obj), (((((w5.setCell ⟨w4.heap.size + 1, m * 2, none⟩ u).setCell ⟨w4.heap.size + 1, m * 2 + 1, none⟩ u').setCell ⟨w4.heap.size + 1, m * 2, none⟩ v).alloc A).alloc B).frozen? ⟨w4.heap.size + 1, m * 2 + 1, none⟩ = false := fun u u' v A B => (CW u u' v A B).fz _ (by omega)
                have kbx : ∀ (u u' : Value) (A B' : Obj) (j : Nat), ((((w5.setCell ⟨w4.heap.size + 1, m * 2, none⟩ u).setCell ⟨w4.heap.size + 1, m * 2 + 1, none⟩ u').alloc A).alloc B').cell? ⟨w4.heap.size, j, none⟩ = (#[.int .i64 i0, .int .i64 i1, .slice p2 n2 c2, .slice (some (pl bs os)) Y.length c3, .slice p4 n4 c4, .slice p5 n5 c5, .slice p6 B.length c6] : Array Value)[j]? := fun u u' A B' j =>
                  (World.cell?_alloc_past _ _ _ (by simp; omega)).trans ((World.cell?_alloc_past _ _ _ (by simp; omega)).trans ((far2 u u' _ j (by omega)).trans (hk5 j)))
                have h1O : ∀ (u u' v : Value) (A B : Obj), (((((w5.setCell ⟨w4.heap.size + 1, m * 2, none⟩ u).setCell ⟨w4.heap.size + 1, m * 2 + 1, none⟩ u').alloc A).alloc B).setCell ⟨w4.heap.size + 1, m * 2, none⟩ v).cell? ⟨w4.heap.size + 1, m * 2 + 1, none⟩ = some u' := fun u u' v A B => by
                  rw [((CV u u' A B).set (by omega) v).cell _ (by omega), if_neg (by omega), if_pos rfl]
                have z1O : ∀ (u u' v : Value) (A B : Obj), (((((w5.setCell ⟨w4.heap.size + 1, m * 2, none⟩ u).setCell ⟨w4.heap.size + 1, m * 2 + 1, none⟩ u').alloc A).alloc B).setCell ⟨w4.heap.size + 1, m * 2, none⟩ v).frozen? ⟨w4.heap.size + 1, m * 2 + 1, none⟩ = false := fun u u' v A B => ((CV u u' A B).set (by omega) v).fz _ (by omega)
                have kfar : ∀ (u0 u1 u2 u3 : Value) (j : Nat), ((((w5.setCell ⟨w4.heap.size + 1, m * 2, none⟩ u0).setCell ⟨w4.heap.size + 1, m * 2 + 1, none⟩ u1).setCell ⟨w4.heap.size + 1, m * 2, none⟩ u2).setCell ⟨w4.heap.size + 1, m * 2 + 1, none⟩ u3).cell? ⟨w4.heap.size, j, none⟩ = (#[.int .i64 i0, .int .i64 i1, .slice p2 n2 c2, .slice (some (pl bs os)) Y.length c3, .slice p4 n4 c4, .slice p5 n5 c5, .slice p6 B.length c6] : Array Value)[j]? := fun u0 u1 u2 u3 j =>
                  (far_set (by omega) _ _).trans ((far_set (by omega) _ _).trans ((far2 u0 u1 _ j (by omega)).trans (hk5 j)))
                have hBV : ∀ (u u' : Value), Go.RowKit.Below w4.heap.size w4 ((w5.setCell ⟨w4.heap.size + 1, m * 2, none⟩ u).setCell ⟨w4.heap.size + 1, m * 2 + 1, none⟩ u') := fun u u' => (hB9.setCell (by simp) _).setCell (by simp) _
                have hBW : ∀ (u0 u1 u2 u3 : Value), Go.RowKit.Below w4.heap.size w4 ((((w5.setCell ⟨w4.heap.size + 1, m * 2, none⟩ u0).setCell ⟨w4.heap.size + 1, m * 2 + 1, none⟩ u1).setCell ⟨w4.heap.size + 1, m * 2, none⟩ u2).setCell ⟨w4.heap.size + 1, m * 2 + 1, none⟩ u3) := fun u0 u1 u2 u3 => ((hBV u0 u1).setCell (by simp) _).setCell (by simp) _
                have hs9 := hB9.size
                have hs7 := hB7.size
                by_cases hb0 : bd = 0
                · subst hb0
                  have d6V : ∀ (u u' : Value) (A B' : Obj), DRel allS ((((w5.setCell ⟨w4.heap.size + 1, m * 2, none⟩ u).setCell ⟨w4.heap.size + 1, m * 2 + 1, none⟩ u').alloc A).alloc B') (.arr bls) (.arr B) (.slice p6 B.length c6) := fun u u' A B' => below_drel (hB7.trans ((((hBV u u').alloc (by simp; omega) _).alloc (by simp; omega) _).mono hB7.size)) (Nat.le_refl _) d6
                  have h0X : ∀ (u u' : Value) (A B C D : Obj), ((((((w5.setCell ⟨w4.heap.size + 1, m * 2, none⟩ u).setCell ⟨w4.heap.size + 1, m * 2 + 1, none⟩ u').alloc A).alloc B).alloc C).alloc D).cell? ⟨w4.heap.size + 1, m * 2, none⟩ = some u := fun u u' A B C D => by
                    rw [(((CV u u' A B).alloc C).alloc D).cell _ (by omega), if_neg (by omega), if_pos rfl]
                  have z0X : ∀ (u u' : Value) (A B C D : Obj), ((((((w5.setCell ⟨w4.heap.size + 1, m * 2, none⟩ u).setCell ⟨w4.heap.size + 1, m * 2 + 1, none⟩ u').alloc A).alloc B).alloc C).alloc D).frozen? ⟨w4.heap.size + 1, m * 2, none⟩ = false := fun u u' A B C D => (((CV u u' A B).alloc C).alloc D).fz _ (by omega)
                  have h1X : ∀ (u u' v : Value) (A B C D : Obj), (((((((w5.setCell ⟨w4.heap.size + 1, m * 2, none⟩ u).setCell ⟨w4.heap.size + 1, m * 2 + 1, none⟩ u').alloc A).alloc B).alloc C).alloc D).setCell ⟨w4.heap.size + 1, m * 2, none⟩ v).cell? ⟨w4.heap.size + 1, m * 2 + 1, none⟩ = some u' := fun u u' v A B C D => by
                    rw [((((CV u u' A B).alloc C).alloc D).set (by omega) v).cell _ (by omega), if_neg (by omega), if_pos rfl]
                  have z1X : ∀ (u u' v : Value) (A B C D : Obj), (((((((w5.setCell ⟨w4.heap.size + 1, m * 2, none⟩ u).setCell ⟨w4.heap.size + 1, m * 2 + 1, none⟩ u').alloc A).alloc B).alloc C).alloc D).setCell ⟨w4.heap.size + 1, m * 2, none⟩ v).frozen? ⟨w4.heap.size + 1, m * 2 + 1, none⟩ = false := fun u u' v A B C D => ((((CV u u' A B).alloc C).alloc D).set (by omega) v).fz _ (by omega)
                  clear CV CW h1W z1W kfar hBW
                  cases hgt : goneB B wh
                  · have hbn : bndOf L n m = ((n : Int), (m : Int)) := by rw [HBN.out, if_neg (by simp), if_pos ⟨rfl, hgt⟩]
                    go_wp2_with (first
                      | (go_at_call 24; refine (gone_calls _ _ _ _ _ _ _ _ _ _ B rfl (d6V _ _ _ _) _ _ _ _ _ _ kn2 k6b).mono ?_; rintro e W6 ⟨rfl, rfl⟩; rw [hgt])
                      | go_in)
                    go_roundw
                    case rel =>
                      refine ⟨m + 1, by omega, by simp, fun j => ?_, ⟨_, (((((((hF.set (by omega) _).set (by omega) _).alloc _).alloc _).alloc _).alloc _).set (by omega) _).set (by omega) _, fset4 hFm (by rw [hbn]) (by rw [hbn])⟩, by simp; omega, ((((((hBV _ _).alloc (by simp; omega) _).alloc (by simp; omega) _).alloc (by simp; omega) _).alloc (by simp; omega) _).setCell (by simp) _).setCell (by simp) _⟩
                      exact (far_set (by omega) _ _).trans ((far_set (by omega) _ _).trans ((World.cell?_alloc_past _ _ _ (by simp; omega)).trans ((World.cell?_alloc_past _ _ _ (by simp; omega)).trans (kbx _ _ _ _ j))))
                    case measure => simp [intOf]; omega
                  · have hbn : bndOf L n m = (-1, -1) := by rw [HBN.out, if_neg (by simp), if_neg (by rw [hgt]; simp)]
                    go_wp2_with (first
                      | (go_at_call 24; refine (gone_calls _ _ _ _ _ _ _ _ _ _ B rfl (d6V _ _ _ _) _ _ _ _ _ _ kn2 k6b).mono ?_; rintro e W6 ⟨rfl, rfl⟩; rw [hgt])
                      | go_in)
                    go_roundw
                    case rel =>
                      refine ⟨m + 1, by omega, by simp, fun j => ?_, ⟨_, (((((hF.set (by omega) _).set (by omega) _).alloc _).alloc _).alloc _).alloc _, fset2 hFm (by rw [hbn]) (by rw [hbn])⟩, by simp; omega, ((((hBV _ _).alloc (by simp; omega) _).alloc (by simp; omega) _).alloc (by simp; omega) _).alloc (by simp; omega) _⟩
                      exact (World.cell?_alloc_past _ _ _ (by simp; omega)).trans ((World.cell?_alloc_past _ _ _ (by simp; omega)).trans (kbx _ _ _ _ j))
                    case measure => simp [intOf]; omega
                · have hbf : (bd == 0) = false := beq_eq_false_iff_ne.2 hb0
                  clear CV CW h1W z1W kfar hBW
                  cases ti
                  · have hbn : bndOf L n m = (-1, -1) := by rw [HBN.out, if_neg (by simp), if_neg (fun h => hb0 h.1)]
                    go_wp2
                    go_roundw
                    case rel =>
                      exact ⟨m + 1, by omega, by simp, fun j => kbx _ _ _ _ j, ⟨_, (((hF.set (by omega) _).set (by omega) _).alloc _).alloc _, fset2 hFm (by rw [hbn]) (by rw [hbn])⟩, by simp; omega, ((hBV _ _).alloc (by simp; omega) _).alloc (by simp; omega) _⟩
                    case measure => simp [intOf]; omega
                  · have hbn : bndOf L n m = (t_o, ts) := by rw [HBN.out, if_pos ⟨hb0, rfl⟩]
                    go_wp2
                    go_roundw
                    case rel =>
                      exact ⟨m + 1, by omega, by simp, fun j => (far_set (by omega) _ _).trans ((far_set (by omega) _ _).trans (kbx _ _ _ _ j)), ⟨_, (((((hF.set (by omega) _).set (by omega) _).alloc _).alloc _).set (by omega) _).set (by omega) _, fset4 hFm (by rw [hbn]) (by rw [hbn])⟩, by simp; omega, ((((hBV _ _).alloc (by simp; omega) _).alloc (by simp; omega) _).setCell (by simp) _).setCell (by simp) _⟩
                    case measure => simp [intOf]; omega
              · obtain rfl : m = Y.length := by omega
                obtain ⟨ib, hib, hy0, hy1, hy2⟩ := info_parts (show (Tryd.prog.info? 29).map (fun i => (i.zero, i.size, i.bytes)) = some (some (.slice none 0 0), 1, 24) by kernel_rfl)
                have hv5 : ∀ C : Obj, (w5.alloc C).ownsRow W3.heap.size 29 1 u2 n xs := fun C => own_keep hv (fun i hi => (heap_push_old w5 C (Nat.lt_of_lt_of_le hi hB9.size)).trans (hB9.block i hi))
                have hd5 : DRel (stR W3.heap.size w5) w5 (.arr bndC) (.arr (rowD L n)) (.slice (some ⟨w4.heap.size + 1, 0, none⟩) Y.length Y.length) := by
                  unfold rowD
                  rw [← HY.out]
                  exact row_drel (by omega) hF.kind (by unfold maxLen; omega) (fun j hj => ⟨(hF.cell _ (by omega)).trans (by rw [(hFm j hj).1]), (hF.cell _ (by omega)).trans (by rw [(hFm j hj).2])⟩)
                have hX5 : RowsAre W3.heap.size w5 L xs := hX.grown (below_full hB9 (Nat.le_refl _))
                have hws7 := hB7.size
                have hws9 := hB9.size
                have h24 : (n + 1) * 24 ≤ 140737488355328 := by omega
                have hnm : n + 1 ≤ maxLen := by unfold maxLen; omega
                go_wp2_with (first
                  | (at_builtin; refine wpList_append_own _ rfl _ _ 25 rfl W3.heap.size 29 ib _ 1 24 Tryd.underlying25 hib hy0 hy1 hy2 rfl (by omega) u2 n xs rfl (hv5 _) ⟨w5.heap.size, 0, none⟩ 1 1 [.slice (some ⟨w4.heap.size + 1, 0, none⟩) Y.length Y.length] rfl rfl ?_ ?_ hnm h24 ?_ ?_)
                  | go_in)
                · intro j u hj
                  match j, hj with
                  | 0, hj => simp at hj; subst hj; exact World.cell?_alloc_at _ _ _ 0 rfl
                  | j + 1, hj => simp at hj
                · intro u hu; simp at hu; subst hu; rfl
                · rw [World.size_alloc]; omega
                · intro v' w6 hown' hg' hnn
                  have hX6 := RowsAre.push (hX5.grown (World.grownBy_alloc w5 (Obj.cells #[.slice (some ⟨w4.heap.size + 1, 0, none⟩) Y.length Y.length] 29) none)) (hv5 _) (drel_alloc hd5 _) hg'
                  have hne6 : ∀ bb, bb < W3.heap.size → some bb ≠ u2.ownBlock := fun bb h => own_base hv h
                  have hh6 : ∀ bb, bb < w4.heap.size → some bb ≠ u2.ownBlock → w6.heap[bb]? = w4.heap[bb]? := fun bb h1 h2 => (hg'.block bb (by rw [World.size_alloc]; omega) h2).trans ((heap_push_old w5 _ (Nat.lt_of_lt_of_le h1 hB9.size)).trans (hB9.block bb h1))
                  have hs6 := hg'.size
                  rw [World.size_alloc] at hs6
                  go_wp2
                  go_roundw
                  case rel =>
                    refine ⟨n + 1, xs ++ [.slice (some ⟨w4.heap.size + 1, 0, none⟩) Y.length Y.length], by omega, by simp, hown', hX6, ((hM4.kept (below_full hB9 (Nat.le_refl _)) (by simp)).alloc _).kept hg' (hne6 _ hb13), fun j => (World.cell?_of_block (a := ⟨W2.heap.size, j, none⟩) (hh6 W2.heap.size (Nat.lt_of_lt_of_le hsW3 hs4) (hne6 _ hsW3))).trans (hbx4 j), by omega, hg'.os.trans (hB9.os.trans hB7.os), hg'.tape.trans (hB9.tape.trans hB7.tape), hg'.output.trans (hB9.output.trans hB7.output), by omega, fun i hi => (hh6 i (by omega) (hne6 i (by have := hB6.size; omega))).trans (hB7.block i hi)⟩
                  case measure => simp [intOf]; omega
          · obtain rfl : n = L.length := by omega
            go_wp2
            refine ⟨rfl, .tuple #[u2, .int .i64 0], by simp [results, Tryd.f10, go_sem], u2, rfl, ⟨xs, ownsRow_base_a hv (by have := hB6.size; omega), hX.base (by have := hB6.size; omega)⟩, hB7⟩
      · intro x c kl yd yp w1 cnt1 hkey hlk hv hat hrg1 hlt hg1 hs1 hen
        obtain ⟨x', hx1, rfl, hx2⟩ := Maps.keyOf_str Tryd.underlying9 hkey
        have hxx : x' = x := by have h := hx1; simp only [encStr, Value.string.injEq, ByteArray.mk.injEq] at h; exact (List.toArray_inj h).symm
        subst hxx
        have hcd : c = dAll ⟨x'.toArray⟩ L L.length := by
          have h1 := hat Def1.zero.d
          have h2 : M.atKey (strK ⟨x'.toArray⟩) Def1.zero.d = c.d := by
            rw [defR_v] at hv
            injection hv with hv
            injection hv with hv _
            rw [hv]; exact h1
          rw [hT.defs] at h2
          exact (Def1.d_inj h2).symm
        have HC : Aside (c = dAll ⟨x'.toArray⟩ L L.length) := hcd
        clear hcd hv hx1
        obtain ⟨q0, q1, q2, qo, qs, qn, qi⟩ := c
        simp only [Def1.v] at hen ⊢
        by_cases hd1 : 1 < qn
        · obtain rfl : r = 230 := by rw [HR.out, bindE, if_neg hcf, if_pos (doubleB_true (s := ⟨x'.toArray⟩) (by rw [← HC.out]; exact hd1))]
          go_wp2
          refine ⟨rfl, .tuple #[.slice none 0 0, .int .i64 230], by simp [results, Tryd.f10, go_sem], _, rfl, .inr ⟨by decide, rfl⟩, hB4.trans ((grown_below ((hgw.andThen hg1 (fun j hj => by cases hj; exact .inl (by simp))).andThen (World.grownBy_alloc w1 _ none) (fun j hj => by cases hj))).mono hB4.size)⟩
        · go_wp2
          go_roundw
          case rel =>
            refine ⟨rfl, _, cnt1, hrg1.alloc _, (hgw.andThen hg1 (fun j hj => by cases hj; exact .inl (by simp))).andThen (World.grownBy_alloc w1 _ none) (fun j hj => by cases hj), fun s h => ?_⟩
            simp only [Bool.and_eq_false_iff, Bool.not_eq_false'] at h
            rcases h with h | h
            · exact HD.out s h
            · have e : s = ⟨x'.toArray⟩ := by
                simp only [Lit.sameKey, beq_iff_eq] at h
                refine ByteArray.ext (Array.toList_inj.1 ?_)
                simpa using h
              subst e
              rw [← HC.out]
              exact Int.not_lt.1 hd1
          case measure => rw [(hrg1.alloc _).left_eq, hrg.left_eq]; exact hlt
end Go.Proofs.YtacfehneeanlgaaDoor.Ev
