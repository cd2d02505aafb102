/- A part of the proof: what the statement needs, and nothing else. -/
import Derived.Test.YtkcopbnaleiocaaZb19
namespace Go.Proofs.Ytkcopbnaleiocaa.Ev
open Go Go.RowKit Go.Shelf
set_option linter.unusedVariables false
set_option linter.unusedSimpArgs false
def RowAt (W : World) (v : Value) (ys : List (List D)) : Prop :=
  (ys = [] ∧ ∃ p, v = .slice p 0 0) ∨ ∃ b o cap, v = .slice (some (pl b o)) ys.length cap ∧ ∀ j, j < ys.length → W.cell? (pl b (o + j)) = some (.int .u8 (cellI ys j 0))
theorem rowAt_of {st : Nat → Nat → Prop} {W : World} {xs : List (List D)} {v : Value} (h : DRel st W (.arr u8s) (.arr xs) v) : RowAt W v xs := by
  generalize hx : D.arr xs = d at h
  cases h with
  | nil _ _ p hn => subst hx; exact .inl ⟨hn, p, rfl⟩
  | arr _ _ b o cap f hn hm hcc hdd =>
    subst hx
    refine .inr ⟨b, o, cap, rfl, fun j hj => ?_⟩
    obtain ⟨_, h2⟩ := hcc j 0 hj (by simp)
    have h3 := hdd j 0 (.int .u8) hj rfl
    simp only [List.length_cons, List.length_nil, Nat.zero_add, Nat.mul_one, Nat.add_zero] at h2
    rw [h2]
    generalize f j 0 = z at h3
    cases h3
    rfl
def gFree : Gh := ⟨fun _ => .free, fun _ => none⟩
theorem rwr_calls (a b k c d : Int) (W : World) : Calls Try.prog 165 #[.agg #[.int .i64 a, .int .i64 b, .int .u8 k, .int .i64 c, .int .i64 d]] W fun e W' =>
    ∃ v x, e = .returned (.tuple #[v, x]) ∧ RowAt W' v (if relWok b k c d then relB b k c d else []) ∧ Go.RowKit.Below W.heap.size W W' := by
  have hc := con_rwr [.agg [.val (.int .i64 a), .val (.int .i64 b), .val (.int .u8 k), .val (.int .i64 c), .val (.int .i64 d)]] _ rfl gFree W #[.agg #[.int .i64 a, .int .i64 b, .int .u8 k, .int .i64 c, .int .i64 d]]
    ⟨rfl, fun i v hi => ?_, fun i cs hi => by simp at hi, fun _ _ => rfl, fun _ => rfl, fun _ => rfl, fun _ => rfl, fun i b hb => (nomatch hb), fun b r l _ ho => (nomatch ho)⟩
  · refine hc.mono fun e W' ⟨v, g', he, hv, _, _, _, hE, _⟩ => ?_
    cases hv with
    | tup _ _ cs hl hn h =>
      obtain ⟨cs⟩ := cs
      match cs, hl with
      | [v0, v1], _ =>
        have h0 := h 0 _ v0 rfl rfl
        exact ⟨v0, v1, he, rowAt_of (own_d h0), hE.os, hE.tape, hE.output, hE.size, fun k hk => (hE.free k hk rfl).1⟩
  · match i with
    | 0 =>
      simp only [List.getElem?_cons_zero, Option.some.injEq] at hi
      subst hi
      refine ⟨_, rfl, .agg _ _ _ rfl (fun i v hi => ?_) (fun i v c hv hc => ?_)⟩
      · match i with
        | 0 | 1 | 2 | 3 | 4 => simp at hi; subst hi; trivial
        | i + 5 => simp at hi
      · match i with
        | 0 | 1 | 2 | 3 | 4 => simp at hv hc; subst hv; subst hc; exact .val _ _
        | i + 5 => simp at hv
    | i + 1 => simp at hi
def val8 (e : List D) : Value := .int .u8 (e.getD 0 default).toInt
def Tab (W : World) (B n : Nat) (ys : Nat → List (List D)) : Prop :=
  ∃ cur : Array Value, W.heap[B]? = some (.cells cur 26 (0, 0)) ∧ cur.size = n ∧ (∀ (i : Nat) (v : Value), cur[i]? = some v → W.ownsRow (B + 1) 5 1 v (ys i).length ((ys i).map val8)) ∧
    ∀ (i j : Nat) (u v : Value), cur[i]? = some u → cur[j]? = some v → i ≠ j → u.ownBlock = v.ownBlock → u.ownBlock = none
theorem rown_lt {W : World} {base : Nat} {e : TypeId} {size : Nat} {v : Value} {k : Nat} {xs : List Value} (h : W.ownsRow base e size v k xs) {b : Nat} (hb : v.ownBlock = some b) : base ≤ b ∧ b < W.heap.size := by
  rcases h.2 with ⟨rfl, _⟩ | ⟨g, cap, cur, rfl, h1, hgb, _⟩
  · simp [Value.ownBlock] at hb
  · simp only [Value.ownBlock, Option.some.injEq] at hb
    subst hb
    exact ⟨h1, (Array.getElem?_eq_some_iff.1 hgb).1⟩
theorem Tab.below {W W' : World} {B n : Nat} {ys : Nat → List (List D)} (h : Tab W B n ys) (hb : Go.RowKit.Below W.heap.size W W') : Tab W' B n ys := by
  obtain ⟨cur, h1, h2, h3, h4⟩ := h
  have hg : W.grownBy W' none := ⟨hb.os, hb.tape, hb.output, hb.size, fun k hk _ => hb.block k hk⟩
  refine ⟨cur, (hb.block B (Array.getElem?_eq_some_iff.1 h1).1).trans h1, h2, fun i v hv => (h3 i v hv).kept hg ?_, h4⟩
  rcases hv' : v.ownBlock with _ | b
  · exact .inl rfl
  · exact .inr (by simp)
theorem Tab.cell {W : World} {B n : Nat} {ys : Nat → List (List D)} (h : Tab W B n ys) {i : Nat} (hi : i < n) : ∃ v, W.cell? ⟨B, i, none⟩ = some v ∧ W.ownsRow (B + 1) 5 1 v (ys i).length ((ys i).map val8) := by
  obtain ⟨cur, h1, h2, h3, h4⟩ := h
  have hi' : i < cur.size := by omega
  exact ⟨cur[i], by simp [World.cell?, h1, hi'], h3 i _ (Array.getElem?_eq_getElem hi')⟩
theorem Tab.step {W2 W3 : World} {B n i : Nat} {ys : Nat → List (List D)} {v v' : Value} {rows : List (List D)} (h : Tab W2 B n ys) (hi : i < n) (hv : W2.cell? ⟨B, i, none⟩ = some v)
    (ho : W3.ownsRow (B + 1) 5 1 v' ((ys i).length + rows.length) ((ys i).map val8 ++ rows.map val8)) (hg : W2.grownBy W3 v.ownBlock) (hb : v'.ownBlock = v.ownBlock ∨ v'.ownBlock = some W2.heap.size) :
    W3.cell? ⟨B, i, none⟩ = some v ∧ W3.frozen? ⟨B, i, none⟩ = false ∧ Tab (W3.setCell ⟨B, i, none⟩ v') B n (fun j => if j = i then ys i ++ rows else ys j) ∧ Go.RowKit.Below B W2 (W3.setCell ⟨B, i, none⟩ v') := by
  obtain ⟨cur, h1, h2, h3, h4⟩ := h
  have hi' : i < cur.size := by omega
  have hBl : B < W2.heap.size := (Array.getElem?_eq_some_iff.1 h1).1
  have ev : v = cur[i] := by simp [World.cell?, h1, hi'] at hv; exact hv.symm
  have hvo := h3 i v (by rw [ev]; exact Array.getElem?_eq_getElem hi')
  have hBv : some B ≠ v.ownBlock := fun e => by have := rown_lt hvo e.symm; omega
  have hB3 : W3.heap[B]? = some (.cells cur 26 (0, 0)) := (hg.block B hBl hBv).trans h1
  have hlt3 : B < W3.heap.size := (Array.getElem?_eq_some_iff.1 hB3).1
  have hv'B : v'.ownBlock ≠ some B := fun e => by have := rown_lt ho e; omega
  have hgs : W3.grownBy (W3.setCell ⟨B, i, none⟩ v') (some B) := ⟨rfl, rfl, rfl, (KeepsWalks.setCell W3 _ v').size, fun k _ hk => Go.RowKit.Below.heap_setCell _ _ _ k (fun e => hk (by rw [e]))⟩
  refine ⟨by simp [World.cell?, hB3, hi', ev], by simp [World.frozen?, hB3], ⟨cur.set i v' hi', ?_, by simp [h2], fun j u hu => ?_, fun j k u t hu ht hne hq => ?_⟩, ?_⟩
  · have hk := Array.getElem?_eq_some_iff.1 hB3
    obtain ⟨hk1, hk2⟩ := hk
    show (W3.heap.modify B _)[B]? = _
    rw [Array.getElem?_eq_getElem (by rw [Array.size_modify]; exact hk1), Array.getElem_modify_self, hk2]
    simp [Array.setIfInBounds, hi']
  · by_cases hj : j = i
    · subst hj
      rw [Array.getElem?_set_self hi'] at hu
      cases hu
      simp only [if_true, List.length_append, List.map_append]
      exact ho.kept hgs (.inr hv'B)
    · rw [Array.getElem?_set_ne hi' (Ne.symm hj)] at hu
      simp only [if_neg hj]
      have hu3 := h3 j u hu
      have hne : u.ownBlock = none ∨ u.ownBlock ≠ v.ownBlock := by
        by_cases hq : u.ownBlock = v.ownBlock
        · exact .inl (h4 j i u v hu (by rw [ev]; exact Array.getElem?_eq_getElem hi') hj hq)
        · exact .inr hq
      exact (hu3.kept hg hne).kept hgs (.inr fun e => by have := rown_lt hu3 e; omega)
  · have fresh : ∀ (m : Nat) (z : Value), cur[m]? = some z → z.ownBlock ≠ some W2.heap.size := fun m z hz e => by have := rown_lt (h3 m z hz) e; omega
    have hci : cur[i]? = some v := by rw [ev]; exact Array.getElem?_eq_getElem hi'
    by_cases hj : j = i
    · subst hj
      rw [Array.getElem?_set_self hi'] at hu
      cases hu
      rw [Array.getElem?_set_ne hi' hne] at ht
      rcases hb with hb | hb
      · rw [hb] at hq ⊢; exact h4 j k v t hci ht hne hq
      · rw [hb] at hq; exact absurd hq.symm (fresh k t ht)
    · rw [Array.getElem?_set_ne hi' (Ne.symm hj)] at hu
      by_cases hk : k = i
      · subst hk
        rw [Array.getElem?_set_self hi'] at ht
        cases ht
        rcases hb with hb | hb
        · rw [hb] at hq; exact h4 j k u v hu hci hne hq
        · rw [hb] at hq; exact absurd hq (fresh j u hu)
      · rw [Array.getElem?_set_ne hi' (Ne.symm hk)] at ht
        exact h4 j k u t hu ht hne hq
  · have h5 : Go.RowKit.Below B W2 W3 := ⟨hg.os, hg.tape, hg.output, hg.size, fun k hk => hg.block k (by omega) (fun e => by have := rown_lt hvo e.symm; omega)⟩
    exact h5.setCell (p := ⟨B, i, none⟩) (Nat.le_refl _) _
end Go.Proofs.Ytkcopbnaleiocaa.Ev
namespace Go.Proofs.Ytkcopbnaleiocaa.Ev
open Go Go.RowKit Go.Shelf
set_option linter.unusedVariables false
set_option linter.unusedSimpArgs false
theorem relRow_len (e : List D) : (relRow e).length ≤ 32 := by
  unfold relRow
  split
  · have l1 := putB_len (IntKind.wrap .i64 (rI e 2)) 4 (by omega)
    have l2 := putB_len (IntKind.wrap .i64 (rI e 3 + 1)) 4 (by omega)
    have l3 := putB_len (rI e 4) 8 (by omega)
    have l4 := putB_len (rI e 1) 8 (by omega)
    rw [relB, List.length_append, List.length_append, List.length_append]; omega
  · simp
theorem flat_len {α : Type} (f : List D → List α) (n : Nat) (hf : ∀ e, (f e).length ≤ n) : ∀ (L : List (List D)), (L.map f).flatten.length ≤ n * L.length
  | [] => by simp
  | e :: L => by
    have := flat_len f n hf L
    have h2 := hf e
    rw [List.map_cons, List.flatten_cons, List.length_append, List.length_cons, Nat.mul_add]; omega
theorem relsOf_len (s : Nat) (L : List (List D)) : (relsOf s L).length ≤ 32 * L.length := by
  have h1 := flat_len relRow 32 relRow_len (L.filter fun e => rI e 0 == (s : Int))
  have h2 := List.length_filter_le (fun e => rI e 0 == (s : Int)) L
  exact Nat.le_trans h1 (Nat.mul_le_mul_left 32 h2)
theorem putB8_len (n : Int) : (putB n 8).length = 8 := by
  have : putOk n 8 = true := by simp [putOk, siz]
  rw [putB, if_pos this]; simp [leB]
theorem relB_pos (b k c d : Int) : 0 < (relB b k c d).length := by
  have := putB8_len b
  rw [relB, List.length_append, List.length_append, List.length_append]; omega
theorem relsOf_snoc (s : Nat) (L : List (List D)) (e : List D) : relsOf s (L ++ [e]) = if rI e 0 = (s : Int) then relsOf s L ++ relRow e else relsOf s L := by
  unfold relsOf
  rw [List.filter_append]
  by_cases h : rI e 0 = (s : Int)
  · rw [if_pos h]; simp [h]
  · rw [if_neg h]; simp [h]
theorem own_below {W W' : World} {base : Nat} {e : TypeId} {size : Nat} {v : Value} {k : Nat} {xs : List Value} (h : W.ownsRow base e size v k xs) (hb : Go.RowKit.Below W.heap.size W W') : W'.ownsRow base e size v k xs := by
  have hg : W.grownBy W' none := ⟨hb.os, hb.tape, hb.output, hb.size, fun k hk _ => hb.block k hk⟩
  refine h.kept hg ?_
  rcases hv' : v.ownBlock with _ | b
  · exact .inl rfl
  · exact .inr (by simp)
def nils (n : Nat) : Array Value := Array.replicate n (.slice none 0 0)
theorem info_bs : (Try.prog.info? 26).map (fun i => (i.zero, i.size, i.bytes)) = some (some (.slice none 0 0), 1, 24) := by kernel_rfl
theorem info_b : (Try.prog.info? 5).map (fun i => (i.zero, i.size, i.bytes)) = some (some (.int .u8 0), 1, 1) := by kernel_rfl
theorem mk_run (n : Nat) (hn : n ≤ 16) (W : World) : (Instr.makeSlice 163 (.int .i64 (n : Int)) (.int .i64 (n : Int))).run Try.prog W = .ok (.slice (some ⟨W.heap.size, 0, none⟩) n n) (W.alloc (.cells (nils n) 26)) := by
  obtain ⟨i, hi, h1, h2, h3⟩ := info_parts info_bs
  have := run_make (P := Try.prog) W 163 26 i (.slice none 0 0) Try.underlying163 hi h1 .i64 .i64 n n (by omega) (by omega) (by rw [h3]; omega) (by omega)
  rw [this, h2]
  have e : madeCells (Value.slice none 0 0).cells ((n : Int).toNat * 1) = nils n := by
    apply Array.ext
    · simp [madeCells, nils]
    · intro j h1 h2
      simp [madeCells, nils, Value.cells, Nat.mod_one]
  rw [e, Int.toNat_natCast]
theorem Tab.lt {W : World} {B n : Nat} {ys : Nat → List (List D)} (h : Tab W B n ys) : B < W.heap.size := by
  obtain ⟨cur, h1, _⟩ := h
  exact (Array.getElem?_eq_some_iff.1 h1).1
theorem Tab.frozen {W : World} {B n : Nat} {ys : Nat → List (List D)} (h : Tab W B n ys) (i : Nat) : W.frozen? ⟨B, i, none⟩ = false := by
  obtain ⟨cur, h1, _⟩ := h
  simp [World.frozen?, h1]
theorem idx_run (W : World) (B n i : Nat) (h : i < n) : (Instr.indexAt 163 (.slice (some ⟨B, 0, none⟩) n n) (.int .i64 (i : Int))).run Try.prog W = .ok (.pointer (some ⟨B, i, none⟩)) W := by
  have hz : ∀ w : World, (sizeOf 26).run Try.prog w = .ok 1 w := fun w => by
    have := Try.sizeOf26 w
    exact this
  have e : W.heap = W.heap := rfl
  have h1 : (0 : Int) ≤ (i : Int) := Int.natCast_nonneg _
  have h2 : (i : Int) < (n : Int) := by omega
  have h3 : (⟨B, 0, none⟩ : Addr).add (i * 1) = ⟨B, i, none⟩ := by rw [pl_add, Nat.mul_one, Nat.zero_add]
  simp [Instr.indexAt, run_underlying Try.underlying163, hz, asIntOf, h1, h2, pl_add]
  intro hle; omega
theorem tab_new (W : World) (n : Nat) (L : List (List D)) : Tab (W.alloc (.cells (nils n) 26)) W.heap.size n (fun i => relsOf (i + 1) []) := by
  have nil : ∀ (i : Nat) (v : Value), (nils n)[i]? = some v → v = .slice none 0 0 := fun i v hv => by
    obtain ⟨h1, h2⟩ := Array.getElem?_eq_some_iff.1 hv
    simp [nils] at h2; exact h2.symm
  refine ⟨nils n, World.alloc_heap_new W _, by simp [nils], fun i v hv => ?_, fun i j u v hu hv _ _ => ?_⟩
  · rw [nil i v hv]; exact World.ownsRow_nil _ _ _ _
  · rw [nil i u hu]; rfl
set_option maxRecDepth 100000 in
set_option maxHeartbeats 4000000 in
theorem bys_in (w : World) (pS : Option Addr) (nS capS : Nat) (cY cG : Value) (bL oL capL : Nat) (L : List (List D)) (h1 : L.length ≤ capL) (hn : nS ≤ 16) (hL : L.length ≤ 256)
    (hc : ∀ i, i < L.length → w.cell? ⟨bL, oL + i * 5, none⟩ = some (.int .i64 (cellI L i 0)) ∧ w.cell? ⟨bL, oL + i * 5 + 1, none⟩ = some (.int .i64 (cellI L i 1)) ∧ w.cell? ⟨bL, oL + i * 5 + 2, none⟩ = some (.int .u8 (cellI L i 2)) ∧ w.cell? ⟨bL, oL + i * 5 + 3, none⟩ = some (.int .i64 (cellI L i 3)) ∧ w.cell? ⟨bL, oL + i * 5 + 4, none⟩ = some (.int .i64 (cellI L i 4))) (hb : bL < w.heap.size)
    (hi : ∀ i, i < L.length → 1 ≤ cellI L i 0 ∧ cellI L i 0 ≤ nS ∧ relWok (cellI L i 1) (cellI L i 2) (cellI L i 3) (cellI L i 4) = true) :
    Calls Try.prog 123 #[.agg #[.slice pS nS capS, cY, .slice (some ⟨bL, oL, none⟩) L.length capL, cG]] w fun e W' => ∃ B, e = .returned (.slice (some ⟨B, 0, none⟩) nS nS) ∧ w.heap.size ≤ B ∧ Tab W' B nS (fun i => relsOf (i + 1) L) ∧ Go.RowKit.Below w.heap.size w W' := by
  go_enter Try.func123, Try.ntmps123
  have hmk := mk_run nS hn
  go_wp2
  go_loopw [15] (fun i wr => ∃ k : Nat, k ≤ L.length ∧ i = .int .i64 k ∧ Tab wr (w.heap.size + 1) nS (fun i => relsOf (i + 1) (L.take k)) ∧ Go.RowKit.Below w.heap.size w wr)
    (fun i _ => L.length - (intOf i).toNat)
  case atStart =>
    refine ⟨0, Nat.zero_le _, rfl, ?_, ((Go.RowKit.Below.refl _ w).alloc (Nat.le_refl _) _).alloc (by simp) _⟩
    have := tab_new (w.alloc (.cells #[.slice pS nS capS, cY, .slice (some ⟨bL, oL, none⟩) L.length capL, cG] 49)) nS L
    rw [World.size_alloc] at this
    exact this
  case round =>
    obtain ⟨k, hk, rfl, hT, hB⟩ := hrel
    by_cases hlt : k < L.length
    · obtain ⟨c0, c1, c2, c3, c4⟩ := hc k hlt
      obtain ⟨i1, i2, i3⟩ := hi k hlt
      obtain ⟨i, hi0⟩ : ∃ i : Nat, cellI L k 0 = (i : Int) + 1 := ⟨(cellI L k 0 - 1).toNat, by omega⟩
      have hin : i < nS := by omega
      rw [hi0] at c0
      have d0 := (hB.cell (p := ⟨bL, oL + k * 5, none⟩) hb).trans c0
      have d1 := (hB.cell (p := ⟨bL, oL + k * 5 + 1, none⟩) hb).trans c1
      have d2 := (hB.cell (p := ⟨bL, oL + k * 5 + 2, none⟩) hb).trans c2
      have d3 := (hB.cell (p := ⟨bL, oL + k * 5 + 3, none⟩) hb).trans c3
      have d4 := (hB.cell (p := ⟨bL, oL + k * 5 + 4, none⟩) hb).trans c4
      go_wp2_with (go_at_call 165; refine (rwr_calls _ _ _ _ _ _).mono ?_; rintro e W2 ⟨v, x, rfl, hv, hB2⟩)
      rw [if_pos i3] at hv
      have hpos := relB_pos (cellI L k 1) (cellI L k 2) (cellI L k 3) (cellI L k 4)
      have hrr : relRow (L.getD k []) = relB (cellI L k 1) (cellI L k 2) (cellI L k 3) (cellI L k 4) := by
        show (if relWok (cellI L k 1) (cellI L k 2) (cellI L k 3) (cellI L k 4) then _ else _) = _
        rw [if_pos i3]; rfl
      have hlr : (relB (cellI L k 1) (cellI L k 2) (cellI L k 3) (cellI L k 4)).length ≤ 32 := by rw [← hrr]; exact relRow_len _
      generalize relB (cellI L k 1) (cellI L k 2) (cellI L k 3) (cellI L k 4) = rows at hv hpos hrr hlr
      rcases hv with ⟨h0, _⟩ | ⟨bb, oo, cc, rfl, hvc⟩
      · rw [h0] at hpos; simp at hpos
      have hb0 := hB2.block wr.heap.size (by simp)
      have hbox : W2.cell? ⟨wr.heap.size, 0, none⟩ = some (.int .i64 ((i : Int) + 1)) := by
        rw [World.cell?_of_block (a := ⟨wr.heap.size, 0, none⟩) hb0]
        unfold World.cell?
        rw [World.alloc_heap_new]
        rfl
      have hBW : Go.RowKit.Below wr.heap.size wr W2 := ((Go.RowKit.Below.refl _ wr).alloc (Nat.le_refl _) _).trans (hB2.mono (by simp))
      have hT2 := hT.below hBW
      obtain ⟨vi, hvi0, hown0⟩ := hT.cell hin
      have hvi : W2.cell? ⟨w.heap.size + 1, i, none⟩ = some vi := (World.cell?_of_block (a := ⟨w.heap.size + 1, i, none⟩) (hBW.block _ hT.lt)).trans hvi0
      have hown := own_below hown0 hBW
      have hvb : vi.ownBlock ≠ some wr.heap.size := fun e => by have := rown_lt hown0 e; omega
      have hvB : vi.ownBlock ≠ some (w.heap.size + 1) := fun e => by have := rown_lt hown e; omega
      obtain ⟨ib, hib, hz0, hz1, hz2⟩ := info_parts info_b
      have hll : (relsOf (i + 1) (L.take k)).length ≤ 8192 := by
        have := relsOf_len (i + 1) (L.take k)
        rw [List.length_take] at this
        omega
      have hnews : ∀ j u, (rows.map val8)[j]? = some u → W2.cell? ((pl bb oo).add j) = some u := fun j u hj => by
        rw [List.getElem?_map] at hj
        obtain ⟨r, hr, rfl⟩ := Option.map_eq_some_iff.1 hj
        obtain ⟨hjl, hjr⟩ := List.getElem?_eq_some_iff.1 hr
        rw [pl_add, hvc j hjl, ← hjr]
        simp [val8, cellI, hjl]
      have hone : ∀ u ∈ rows.map val8, u.oneCell' = true := fun u hu => by
        obtain ⟨r, _, rfl⟩ := List.mem_map.1 hu
        rfl
      have hiz : (0 : Int) ≤ (i : Int) := Int.natCast_nonneg _
      have hi1 : (i : Int) < (nS : Int) := by omega
      have hwr : IntKind.i64.wrap ((i : Int) + 1 - 1) = (i : Int) := by rw [wrap64 (by omega) (by omega)]; omega
      have hwr2 : IntKind.i64.wrap (i : Int) = (i : Int) := wrap64 (by omega) (by omega)
      have hnle : ¬ nS ≤ i := by omega
      have hwl : wr.heap.size < W2.heap.size := World.block_lt_of_cell? W2 _ hbox
      have hBl : w.heap.size + 1 < W2.heap.size := hT2.lt
      have hfr := hT2.frozen i
      have hidx : ∀ W : World, (Instr.indexAt 163 (.slice (some ⟨w.heap.size + 1, 0, none⟩) nS nS) (.int .i64 (i : Int))).run Try.prog W = .ok (.pointer (some ⟨w.heap.size + 1, i, none⟩)) W := fun W => idx_run W _ _ _ hin
      have hbs : w.heap.size + 1 + 1 ≤ W2.heap.size := by have := hT2.lt; omega
      have hbB : wr.heap.size ≠ w.heap.size + 1 := by have := hT.lt; omega
      go_region_law
        ((refine step_append_lies _ (by rfl) _ _ _ (by rfl) (w.heap.size + 1 + 1) 5 ib (.int .u8 0) 1 1 Try.underlying26 hib hz0 hz1 hz2 rfl (by omega) vi _ _ (by rfl) hown.drew (pl bb oo) rows.length cc (rows.map val8) (by rfl) (by simp) hnews hone hpos (by simp only [maxLen]; omega) (by omega) hbs W2.heap.size rfl ?_; intro gg cap w1 hown1 hgrow hat hlt; have hst := hT2.step hin hvi hown1 ⟨hgrow.os, hgrow.tape, hgrow.output, hgrow.size, hgrow.block⟩ (hat.elim (fun e => .inl e.symm) (fun e => .inr (congrArg some e))); have s1 := hst.1; have s2 := hst.2.1; have s0 := (hgrow.cell_far (a := ⟨wr.heap.size, 0, none⟩) (by simp; omega) (Ne.symm hvb)).trans hbox))
      all_goals
        go_wp2
        go_roundw
        case rel =>
          refine ⟨k + 1, by omega, by simp, ?_, (hB.trans (hBW.mono hB.size)).trans (hst.2.2.2.mono (by omega))⟩
          have e : (fun j => if j = i then relsOf (i + 1) (L.take k) ++ rows else relsOf (j + 1) (L.take k)) = fun j => relsOf (j + 1) (L.take (k + 1)) := by
            funext j
            rw [List.take_add_one, List.getElem?_eq_getElem (by assumption), Option.toList_some, relsOf_snoc]
            have e0 : L[k] = L.getD k [] := by rw [List.getD_eq_getElem?_getD, List.getElem?_eq_getElem (by assumption)]; rfl
            have e1 : rI L[k] 0 = (i : Int) + 1 := by rw [e0]; exact hi0
            rw [e1, e0, hrr]
            by_cases hj : j = i
            · subst hj; rw [if_pos rfl, if_pos (by omega)]
            · rw [if_neg hj, if_neg (by omega)]
          rw [← e]
          exact hst.2.2.1
        case measure => simp [intOf]; omega
    · obtain rfl : k = L.length := by omega
      go_wp2
      go_ret
      exact ⟨_, rfl, by omega, by simpa using hT, hB⟩
set_option maxRecDepth 100000 in
set_option maxHeartbeats 4000000 in
theorem bys_nil_in (w : World) (pS : Option Addr) (nS capS : Nat) (cY cG : Value) (pL : Option Addr) (capL : Nat) (hn : nS ≤ 16) :
    Calls Try.prog 123 #[.agg #[.slice pS nS capS, cY, .slice pL 0 capL, cG]] w fun e W' => ∃ B, e = .returned (.slice (some ⟨B, 0, none⟩) nS nS) ∧ w.heap.size ≤ B ∧ Tab W' B nS (fun i => relsOf (i + 1) []) ∧ Go.RowKit.Below w.heap.size w W' := by
  go_enter Try.func123, Try.ntmps123
  have hmk := mk_run nS hn
  go_wp2
  go_loopw [15] (fun i wr => i = .int .i64 0 ∧ Tab wr (w.heap.size + 1) nS (fun i => relsOf (i + 1) []) ∧ Go.RowKit.Below w.heap.size w wr) (fun i _ => 0)
  case atStart =>
    refine ⟨rfl, ?_, ((Go.RowKit.Below.refl _ w).alloc (Nat.le_refl _) _).alloc (by simp) _⟩
    have := tab_new (w.alloc (.cells #[.slice pS nS capS, cY, .slice pL 0 capL, cG] 49)) nS []
    rw [World.size_alloc] at this
    exact this
  case round =>
    obtain ⟨rfl, hT, hB⟩ := hrel
    go_wp2
    go_ret
    exact ⟨_, rfl, by omega, hT, hB⟩
theorem con_bys : ∀ vs v, pBys vs = true → gBys vs = some v → Contract Try.prog 123 vs [] (v, []) := by
  intro vs v hp h
  unfold gBys at h
  split at h <;> cases h
  rename_i S Y L G
  simp only [pBys, bysOk, Bool.and_eq_true, decide_eq_true_eq, List.all_eq_true] at hp
  obtain ⟨⟨p1, p2⟩, p3⟩ := hp
  refine contract_walk trivial fun g w cargs hH => ?_
  obtain ⟨c, a1, a2⟩ := hH.args 0 _ rfl
  have hs := hH.size
  have hc : cargs = #[c] := by
    apply Array.ext
    · simpa using hs
    · intro i h1 h2
      match i with
      | 0 => rw [Array.getElem?_eq_getElem h1] at a1; simpa using a1
      | _ + 1 => simp at hs; omega
  subst hc
  cases a2 with
  | agg _ _ cs hl hf hr =>
  obtain ⟨cs⟩ := cs
  match cs, hl with
  | [cS, cY, cL, cG], _ =>
  have hdS := arr_d (hr 0 _ cS rfl rfl)
  have hdL := arr_d (hr 2 _ cL rfl rfl)
  have hS : ∃ pS capS, cS = .slice pS S.length capS := by
    generalize hx : D.arr S = d at hdS
    cases hdS with
    | nil _ _ p hn => subst hx; have : S = [] := hn; subst this; exact ⟨p, 0, rfl⟩
    | arr _ _ b o cap f hn hm hcc hdd => subst hx; exact ⟨_, cap, rfl⟩
  obtain ⟨pS, capS, rfl⟩ := hS
  have fin : ∀ (e : Ending) (W' : World), (∃ B, e = .returned (.slice (some ⟨B, 0, none⟩) S.length S.length) ∧ w.heap.size ≤ B ∧ Tab W' B S.length (fun i => relsOf (i + 1) L) ∧ Go.RowKit.Below w.heap.size w W') → ∃ v, e = .returned v ∧ VRel g W' .ret (.arr [.arr u8s] (byS S.length L)) v ∧ Go.RowKit.Below w.heap.size w W' := by
    rintro e W' ⟨B, he, hB, ⟨cur, t1, t2, t3, t4⟩, hbel⟩
    refine ⟨_, he, .arr _ _ _ _ ?_, hbel⟩
    have hlen : (byS S.length L).length = S.length := by simp [byS]
    have st : ∀ b o, w.heap.size ≤ b → g.stable b o := fun b o hb => by
      unfold Gh.stable; rw [hH.fresh b hb]; trivial
    have key : DRel g.stable W' (.arr [.arr u8s]) (.arr (byS S.length L)) (.slice (some (pl B 0)) (D.arr (byS S.length L)).toArr.length S.length) := by
      refine .arr _ _ B 0 S.length (fun i j => cur.getD i (.slice none 0 0)) (by simp only [D.toArr]; omega) (by simp only [maxLen]; omega) (fun i j hi hj => ?_) (fun i j ct hi hct => ?_)
      · simp only [D.toArr] at hi
        have hj0 : j = 0 := by simp at hj; omega
        subst hj0
        refine ⟨st _ _ hB, ?_⟩
        have hic : i < cur.size := by omega
        simp [World.cell?, t1, hic]
      · simp only [D.toArr] at hi ⊢
        have hj0 : j = 0 := by have := (List.getElem?_eq_some_iff.1 hct).1; simp at this; omega
        subst hj0
        simp only [List.getElem?_cons_zero, Option.some.injEq] at hct
        subst hct
        have hic : i < cur.size := by omega
        have e1 : ((byS S.length L).getD i []).getD 0 default = D.arr (relsOf (i + 1) L) := by
          have : i < S.length := by omega
          simp [byS, List.getD_eq_getElem?_getD, this]
        rw [e1, show cur.getD i (.slice none 0 0) = cur[i] from by simp [hic]]
        have ho : W'.ownsRow (B + 1) 5 1 cur[i] (relsOf (i + 1) L).length ((relsOf (i + 1) L).map val8) := t3 i cur[i] (Array.getElem?_eq_getElem hic)
        rcases ho.2 with ⟨hv, h0⟩ | ⟨b, cap, cc, hv, hb, hhp, hle, hmx, hsz, htk⟩
        · rw [hv]; exact .nil _ _ _ (List.eq_nil_of_length_eq_zero h0)
        · rw [hv]
          refine .arr u8s (.arr (relsOf (i + 1) L)) b 0 cap (fun i' j' => .int .u8 (cellI (relsOf (i + 1) L) i' 0)) hle hmx (fun i' j' hi' hj' => ?_) (fun i' j' ct hi' hct => ?_)
          · simp only [D.toArr] at hi'
            have hj0 : j' = 0 := by simp at hj'; omega
            subst hj0
            refine ⟨st _ _ (by omega), ?_⟩
            have hcc : i' < cc.size := by omega
            have h5 : (cc.toList.take ((relsOf (i + 1) L).length * 1))[i']? = ((relsOf (i + 1) L).map val8)[i']? := by rw [htk]
            rw [List.getElem?_take_of_lt (by omega), List.getElem?_map, List.getElem?_eq_getElem hi'] at h5
            simp only [World.cell?, hhp, List.length_cons, List.length_nil, Nat.zero_add, Nat.mul_one, Nat.add_zero]
            rw [← Array.getElem?_toList, h5]
            simp [val8, cellI, hi']
          · simp only [D.toArr] at hi' ⊢
            have hj0 : j' = 0 := by have := (List.getElem?_eq_some_iff.1 hct).1; simp at this; omega
            subst hj0
            simp only [List.getElem?_cons_zero, Option.some.injEq] at hct
            subst hct
            exact .int _ _
    simp only [D.toArr, hlen] at key
    exact key
  generalize hx : D.arr L = d at hdL
  cases hdL with
  | nil _ _ p hn =>
    subst hx
    have : L = [] := hn
    subst this
    exact (bys_nil_in w pS S.length capS cY cG p 0 p1).mono fin
  | arr _ _ b o cap f hn hm hcc hdd =>
    subst hx
    simp only [D.toArr] at hn hcc hdd ⊢
    by_cases h0 : L.length = 0
    · have : L = [] := List.eq_nil_of_length_eq_zero h0
      subst this
      exact (bys_nil_in w pS S.length capS cY cG (some (pl b o)) cap p1).mono fin
    · have cell : ∀ (i j : Nat) (ct : CT), i < L.length → relC[j]? = some ct → w.cell? ⟨b, o + i * 5 + j, none⟩ = some (f i j) ∧ DRel g.stable w ct ((L.getD i []).getD j default) (f i j) := fun i j ct hi hct => ⟨(hcc i j hi (List.getElem?_eq_some_iff.1 hct).1).2, hdd i j ct hi hct⟩
      have cint : ∀ (i j : Nat) (k : IntKind), i < L.length → relC[j]? = some (.int k) → w.cell? ⟨b, o + i * 5 + j, none⟩ = some (.int k (cellI L i j)) := fun i j k hi hct => by
        obtain ⟨h1, h2⟩ := cell i j _ hi hct
        rw [h1]
        generalize f i j = z at h2
        cases h2
        rfl
      refine (bys_in w pS S.length capS cY cG b o cap L hn p1 p2 (fun i hi => ⟨cint i 0 .i64 hi rfl, cint i 1 .i64 hi rfl, cint i 2 .u8 hi rfl, cint i 3 .i64 hi rfl, cint i 4 .i64 hi rfl⟩) (cell_lt (cint 0 0 .i64 (by omega) rfl)) (fun i hi => ?_)).mono fin
      have hm : L.getD i [] ∈ L := by
        rw [List.getD_eq_getElem?_getD, List.getElem?_eq_getElem hi]; exact List.getElem_mem hi
      exact ⟨(p3 _ hm).1.1, (p3 _ hm).1.2, (p3 _ hm).2⟩
end Go.Proofs.Ytkcopbnaleiocaa.Ev
