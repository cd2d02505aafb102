/- ResolveStays: strong definitions stay. -/
import Derived.Test.YtacfehneeanlgaaDoorRyD
import Derived.Deep.AppendLies
import Derived.Deep.Upon
namespace Go.Proofs.YtacfehneeanlgaaDoor.Ev
open Go Go.RowKit Go.Shelf Go.Maps
set_option linter.unusedVariables false
set_option linter.unusedSimpArgs false
theorem dRow_keep {s : ByteArray} {x : List D} {i : Nat} {d : Def1} (h1 : d.is = true) (h2 : d.r0 = 2) : ∀ n, (∀ k, k < n → symDef x ((rA x 3).getD k []) = true → ¬ Strong ((rA x 3).getD k [])) →
    (dRow s x i d n).is = true ∧ (dRow s x i d n).r0 = 2 ∧ (dRow s x i d n).ob = d.ob ∧ (dRow s x i d n).sy = d.sy := by
  intro n
  induction n with
  | zero => intro _; exact ⟨h1, h2, rfl, rfl⟩
  | succ n ih =>
    intro h
    obtain ⟨q1, q2, q3, q4⟩ := ih fun k hk => h k (by omega)
    rw [dRow_succ, dStep]
    split
    · rename_i hd
      have hs := h n (by omega) hd.1
      unfold Def1.put
      dsimp only
      split
      · rename_i hx
        exfalso
        rcases hx with hx | hx
        · rw [q1] at hx; cases hx
        · have h3 : ¬ cmpL (rankD (rankY ((rA x 3).getD n []))) (rankD ((dRow s x i d n).r0, (dRow s x i d n).r1, (dRow s x i d n).r2)) ≤ 0 := Int.not_le.2 hx
          rw [cmp_le] at h3
          have h4 : ¬ 2 ≤ (rankY ((rA x 3).getD n [])).1 := fun h5 => hs (rank_strong.1 h5)
          dsimp only at h3
          omega
      · exact ⟨q1, q2, q3, q4⟩
    · exact ⟨q1, q2, q3, q4⟩
/-- One more object without strong definitions. -/
theorem stays_bnd {l : List (List D)} {x : List D} (hc : chkL l = true) (hcm : chkL (l ++ [x]) = true) (hg : KindsOk (l ++ [x])) (hx : ∀ k, k < (rA x 3).length → ¬ (rI ((rA x 3).getD k []) 1 = 1 ∧ rI ((rA x 3).getD k []) 3 ≠ 0 ∧ rI ((rA x 3).getD k []) 3 ≠ -2))
    {i k : Nat} (hi : i < l.length) (hk : k < (rA (l.getD i []) 3).length) (h0 : 0 ≤ (bndOf l i k).1) :
    ∃ a b : Nat, bndOf l i k = ((a : Int), (b : Int)) ∧ a < l.length ∧ b < (rA (l.getD a []) 3).length ∧ ((rI (sy l a b) 1 = 0 ∨ (rI (sy l a b) 1 = 1 ∧ rI (sy l a b) 3 ≠ -2)) → bndOf (l ++ [x]) i k = bndOf l i k) := by
  have inv := dAll_inv hc (rN (sy l i k))
  have hsame : sy (l ++ [x]) i k = sy l i k := by show (rA ((l ++ [x]).getD i []) 3).getD k [] = _; rw [app_at x hi]
  by_cases h1 : rI (sy l i k) 1 ≠ 0 ∧ (dAll (rN (sy l i k)) l l.length).is = true
  · have e : bndOf l i k = ((dAll (rN (sy l i k)) l l.length).ob, (dAll (rN (sy l i k)) l l.length).sy) := by unfold bndOf; rw [if_pos h1]
    obtain ⟨a, b, q1, q2, q3, q4⟩ := inv.at_ h1.2
    refine ⟨a, b, by rw [e, q2, q3], q1.1, q1.2.1, fun hs => ?_⟩
    have hn0 : rI (sy l a b) 1 ≠ 0 := fun h0 => by
      have := q1.2.2.1
      unfold symDef at this
      rw [h0] at this
      simp at this
    have hst : Strong (sy l a b) := by
      rcases hs with hs | hs
      · exact absurd hs hn0
      · exact ⟨hs.2, by rw [hs.1]; decide⟩
    have hr0 : (dAll (rN (sy l i k)) l l.length).r0 = 2 := by
      have h5 : (rankY (sy l a b)).1 = 2 := by
        unfold rankY rankOf
        rw [if_neg hst.1, if_neg hst.2]
      rw [← q4] at h5
      exact h5
    obtain ⟨p1, p2, p3, p4⟩ := dRow_keep (s := rN (sy l i k)) (x := x) (i := l.length) h1.2 hr0 (rA x 3).length fun k' hk' hd hs' => by
      have hk2 : k' < (rA ((l ++ [x]).getD l.length []) 3).length := by rw [app_last]; exact hk'
      have hl2 : l.length < (l ++ [x]).length := by rw [app_len]; omega
      have b1 := (bind_may hcm hl2 hk2).1
      have b2 := hg l.length k' hl2 hk2
      have e2 : sy (l ++ [x]) l.length k' = (rA x 3).getD k' [] := by show (rA ((l ++ [x]).getD l.length []) 3).getD k' [] = _; rw [app_last]
      rw [e2] at b1 b2
      unfold symDef at hd
      simp only [Bool.and_eq_true, decide_eq_true_eq] at hd
      have := hs'.2
      exact hx k' hk' ⟨by omega, hd.2.1, hs'.1⟩
    have e3 : bndOf (l ++ [x]) i k = ((dAll (rN (sy l i k)) (l ++ [x]) (l ++ [x]).length).ob, (dAll (rN (sy l i k)) (l ++ [x]) (l ++ [x]).length).sy) := by
      unfold bndOf
      have h5 : (rA ((l ++ [x]).getD i []) 3).getD k [] = sy l i k := hsame
      rw [h5, if_pos ⟨h1.1, by rw [app_dall]; exact p1⟩]
    rw [e3, app_dall, p3, p4, e]
  · by_cases h2 : rI (sy l i k) 1 = 0 ∧ goneB (rA (l.getD i []) 6) (rI (sy l i k) 3) = false
    · have e : bndOf l i k = ((i : Int), (k : Int)) := by unfold bndOf; rw [if_neg h1, if_pos h2]
      refine ⟨i, k, e, hi, hk, fun _ => ?_⟩
      rw [e]
      unfold bndOf
      have h5 : (rA ((l ++ [x]).getD i []) 3).getD k [] = sy l i k := hsame
      rw [h5, app_at x hi, if_neg (fun q => q.1 h2.1), if_pos h2]
    · have e : bndOf l i k = (-1, -1) := by unfold bndOf; rw [if_neg h1, if_neg h2]
      rw [e] at h0
      exact absurd h0 (by decide)
/-- The first append of all: onto nothing, as a step of a region that draws. -/
theorem step_append_first {P : Program} {ops : Array Oper} {o : Oper} {a : Act} {w : World} {K : Act → World → Prop} {Q : Exit → Act → World → Prop} {E : Prop} (hgd : o.guard = none) (s x : Operand) (t : TypeId)
    (ho : o.op = .call { callee := .builtin .append, args := #[s, x], argTypes := #[t, t] })
    (base : Nat) (e : TypeId) (i : TypeInfo) (z : Value) (size bytes : Nat) (ht : P.underlying t = some (.slice e)) (hi : P.info? e = some i) (hz : i.zero = some z)
    (hsize : i.size = size) (hby : i.bytes = bytes) (hzs : z.cells.size = size) (hsz : 0 < size) (hs : a.eval s = .slice none 0 0)
    (p : Option Addr) (m c : Nat) (news : List Value) (hx : a.eval x = .slice p m c) (hl : news.length = m * size) (hp : 0 < m → ∃ ad, p = some ad ∧ ∀ j u, news[j]? = some u → w.cell? (ad.add j) = some u) (h1 : ∀ u ∈ news, u.oneCell' = true)
    (h63 : m ≤ maxLen) (hbytes : m * bytes ≤ 140737488355328) (hbase : base ≤ w.heap.size)
    (h : ∀ v' w', w'.ownsRow base e size v' m news → w.grownBy w' none → K (a.put o.dst v') w') :
    if Region.wanted o (yielded ops a.tmps) = true then Oper.wp P o a w K Q else E := by
  have hw : Region.wanted o (yielded ops a.tmps) = true := by simp [Region.wanted, hgd]
  rw [if_pos hw]
  by_cases h0 : m = 0
  · subst h0
    have hn : news = [] := List.eq_nil_of_length_eq_zero (by simpa using hl)
    subst hn
    have hsrc : Src P i.size t (.slice p 0 c) 0 [] w := by
      cases p with
      | none => exact Src.ofNil w ht c
      | some ad => exact Src.ofSlice w ht ad 0 c [] (by simp) (fun j u hj => by simp at hj) (fun u hu => by simp at hu)
    have hrun := run_append_nothing (P := P) w t t o.type e i ht hi none 0 0 (Nat.le_refl _) (.slice p 0 c) hsrc
    unfold Oper.wp
    simp [execOp, ho, resolve, invoke, builtin, hs, hx, hrun, Result.andThen]
    exact h _ _ (World.ownsRow_nil _ _ _ _) (World.grownBy.refl _ _)
  · obtain ⟨ad, rfl, hnews⟩ := hp (by omega)
    exact wp_append_own w s x t ho base e i z size bytes ht hi hz hsize hby hzs hsz (.slice none 0 0) 0 [] hs (World.ownsRow_nil _ _ _ _) ad m c news hx hl hnews h1 (by omega) (by simpa using hbytes) hbase fun v' w' h2 h3 _ => h v' w' (by simpa using h2) h3
theorem drel_one {st : Nat → Nat → Prop} {w : World} {ct : CT} {d : D} {v : Value} (h : DRel st w ct d v) : v.oneCell' = true := by cases h <;> rfl
/-- A list's cells, in order. -/
def oldCells (w : World) (b o n : Nat) : List Value := (List.range n).map fun q => (w.cell? ⟨b, o + q, none⟩).getD (.slice none 0 0)
theorem old_at {w : World} {l : List (List D)} {b o cap : Nat} (hL : DRel allS w (.arr keptC) (.arr l) (.slice (some (pl b o)) l.length cap)) (h0 : 0 < l.length) {i j : Nat} {ct : CT} (hi : i < l.length) (hj : keptC[j]? = some ct) :
    ∃ v, w.cell? ⟨b, o + (i * 7 + j), none⟩ = some v ∧ (oldCells w b o (l.length * 7))[i * 7 + j]? = some v ∧ DRel allS w ct ((l.getD i []).getD j default) v := by
  obtain ⟨_, _, hc⟩ := arr_cells hL h0
  obtain ⟨v, h1, h2⟩ := hc i j ct hi hj
  have hj7 : j < 7 := by have := (List.getElem?_eq_some_iff.1 hj).1; simpa using this
  have e : o + i * 7 + j = o + (i * 7 + j) := by omega
  have h1' : w.cell? ⟨b, o + (i * 7 + j), none⟩ = some v := by rw [← e]; exact h1
  refine ⟨v, h1', ?_, h2⟩
  have hlt : i * 7 + j < l.length * 7 := by omega
  simp [oldCells, hlt, h1']
theorem old_cells {w : World} {l : List (List D)} {b o cap : Nat} (hL : DRel allS w (.arr keptC) (.arr l) (.slice (some (pl b o)) l.length cap)) (h0 : 0 < l.length) :
    (∀ q u, (oldCells w b o (l.length * 7))[q]? = some u → w.cell? ⟨b, o + q, none⟩ = some u ∧ u.oneCell' = true) := by
  intro q u hq
  have hlt : q < l.length * 7 := by have := (List.getElem?_eq_some_iff.1 hq).1; simpa [oldCells] using this
  obtain ⟨ct, hct⟩ : ∃ ct, keptC[q % 7]? = some ct := ⟨_, List.getElem?_eq_getElem (by show q % 7 < 7; omega)⟩
  obtain ⟨v, h1, h2, h3⟩ := old_at hL h0 (i := q / 7) (j := q % 7) (by omega) hct
  rw [show q / 7 * 7 + q % 7 = q by omega] at h1 h2
  rw [h2] at hq
  injection hq with hq
  subst hq
  exact ⟨h1, drel_one h3⟩
/-- The longer list, as data. -/
theorem more_drel {W : World} {base : Nat} {v : Value} {l : List (List D)} {x : List D} {news row : List Value} (hown : W.ownsRow base 38 7 v (l.length + 1) (news ++ row)) (hnl : news.length = l.length * 7)
    (hn : ∀ i j ct, i < l.length → keptC[j]? = some ct → ∃ u, news[i * 7 + j]? = some u ∧ DRel allS W ct ((l.getD i []).getD j default) u) (hr : ∀ j ct, keptC[j]? = some ct → ∃ u, row[j]? = some u ∧ DRel allS W ct (x.getD j default) u) :
    ∃ p cap, v = .slice p (l ++ [x]).length cap ∧ DRel allS W (.arr keptC) (.arr (l ++ [x])) v := by
  have hl : (l ++ [x]).length = l.length + 1 := by simp
  rcases hown.2 with ⟨_, h0⟩ | ⟨g, cap, cur, rfl, hb, hg, h1, h2, h3, h4⟩
  · omega
  · refine ⟨some ⟨g, 0, none⟩, cap, by rw [hl], ?_⟩
    have e : l.length + 1 = (D.arr (l ++ [x])).toArr.length := hl.symm
    have hS : Value.slice (some ⟨g, 0, none⟩) (l.length + 1) cap = .slice (some (pl g 0)) (D.arr (l ++ [x])).toArr.length cap := by rw [← e]
    have all : ∀ i j ct, i < l.length + 1 → keptC[j]? = some ct → ∃ u, (news ++ row)[i * 7 + j]? = some u ∧ DRel allS W ct (((l ++ [x]).getD i []).getD j default) u := by
      intro i j ct hi hj
      by_cases e : i < l.length
      · obtain ⟨u, q1, q2⟩ := hn i j ct e hj
        exact ⟨u, by rw [List.getElem?_append_left (List.getElem?_eq_some_iff.1 q1).1]; exact q1, by rw [app_at x e]; exact q2⟩
      · obtain rfl : i = l.length := by omega
        obtain ⟨u, q1, q2⟩ := hr j ct hj
        exact ⟨u, by rw [List.getElem?_append_right (by omega), show l.length * 7 + j - news.length = j by omega]; exact q1, by rw [app_last]; exact q2⟩
    rw [hS]
    refine .arr keptC _ g 0 cap (fun i j => (news ++ row).getD (i * 7 + j) (.slice none 0 0)) (by omega) h2 (fun i j hi hj => ⟨trivial, ?_⟩) (fun i j ct hi hj => ?_)
    · have hj7 : j < 7 := by simpa using hj
      rw [← e] at hi
      have := hown.cellAt (i * 7 + j) (by omega)
      have hx : i * 7 + j < (news ++ row).length := by have := hown.1; omega
      simp only [pl, List.length_cons, List.length_nil, Nat.zero_add, Nat.reduceAdd]
      rw [this, List.getD_eq_getElem?_getD, List.getElem?_eq_getElem hx]; rfl
    · rw [← e] at hi
      obtain ⟨u, q1, q2⟩ := all i j ct hi hj
      rw [show (news ++ row).getD (i * 7 + j) (.slice none 0 0) = u by rw [List.getD_eq_getElem?_getD, q1]; rfl]
      exact q2
/-- Marks, as data. -/
theorem marks_drel {W : World} {b n : Nat} (hn : n ≤ maxLen) (h : ∀ j, j < n → W.cell? ⟨b, j, none⟩ = some (.bool true)) : DRel allS W (.arr bls) (.arr (List.replicate n [.bool true])) (.slice (some ⟨b, 0, none⟩) n n) := by
  have e : n = (D.arr (List.replicate n [.bool true])).toArr.length := by simp [D.toArr]
  generalize hX : List.replicate n [D.bool true] = X at e
  have hS : Value.slice (some ⟨b, 0, none⟩) n n = .slice (some (pl b 0)) (D.arr X).toArr.length n := by rw [← e]
  rw [hS]
  refine .arr bls _ b 0 n (fun _ _ => .bool true) (by omega) hn (fun i j hi hj => ⟨trivial, ?_⟩) (fun i j ct hi hj => ?_)
  · have hj : j = 0 := by simpa using hj
    subst hj
    rw [← e] at hi
    simpa using h i hi
  · rw [← e] at hi
    have h2 : (D.arr X).toArr.getD i [] = [D.bool true] := by rw [← hX]; simp [D.toArr, List.getD_eq_getElem?_getD, hi]
    rw [h2]
    match j, hj with
    | 0, hj => simp at hj; subst hj; exact .bool (.bool true)
    | j + 1, hj => simp at hj
/-- A list's cells, for an append. -/
theorem olds_of {w : World} {l : List (List D)} {p : Option Addr} {cap : Nat} (hL : DRel allS w (.arr keptC) (.arr l) (.slice p l.length cap)) :
    ∃ news : List Value, news.length = l.length * 7 ∧ (∀ u ∈ news, u.oneCell' = true) ∧
      (∀ W : World, (∀ b, b < w.heap.size → W.heap[b]? = w.heap[b]?) → 0 < l.length → ∃ ad, p = some ad ∧ ∀ j u, news[j]? = some u → W.cell? (ad.add j) = some u) ∧
      (∀ i j ct, i < l.length → keptC[j]? = some ct → ∃ u, news[i * 7 + j]? = some u ∧ DRel allS w ct ((l.getD i []).getD j default) u) := by
  by_cases h0 : 0 < l.length
  · obtain ⟨p', cap', e1, e2⟩ := arr_slice hL
    injection e1 with e3 e4 e5
    obtain ⟨b, o, rfl⟩ := e2 h0
    subst e3
    refine ⟨oldCells w b o (l.length * 7), by simp [oldCells], fun u hu => ?_, fun W hW _ => ⟨pl b o, rfl, fun j u hj => ?_⟩, fun i j ct hi hj => ?_⟩
    · obtain ⟨q, hq⟩ := List.getElem?_of_mem hu
      exact (old_cells hL h0 q u hq).2
    · have h1 := (old_cells hL h0 j u hj).1
      have e : (pl b o).add j = ⟨b, o + j, none⟩ := by cases j <;> simp [Addr.add, pl]
      rw [e]
      exact (World.cell?_of_block (a := ⟨b, o + j, none⟩) (hW b (cell_lt h1))).trans h1
    · obtain ⟨v, _, h2, h3⟩ := old_at hL h0 hi hj
      exact ⟨v, h2, h3⟩
  · have : l = [] := List.eq_nil_of_length_eq_zero (by omega)
    subst this
    exact ⟨[], rfl, fun u hu => by simp at hu, fun W _ h => absurd h h0, fun i j ct hi => absurd hi (by simp)⟩
theorem alloc_add (W : World) (cs : Array Value) (ty : TypeId) (j : Nat) (u : Value) (h : cs.toList[j]? = some u) : (W.alloc (.cells cs ty)).cell? ((⟨W.heap.size, 0, none⟩ : Addr).add j) = some u := by
  have e : (⟨W.heap.size, 0, none⟩ : Addr).add j = ⟨W.heap.size, j, none⟩ := by cases j <;> simp [Addr.add]
  rw [e, World.cell?_alloc_at _ _ _ j rfl, ← h]
  simp
/-- The object that comes behind. -/
def objX (S Y R G : List (List D)) : List D := [.int 0, .int (-1), .arr S, .arr Y, .arr R, .arr G, .arr (List.replicate S.length [.bool true])]
theorem good_more {l S Y R G : List (List D)} (hl : Good (.arr keptC) (.arr l)) (h11 : l.length ≤ 11) (hO : GObj S Y R G) (hS : S.length ≤ 30) : Good (.arr keptC) (.arr (l ++ [objX S Y R G])) := by
  cases hl with
  | arr _ _ h1 h2 h3 =>
    refine .arr _ _ (by rw [app_len]; omega) (fun e he => ?_) (fun e he j c hc => ?_)
    · rcases List.mem_append.1 he with he | he
      · exact h2 e he
      · simp at he; subst he; rfl
    · rcases List.mem_append.1 he with he | he
      · exact h3 e he j c hc
      · simp at he; subst he
        match j, hc with
        | 0, hc => simp at hc; subst hc; exact .int .i64 0 (by decide)
        | 1, hc => simp at hc; subst hc; exact .int .i64 (-1) (by decide)
        | 2, hc => simp at hc; subst hc; exact hO.s
        | 3, hc => simp at hc; subst hc; exact hO.y
        | 4, hc => simp at hc; subst hc; exact hO.l
        | 5, hc => simp at hc; subst hc; exact hO.g
        | 6, hc =>
          simp at hc; subst hc
          refine .arr _ _ (by simp; omega) (fun e he => ?_) (fun e he j c hc => ?_)
          · rw [List.eq_of_mem_replicate he]; rfl
          · rw [List.eq_of_mem_replicate he]
            match j, hc with
            | 0, hc => simp at hc; subst hc; exact .bool true
            | j + 1, hc => simp at hc
        | j + 7, hc => simp at hc
theorem kinds_good {l : List (List D)} (h : Good (.arr keptC) (.arr l)) : KindsOk l := fun i k hi hk => by
  have h1 := (good_kept h (getDm hi)).2.1.y
  obtain ⟨s, b, hd, w, v, z, e, hb, _⟩ := good_sym h1 (getDm hk)
  show 0 ≤ rI ((rA (l.getD i []) 3).getD k []) 1
  rw [e]; exact hb
/-- Great, at the kit's calls. -/
theorem great_calls (w : World) (hG : GlobW w) (p : Option Addr) (n cap : Nat) (L : List (List D)) (hn : Aside (L.length = n)) (hL : DRel allS w (.arr keptC) (.arr L) (.slice p n cap)) (b : Bool) (hb : grtL L = b) :
    Calls Tryd.prog 9 #[.slice p n cap] w fun e W' => e = .returned (.bool b) ∧ Go.RowKit.Below w.heap.size w W' := by
  subst hb
  refine (calls_of_con (con_grl [.arr keptC L] _ rfl) w _ rfl hG (fun i u hi => ?_)).mono fun e W' ⟨c, g', he, hv, hb, _⟩ => ?_
  · match i with
    | 0 => simp at hi; subst hi; exact ⟨_, rfl, .arr _ _ _ _ hL⟩
    | i + 1 => simp at hi
  · rw [val_inv hv] at he; exact ⟨he, hb⟩
theorem pre_two {L : List (List D)} (h : pKck [.arr keptC L] = true) : L.length ≤ 1048576 ∧ (64 < L.length ∨ L.all okArg = true) := by
  have h' : (decide (L.length ≤ 1048576) && (decide (64 < L.length) || L.all okArg)) = true := h
  simpa only [Bool.and_eq_true, Bool.or_eq_true, decide_eq_true_eq] using h'
/-- Bind, where it refuses. -/
theorem bind_no (w : World) (hG : GlobW w) (p : Option Addr) (n cap : Nat) (L : List (List D)) (hn : Aside (L.length = n)) (hL : DRel allS w (.arr keptC) (.arr L) (.slice p n cap)) (hp : pKck [.arr keptC L] = true) (r : Int) (hr : Aside (bindE L = r)) :
    Calls Tryd.prog 10 #[.slice p n cap] w fun e W' => ∃ v, e = .returned (.tuple #[v, .int .i64 r]) ∧ Go.RowKit.Below w.heap.size w W' := by
  obtain ⟨h1, h2⟩ := pre_two hp
  have hn' := hn.out
  have hr' := hr.out
  subst hn'; subst hr'
  exact (bind_calls w hG p cap L hL h1 h2).mono fun e W' ⟨v, he, _, hB⟩ => ⟨v, he, hB⟩
/-- Bind, where it answers. -/
theorem bind_yes (w : World) (hG : GlobW w) (p : Option Addr) (n cap : Nat) (L : List (List D)) (hn : Aside (L.length = n)) (hL : DRel allS w (.arr keptC) (.arr L) (.slice p n cap)) (hp : pKck [.arr keptC L] = true) (hr : Aside (bindE L = 0)) :
    Calls Tryd.prog 10 #[.slice p n cap] w fun e W' => ∃ pa ca, e = .returned (.tuple #[.slice pa n ca, .int .i64 0]) ∧ DRel allS W' (.arr [.arr bndC]) (.arr (bindD L)) (.slice pa n ca) ∧ Go.RowKit.Below w.heap.size w W' := by
  obtain ⟨h1, h2⟩ := pre_two hp
  have hn' := hn.out
  have hr' := hr.out
  subst hn'
  refine (bind_calls w hG p cap L hL h1 h2).mono fun e W' ⟨v, he, hv, hB⟩ => ?_
  rw [hr'] at he
  rcases hv with ⟨_, xs, q1, q2⟩ | ⟨q, _⟩
  · have hd : DRel allS W' (.arr [.arr bndC]) (.arr (bindD L)) v := rows_drel q1 q2 fun b hb o => trivial
    obtain ⟨pa, ca, e1, _⟩ := arr_slice hd
    have e2 : (D.arr (bindD L)).toArr.length = L.length := bindD_length L
    rw [e2] at e1
    subst e1
    exact ⟨pa, ca, he, hd, hB⟩
  · exact absurd hr' q
theorem bindE_nil {l : List (List D)} (h : bindE l = 0) : chkL l = true ∧ doubleB l = false := by
  unfold bindE at h
  split at h
  · cases h
  · rename_i h1
    split at h
    · cases h
    · rename_i h2
      exact ⟨by simpa using h1, by simpa using h2⟩
theorem below_dr {n : Nat} {w W : World} (h : Go.RowKit.Below n w W) : Go.RowKit.Below n w W.drew := h.trans ⟨rfl, rfl, rfl, Nat.le_refl _, fun _ _ => rfl⟩
theorem below_two {w W : World} (h : Go.RowKit.Below w.heap.size w W) (A B : Obj) : Go.RowKit.Below w.heap.size w ((W.alloc A).alloc B) := below_new (below_new h A) B
/-- Rows of bounds in memory. -/
theorem bnd_row {W : World} {p : Option Addr} {n c i rl : Nat} {L : List (List D)} (h : DRel allS W (.arr [.arr bndC]) (.arr (bindD L)) (.slice p n c)) (hn : Aside (L.length = n)) (hi : i < n) (hrl : Aside ((rA (L.getD i []) 3).length = rl)) :
    ∃ b o q cq, p = some (pl b o) ∧ W.cell? ⟨b, o + i, none⟩ = some (.slice q rl cq) ∧ DRel allS W (.arr bndC) (.arr (rowD L i)) (.slice q rl cq) := by
  have hn' := hn.out
  have hrl' := hrl.out
  subst hn'
  obtain ⟨p', c', e1, e2⟩ := arr_slice h
  injection e1 with e3 e4 e5
  obtain ⟨b, o, e6⟩ := e2 (by show 0 < (bindD L).length; rw [bindD_length]; omega)
  subst e6; subst e3
  obtain ⟨_, _, hc⟩ := arr_cells h (by omega)
  obtain ⟨v, h1, h2⟩ := hc i 0 (.arr bndC) (by rw [bindD_length]; exact hi) rfl
  have e7 : ((bindD L).getD i []).getD 0 default = .arr (rowD L i) := by simp [bindD, List.getD_eq_getElem?_getD, hi]
  rw [e7] at h2
  obtain ⟨q, cq, e8, _⟩ := arr_slice h2
  have e9 : (D.arr (rowD L i)).toArr.length = rl := (rowD_length L i).trans hrl'
  rw [e9] at e8
  subst e8
  exact ⟨b, o, q, cq, rfl, by simpa [pl] using h1, h2⟩
theorem bnd_cell {W : World} {q : Option Addr} {n c i k : Nat} {L : List (List D)} (h : DRel allS W (.arr bndC) (.arr (rowD L i)) (.slice q n c)) (hn : Aside ((rA (L.getD i []) 3).length = n)) (hk : k < n) :
    ∃ b o, q = some (pl b o) ∧ W.cell? ⟨b, o + k * 2, none⟩ = some (.int .i64 (bndOf L i k).1) ∧ W.cell? ⟨b, o + k * 2 + 1, none⟩ = some (.int .i64 (bndOf L i k).2) := by
  have hn' := hn.out
  subst hn'
  obtain ⟨p', c', e1, e2⟩ := arr_slice h
  injection e1 with e3 e4 e5
  obtain ⟨b, o, e6⟩ := e2 (by show 0 < (rowD L i).length; rw [rowD_length]; omega)
  subst e6; subst e3
  obtain ⟨_, _, hc⟩ := arr_cells h (by omega)
  have hk' : k < (rowD L i).length := by rw [rowD_length]; exact hk
  obtain ⟨v, h1, h2⟩ := hc k 0 (.int .i64) hk' rfl
  obtain ⟨v', h1', h2'⟩ := hc k 1 (.int .i64) hk' rfl
  have e7 : (rowD L i).getD k [] = [.int (bndOf L i k).1, .int (bndOf L i k).2] := by rw [rowD, getD_range hk]
  rw [e7] at h2 h2'
  cases h2; cases h2'
  exact ⟨b, o, rfl, h1, h1'⟩
end Go.Proofs.YtacfehneeanlgaaDoor.Ev
