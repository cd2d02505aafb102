/- The laws' own objects of one symbol each: walked. -/
import Derived.Test.YtacfehneeanlgaaDoorRtR
namespace Go.Proofs.YtacfehneeanlgaaDoor.Ev
open Go Go.RowKit Go.Shelf Go.Maps
set_option linter.unusedVariables false
set_option linter.unusedSimpArgs false
def fS : ByteArray := ⟨#[102]⟩
def OneSym (W : World) (b o : Nat) (s : ByteArray) (bd : Int) (hd : Bool) (wh va sz : Int) : Prop :=
  W.cell? ⟨b, o, none⟩ = some (.string s) ∧ W.cell? ⟨b, o + 1, none⟩ = some (.int .u8 bd) ∧ W.cell? ⟨b, o + 2, none⟩ = some (.bool hd) ∧ W.cell? ⟨b, o + 3, none⟩ = some (.int .i64 wh) ∧ W.cell? ⟨b, o + 4, none⟩ = some (.int .i64 va) ∧ W.cell? ⟨b, o + 5, none⟩ = some (.int .i64 sz)
theorem OneSym.keep {W W' : World} {b o : Nat} {s : ByteArray} {bd : Int} {hd : Bool} {wh va sz : Int} (h : OneSym W b o s bd hd wh va sz) (hb : W'.heap[b]? = W.heap[b]?) : OneSym W' b o s bd hd wh va sz :=
  ⟨(World.cell?_of_block (a := ⟨b, o, none⟩) hb).trans h.1, (World.cell?_of_block (a := ⟨b, o + 1, none⟩) hb).trans h.2.1, (World.cell?_of_block (a := ⟨b, o + 2, none⟩) hb).trans h.2.2.1, (World.cell?_of_block (a := ⟨b, o + 3, none⟩) hb).trans h.2.2.2.1, (World.cell?_of_block (a := ⟨b, o + 4, none⟩) hb).trans h.2.2.2.2.1, (World.cell?_of_block (a := ⟨b, o + 5, none⟩) hb).trans h.2.2.2.2.2⟩
theorem grown_set (W : World) (b q : Nat) (v : Value) : W.grownBy (W.setCell ⟨b, q, none⟩ v) (some b) :=
  ⟨rfl, rfl, rfl, by simp, fun i hi hne => by
    simp only [World.setCell, Array.getElem?_modify]
    rw [if_neg (fun e => hne (by rw [e]))]⟩
/-- Symbols of a row, whatever they are called. -/
def SymsAre (W : World) (b n : Nat) (bd wh va sz : Nat → Int) (hd : Nat → Bool) : Prop := ∀ j, j < n → (∃ s, OneSym W b (j * 6) s (bd j) (hd j) (wh j) (va j) (sz j)) ∧ W.frozen? ⟨b, j * 6, none⟩ = false
theorem SymsAre.set {W : World} {b n : Nat} {bd wh va sz : Nat → Int} {hd : Nat → Bool} (h : SymsAre W b n bd wh va sz hd) (k : Nat) (s : ByteArray) : SymsAre (W.setCell ⟨b, k * 6, none⟩ (.string s)) b n bd wh va sz hd := fun j hj => by
  obtain ⟨⟨s0, q0, q1, q2, q3, q4, q5⟩, qf⟩ := h j hj
  have co : ∀ i v, 0 < i → i < 6 → W.cell? ⟨b, j * 6 + i, none⟩ = some v → (W.setCell ⟨b, k * 6, none⟩ (.string s)).cell? ⟨b, j * 6 + i, none⟩ = some v := fun i v h1 h2 h3 => (World.cell?_setCell_other _ _ _ _ (by intro e; injection e with _ e; omega)).trans h3
  refine ⟨?_, by rw [World.frozen?_setCell]; exact qf⟩
  by_cases e : j = k
  · subst e
    exact ⟨s, World.cell?_setCell_same _ _ _ q0, co 1 _ (by omega) (by omega) q1, co 2 _ (by omega) (by omega) q2, co 3 _ (by omega) (by omega) q3, co 4 _ (by omega) (by omega) q4, co 5 _ (by omega) (by omega) q5⟩
  · exact ⟨s0, (World.cell?_setCell_other _ _ _ _ (by intro e2; injection e2 with _ e2; omega)).trans q0, co 1 _ (by omega) (by omega) q1, co 2 _ (by omega) (by omega) q2, co 3 _ (by omega) (by omega) q3, co 4 _ (by omega) (by omega) q4, co 5 _ (by omega) (by omega) q5⟩
theorem SymsAre.keep {W W' : World} {b n : Nat} {bd wh va sz : Nat → Int} {hd : Nat → Bool} (h : SymsAre W b n bd wh va sz hd) (hb : W'.heap[b]? = W.heap[b]?) : SymsAre W' b n bd wh va sz hd := fun j hj => by
  obtain ⟨⟨s0, q⟩, qf⟩ := h j hj
  exact ⟨⟨s0, q.keep hb⟩, by simp only [World.frozen?, hb]; exact qf⟩
theorem onesym_new (W : World) (s : ByteArray) (bd : Int) (hd : Bool) (wh va sz : Int) (ty : TypeId) : OneSym (W.alloc (.cells #[.string s, .int .u8 bd, .bool hd, .int .i64 wh, .int .i64 va, .int .i64 sz] ty)) W.heap.size 0 s bd hd wh va sz :=
  ⟨World.cell?_alloc_at _ _ _ 0 rfl, World.cell?_alloc_at _ _ _ 1 rfl, World.cell?_alloc_at _ _ _ 2 rfl, World.cell?_alloc_at _ _ _ 3 rfl, World.cell?_alloc_at _ _ _ 4 rfl, World.cell?_alloc_at _ _ _ 5 rfl⟩
def kCells (i bi : Nat) : List Value := [.int .i64 i, .int .i64 (-1), .slice none 0 0, .slice (some ⟨bi, 0, none⟩) 1 1, .slice none 0 0, .slice none 0 0, .slice none 0 0]
def KAre (base : Nat) (W : World) (bd wh va sz : Nat → Int) (hd : Nat → Bool) (xs : List Value) (k : Nat) : Prop :=
  ∀ i, i < k → ∃ bi, base ≤ bi ∧ (∃ c fz, W.heap[bi]? = some (.cells c 40 fz)) ∧ OneSym W bi 0 fS (bd i) (hd i) (wh i) (va i) (sz i) ∧ ∀ j u, (kCells i bi)[j]? = some u → xs[i * 7 + j]? = some u
theorem KAre.keep {base : Nat} {W W' : World} {bd wh va sz : Nat → Int} {hd : Nat → Bool} {xs : List Value} {k : Nat} (h : KAre base W bd wh va sz hd xs k) (hb : ∀ b, base ≤ b → (∃ c fz, W.heap[b]? = some (.cells c 40 fz)) → W'.heap[b]? = W.heap[b]?) : KAre base W' bd wh va sz hd xs k := fun i hi => by
  obtain ⟨bi, h1, h2, h3, h4⟩ := h i hi
  have := hb bi h1 h2
  exact ⟨bi, h1, by rw [this]; exact h2, h3.keep this, h4⟩
theorem KAre.push {base : Nat} {W : World} {bd wh va sz : Nat → Int} {hd : Nat → Bool} {xs : List Value} {k : Nat} (h : KAre base W bd wh va sz hd xs k) (hl : xs.length = k * 7) (bi : Nat) (h1 : base ≤ bi) (h2 : ∃ c fz, W.heap[bi]? = some (.cells c 40 fz)) (h3 : OneSym W bi 0 fS (bd k) (hd k) (wh k) (va k) (sz k)) : KAre base W bd wh va sz hd (xs ++ kCells k bi) (k + 1) := fun i hi => by
  by_cases e : i < k
  · obtain ⟨b2, q1, q2, q3, q4⟩ := h i e
    refine ⟨b2, q1, q2, q3, fun j u hj => ?_⟩
    have := q4 j u hj
    rw [List.getElem?_append_left (List.getElem?_eq_some_iff.1 this).1]
    exact this
  · obtain rfl : i = k := by omega
    refine ⟨bi, h1, h2, h3, fun j u hj => ?_⟩
    rw [List.getElem?_append_right (by omega)]
    have e : i * 7 + j - xs.length = j := by omega
    rw [e]
    exact hj
def kRow (bd wh va sz : Nat → Int) (hd : Nat → Bool) (i : Nat) : List D := [.int i, .int (-1), .arr [], .arr [[.str fS, .int (bd i), .bool (hd i), .int (wh i), .int (va i), .int (sz i)]], .arr [], .arr [], .arr []]
def kRows (n : Nat) (bd wh va sz : Nat → Int) (hd : Nat → Bool) : List (List D) := (List.range n).map (kRow bd wh va sz hd)
theorem own_far {W : World} {base : Nat} {e : TypeId} {sz : Nat} {v : Value} {n : Nat} {xs : List Value} (h : W.ownsRow base e sz v n xs) {b : Nat} (hb : b < base) : some b ≠ v.ownBlock := by
  intro e
  rcases h.2 with ⟨rfl, _⟩ | ⟨g, cap, cur, rfl, h2, _⟩
  · simp [Value.ownBlock] at e
  · simp [Value.ownBlock] at e; omega
theorem own_ge {W : World} {base : Nat} {e : TypeId} {sz : Nat} {v : Value} {n : Nat} {xs : List Value} (h : W.ownsRow base e sz v n xs) {j : Nat} (hj : v.ownBlock = some j) : base ≤ j := by
  rcases h.2 with ⟨rfl, _⟩ | ⟨g, cap, cur, rfl, h2, _⟩
  · simp [Value.ownBlock] at hj
  · simp [Value.ownBlock] at hj; omega
theorem own_past {W : World} {base : Nat} {e : TypeId} {sz : Nat} {v : Value} {n : Nat} {xs : List Value} (h : W.ownsRow base e sz v n xs) {b : Nat} (hb : W.heap.size ≤ b) : some b ≠ v.ownBlock := by
  intro e
  rcases h.2 with ⟨rfl, _⟩ | ⟨g, cap, cur, rfl, h2, h3, _⟩
  · simp [Value.ownBlock] at e
  · simp [Value.ownBlock] at e
    have := (Array.getElem?_eq_some_iff.1 h3).1
    omega
theorem own_kind {W : World} {base : Nat} {e e' : TypeId} {sz : Nat} {v : Value} {n : Nat} {xs : List Value} (h : W.ownsRow base e sz v n xs) {b : Nat} {c : Array Value} {fz : Nat × Nat} (hb : W.heap[b]? = some (.cells c e' fz)) (hne : e' ≠ e) : some b ≠ v.ownBlock := by
  intro e2
  rcases h.2 with ⟨rfl, _⟩ | ⟨g, cap, cur, rfl, h2, h3, _⟩
  · simp [Value.ownBlock] at e2
  · simp [Value.ownBlock] at e2
    subst e2
    rw [hb] at h3
    injection h3 with h3
    injection h3 with _ h3 _
    exact hne h3
theorem heap_alloc_new' (W : World) (A : Obj) {b : Nat} (hb : b = W.heap.size) : (W.alloc A).heap[b]? = some A := by
  subst hb; exact heap_alloc_new _ _
theorem kRows_length (n : Nat) (bd wh va sz : Nat → Int) (hd : Nat → Bool) : (kRows n bd wh va sz hd).length = n := by simp [kRows]
theorem one_drel {W : World} {b : Nat} {s : ByteArray} {bd : Int} {hd : Bool} {wh va sz : Int} (h : OneSym W b 0 s bd hd wh va sz) : DRel allS W (.arr symC) (.arr [[.str s, .int bd, .bool hd, .int wh, .int va, .int sz]]) (.slice (some ⟨b, 0, none⟩) 1 1) := by
  refine .arr symC (.arr [[.str s, .int bd, .bool hd, .int wh, .int va, .int sz]]) b 0 1 (fun _ j => match j with | 0 => .string s | 1 => .int .u8 bd | 2 => .bool hd | 3 => .int .i64 wh | 4 => .int .i64 va | _ => .int .i64 sz) (by simp [D.toArr]) (by unfold maxLen; omega) (fun i j hi hj => ⟨trivial, ?_⟩) (fun i j ct hi hj => ?_)
  · simp [D.toArr] at hi
    subst hi
    obtain ⟨h0, h1, h2, h3, h4, h5⟩ := h
    match j, hj with
    | 0, _ => simpa using h0
    | 1, _ => simpa using h1
    | 2, _ => simpa using h2
    | 3, _ => simpa using h3
    | 4, _ => simpa using h4
    | 5, _ => simpa using h5
    | j + 6, hj => simp at hj; omega
  · simp [D.toArr] at hi
    subst hi
    match j, hj with
    | 0, hj => simp at hj; subst hj; exact .str (.str s)
    | 1, hj => simp at hj; subst hj; exact .int .u8 (.int bd)
    | 2, hj => simp at hj; subst hj; exact .bool (.bool hd)
    | 3, hj => simp at hj; subst hj; exact .int .i64 (.int wh)
    | 4, hj => simp at hj; subst hj; exact .int .i64 (.int va)
    | 5, hj => simp at hj; subst hj; exact .int .i64 (.int sz)
    | j + 6, hj => simp at hj
theorem kept_drel {base n : Nat} {W : World} {v : Value} {xs : List Value} {bd wh va sz : Nat → Int} {hd : Nat → Bool} (hown : W.ownsRow base 38 7 v n xs) (hK : KAre base W bd wh va sz hd xs n) :
    ∃ p cap, v = .slice p (kRows n bd wh va sz hd).length cap ∧ DRel allS W (.arr keptC) (.arr (kRows n bd wh va sz hd)) v := by
  have hl := kRows_length n bd wh va sz hd
  rcases hown.2 with ⟨rfl, h0⟩ | ⟨g, cap, cur, rfl, hb, hg, h1, h2, h3, h4⟩
  · subst h0
    exact ⟨none, 0, rfl, .nil _ _ _ rfl⟩
  · refine ⟨some ⟨g, 0, none⟩, cap, by rw [hl], ?_⟩
    have e : n = (D.arr (kRows n bd wh va sz hd)).toArr.length := hl.symm
    have hat : ∀ i, i < n → (D.arr (kRows n bd wh va sz hd)).toArr.getD i [] = kRow bd wh va sz hd i := fun i hi => by
      show (kRows n bd wh va sz hd).getD i [] = _
      rw [kRows]
      simp [List.getD_eq_getElem?_getD, hi]
    generalize hX : kRows n bd wh va sz hd = X at e hat
    have hS : Value.slice (some ⟨g, 0, none⟩) n cap = .slice (some (pl g 0)) (D.arr X).toArr.length cap := by rw [← e]
    rw [hS]
    refine .arr keptC _ g 0 cap (fun i j => xs.getD (i * 7 + j) (.slice none 0 0)) (by omega) h2 (fun i j hi hj => ⟨trivial, ?_⟩) (fun i j ct hi hj => ?_)
    · have hj7 : j < 7 := by simpa using hj
      rw [← e] at hi
      have := hown.cellAt (i * 7 + j) (by omega)
      have hx : i * 7 + j < xs.length := by have := hown.1; omega
      simp only [pl, List.length_cons, List.length_nil, Nat.zero_add, Nat.reduceAdd]
      rw [this, List.getD_eq_getElem?_getD, List.getElem?_eq_getElem hx]; rfl
    · rw [← e] at hi
      rw [hat i hi]
      obtain ⟨bi, q1, q2, q3, q4⟩ := hK i hi
      have hv : ∀ u, (kCells i bi)[j]? = some u → xs.getD (i * 7 + j) (.slice none 0 0) = u := fun u h => by rw [List.getD_eq_getElem?_getD, q4 j u h]; rfl
      match j, hj with
      | 0, hj => simp at hj; subst hj; rw [hv _ rfl]; exact .int .i64 (.int i)
      | 1, hj => simp at hj; subst hj; rw [hv _ rfl]; exact .int .i64 (.int (-1))
      | 2, hj => simp at hj; subst hj; rw [hv _ rfl]; exact .nil _ _ _ rfl
      | 3, hj => simp at hj; subst hj; rw [hv _ rfl]; exact one_drel q3
      | 4, hj => simp at hj; subst hj; rw [hv _ rfl]; exact .nil _ _ _ rfl
      | 5, hj => simp at hj; subst hj; rw [hv _ rfl]; exact .nil _ _ _ rfl
      | 6, hj => simp at hj; subst hj; rw [hv _ rfl]; exact .nil _ _ _ rfl
      | j + 7, hj => simp at hj
set_option maxRecDepth 100000 in
set_option maxHeartbeats 4000000 in
theorem kept_calls (w : World) (b n : Nat) (hn : n ≤ 64) (bd wh va sz : Nat → Int) (hd : Nat → Bool) (hb : b < w.heap.size)
    (hc : SymsAre w b n bd wh va sz hd) :
    Calls Tryd.prog 13 #[.slice (some ⟨b, 0, none⟩) n n] w fun e W' => ∃ p cap, e = .returned (.slice p (kRows n bd wh va sz hd).length cap) ∧ DRel allS W' (.arr keptC) (.arr (kRows n bd wh va sz hd)) (.slice p (kRows n bd wh va sz hd).length cap) ∧ w.grownBy W' (some b) := by
  go_enter Tryd.func13, Tryd.ntmps13
  go_wp2
  go_loopw [3, 4] (fun v i wr => ∃ (k : Nat) (xs : List Value), k ≤ n ∧ i = .int .i64 k ∧ wr.ownsRow w.heap.size 38 7 v k xs ∧ KAre w.heap.size wr bd wh va sz hd xs k ∧
      SymsAre wr b n bd wh va sz hd ∧ w.grownBy wr (some b))
    (fun _ i _ => n - (intOf i).toNat)
  case atStart => exact ⟨0, [], Nat.zero_le _, rfl, World.ownsRow_nil _ _ _ _, fun i hi => absurd hi (by omega), hc, World.grownBy.refl _ _⟩
  case round =>
    obtain ⟨k, xs, hk, rfl, hown, hK, hs, hg⟩ := hrel
    by_cases hlt : k < n
    · obtain ⟨⟨s, q0, q1, q2, q3, q4, q5⟩, qf⟩ := hs k hlt
      have c0 : (wr.setCell ⟨b, k * 6, none⟩ (.string fS)).cell? ⟨b, k * 6, none⟩ = some (.string fS) := World.cell?_setCell_same _ _ _ q0
      have co : ∀ j, j ≠ 0 → (wr.setCell ⟨b, k * 6, none⟩ (.string fS)).cell? ⟨b, k * 6 + j, none⟩ = wr.cell? ⟨b, k * 6 + j, none⟩ := fun j hj => World.cell?_setCell_other _ _ _ _ (by intro e; injection e with _ e; omega)
      have c1 := (co 1 (by omega)).trans q1
      have c2 := (co 2 (by omega)).trans q2
      have c3 := (co 3 (by omega)).trans q3
      have c4 := (co 4 (by omega)).trans q4
      have c5 := (co 5 (by omega)).trans q5
      simp only [fS] at c0 c1 c2 c3 c4 c5
      obtain ⟨ib, hib, hy0, hy1, hy2⟩ := info_parts (show (Tryd.prog.info? 38).map (fun i => (i.zero, i.size, i.bytes)) = some (some (.agg #[.int .i64 0, .int .i64 0, .slice none 0 0, .slice none 0 0, .slice none 0 0, .slice none 0 0, .slice none 0 0]), 7, 136) by kernel_rfl)
      have hbw : b < wr.heap.size := Nat.lt_of_lt_of_le hb hg.size
      have hnb : some b ≠ u3.ownBlock := own_far hown hb
      have hgS : ∀ C1 C2 : Obj, wr.grownBy (((wr.setCell ⟨b, k * 6, none⟩ (.string ⟨#[102]⟩)).alloc C1).alloc C2) (some b) := fun C1 C2 => ((grown_set wr b (k * 6) _).trans (World.grownBy_alloc _ _ _)).trans (World.grownBy_alloc _ _ _)
      have hownS : ∀ C1 C2 : Obj, (((wr.setCell ⟨b, k * 6, none⟩ (.string ⟨#[102]⟩)).alloc C1).alloc C2).ownsRow w.heap.size 38 7 u3 k xs := fun C1 C2 => hown.kept (hgS C1 C2) (.inr fun e => hnb e.symm)
      have hsw := hg.size
      clear co
      go_wp2_with (first
        | (at_builtin; refine wpList_append_own _ rfl _ _ 22 rfl w.heap.size 38 ib _ 7 136 Tryd.underlying22 hib hy0 hy1 hy2 rfl (by omega) u3 k xs rfl (hownS _ _) ⟨wr.heap.size + 1, 0, none⟩ 1 1 (kCells k wr.heap.size) rfl rfl ?_ ?_ (by unfold maxLen; omega) (by omega) ?_ ?_)
        | go_in)
      · intro j u hj
        have e2 : wr.heap.size + 1 = ((wr.setCell ⟨b, k * 6, none⟩ (.string ⟨#[102]⟩)).alloc (.cells #[.string ⟨#[102]⟩, .int .u8 (bd k), .bool (hd k), .int .i64 (wh k), .int .i64 (va k), .int .i64 (sz k)] 40)).heap.size := by simp
        have e3 : (⟨wr.heap.size + 1, 0, none⟩ : Addr).add j = ⟨wr.heap.size + 1, j, none⟩ := by cases j <;> simp [Addr.add]
        rw [e3, e2, World.cell?_alloc_at _ _ _ j rfl]
        rw [← hj]
        simp [kCells]
      · intro u hu
        simp only [kCells, List.mem_cons, List.not_mem_nil, or_false] at hu
        rcases hu with rfl | rfl | rfl | rfl | rfl | rfl | rfl <;> rfl
      · simp; omega
      · intro v' w' hown' hg' hnn
        have hgo : ∀ j, u3.ownBlock = some j → w.heap.size ≤ j := fun j hj => own_ge hown hj
        have hgw := (hg.andThen (hgS _ _) (fun j hj => .inr hj)).andThen hg' (fun j hj => .inl (hgo j hj))
        have hne1 : some wr.heap.size ≠ u3.ownBlock := own_past hown (Nat.le_refl _)
        have eb : w'.heap[wr.heap.size]? = ((wr.setCell ⟨b, k * 6, none⟩ (.string ⟨#[102]⟩)).alloc (.cells #[.string ⟨#[102]⟩, .int .u8 (bd k), .bool (hd k), .int .i64 (wh k), .int .i64 (va k), .int .i64 (sz k)] 40)).heap[wr.heap.size]? := (hg'.block _ (by simp; omega) hne1).trans (heap_push_old _ _ (by simp))
        have eo : ∀ i, i < wr.heap.size → some i ≠ u3.ownBlock → w'.heap[i]? = (wr.setCell ⟨b, k * 6, none⟩ (.string ⟨#[102]⟩)).heap[i]? := fun i h1 h2 => (hg'.block _ (by simp; omega) h2).trans ((heap_push_old _ _ (by simp; omega)).trans (heap_push_old _ _ (by simpa using h1)))
        have hnew := onesym_new (wr.setCell ⟨b, k * 6, none⟩ (.string ⟨#[102]⟩)) ⟨#[102]⟩ (bd k) (hd k) (wh k) (va k) (sz k) 40
        rw [show (wr.setCell ⟨b, k * 6, none⟩ (.string ⟨#[102]⟩)).heap.size = wr.heap.size by simp] at hnew
        have hK' : KAre w.heap.size w' bd wh va sz hd (xs ++ kCells k wr.heap.size) (k + 1) := by
          refine KAre.push (hK.keep fun bb h1 h2 => ?_) hown.1 wr.heap.size hsw ?_ (hnew.keep eb)
          · obtain ⟨c, fz, h2⟩ := h2
            have hbb : bb < wr.heap.size := (Array.getElem?_eq_some_iff.1 h2).1
            rw [eo bb hbb (own_kind hown h2 (by decide))]
            exact (grown_set wr b (k * 6) _).block bb hbb (fun e => by injection e with e; omega)
          · rw [eb]
            exact ⟨_, _, heap_alloc_new' _ _ (by simp)⟩
        have hs' : SymsAre w' b n bd wh va sz hd := (hs.set k _).keep (eo b hbw hnb)
        go_wp2
        go_roundw
        case rel => exact ⟨k + 1, xs ++ kCells k wr.heap.size, by omega, by simp, hown', hK', hs', hgw⟩
        case measure => simp [intOf]; omega
    · obtain rfl : k = n := by omega
      go_wp2
      go_ret
      obtain ⟨p, cap, e1, e2⟩ := kept_drel hown hK
      subst e1
      exact ⟨p, cap, rfl, e2, hg⟩
end Go.Proofs.YtacfehneeanlgaaDoor.Ev
