/- What a law is handed; objects that are not great. The law's example: a strong definition counts. -/
import Derived.Test.YtacfehneeanlgaaDoorRxD
import Derived.Test.YtacfehneeanlgaaDoorArgS
import Derived.Test.YtacfehneeanlgaaDoorRxC
import Derived.Test.YtacfehneeanlgaaDoorRtK
namespace Go.Proofs.YtacfehneeanlgaaDoor.Ev
open Go
set_option linter.unusedVariables false
set_option linter.unusedSimpArgs false
/-! ### Good rows -/
theorem u8_wf {n : Int} (h : (Lit.int .u8 n).wf = true) : 0 ≤ n ∧ n < 256 := by
  have h1 : IntKind.u8.min = 0 := rfl
  have h2 : IntKind.u8.max = 255 := rfl
  simp only [Lit.wf, Bool.and_eq_true, decide_eq_true_eq] at h
  omega
theorem good_int {k : IntKind} {d : D} (h : Good (.int k) d) : ∃ n, d = .int n ∧ (Lit.int k n).wf = true := by cases h; exact ⟨_, rfl, by assumption⟩
theorem good_bool {d : D} (h : Good .bool d) : ∃ b, d = .bool b := by cases h; exact ⟨_, rfl⟩
theorem good_str {d : D} (h : Good .str d) : ∃ s, d = .str s := by cases h; exact ⟨_, rfl⟩
theorem good_arr {cs : List CT} {d : D} (h : Good (.arr cs) d) : ∃ xs, d = .arr xs ∧ Good (.arr cs) (.arr xs) := by
  cases h with
  | arr _ xs hl hn h => exact ⟨xs, rfl, .arr _ xs hl hn h⟩
theorem good_row {cs : List CT} {xs : List (List D)} (h : Good (.arr cs) (.arr xs)) {e : List D} (he : e ∈ xs) : e.length = cs.length ∧ ∀ (j : Nat) (c : CT), cs[j]? = some c → Good c (e.getD j default) := by
  cases h with
  | arr _ _ hl hn h => exact ⟨hn e he, fun j c hc => h e he j c hc⟩
theorem good_take {cs : List CT} {xs : List (List D)} (h : Good (.arr cs) (.arr xs)) (k : Nat) : Good (.arr cs) (.arr (xs.take k)) := by
  cases h with
  | arr _ _ hl hn h => exact .arr _ _ (by rw [List.length_take]; omega) (fun e he => hn e (List.mem_of_mem_take he)) (fun e he => h e (List.mem_of_mem_take he))
theorem row1 {e : List D} (h : e.length = 1) : e = [e.getD 0 default] := by
  match e, h with
  | [a], _ => rfl
theorem row2 {e : List D} (h : e.length = 2) : e = [e.getD 0 default, e.getD 1 default] := by
  match e, h with
  | [a, b], _ => rfl
theorem row4 {e : List D} (h : e.length = 4) : e = [e.getD 0 default, e.getD 1 default, e.getD 2 default, e.getD 3 default] := by
  match e, h with
  | [a, b, c, d], _ => rfl
theorem row5 {e : List D} (h : e.length = 5) : e = [e.getD 0 default, e.getD 1 default, e.getD 2 default, e.getD 3 default, e.getD 4 default] := by
  match e, h with
  | [a, b, c, d, f], _ => rfl
theorem row6 {e : List D} (h : e.length = 6) : e = [e.getD 0 default, e.getD 1 default, e.getD 2 default, e.getD 3 default, e.getD 4 default, e.getD 5 default] := by
  match e, h with
  | [a, b, c, d, f, g], _ => rfl
theorem good_sec {S : List (List D)} (h : Good (.arr secC) (.arr S)) {e : List D} (he : e ∈ S) : ∃ s a x z, e = [.str s, .int a, .arr x, .int z] ∧ Good (.arr u8s) (.arr x) := by
  obtain ⟨h1, h2⟩ := good_row h he
  obtain ⟨s, e0⟩ := good_str (h2 0 _ rfl)
  obtain ⟨a, e1, _⟩ := good_int (h2 1 _ rfl)
  obtain ⟨x, e2, hx⟩ := good_arr (h2 2 _ rfl)
  obtain ⟨z, e3, _⟩ := good_int (h2 3 _ rfl)
  exact ⟨s, a, x, z, by rw [row4 h1, e0, e1, e2, e3], hx⟩
theorem good_sym {Y : List (List D)} (h : Good (.arr symC) (.arr Y)) {e : List D} (he : e ∈ Y) : ∃ s b hd w v z, e = [.str s, .int b, .bool hd, .int w, .int v, .int z] ∧ 0 ≤ b ∧ b ≤ 255 := by
  obtain ⟨h1, h2⟩ := good_row h he
  obtain ⟨s, e0⟩ := good_str (h2 0 _ rfl)
  obtain ⟨b, e1, hb⟩ := good_int (h2 1 _ rfl)
  obtain ⟨hd, e2⟩ := good_bool (h2 2 _ rfl)
  obtain ⟨w, e3, _⟩ := good_int (h2 3 _ rfl)
  obtain ⟨v, e4, _⟩ := good_int (h2 4 _ rfl)
  obtain ⟨z, e5, _⟩ := good_int (h2 5 _ rfl)
  have := u8_wf hb
  exact ⟨s, b, hd, w, v, z, by rw [row6 h1, e0, e1, e2, e3, e4, e5], by omega, by omega⟩
theorem good_rel {L : List (List D)} (h : Good (.arr relC) (.arr L)) {e : List D} (he : e ∈ L) : ∃ a b k c d, e = [.int a, .int b, .int k, .int c, .int d] ∧ 0 ≤ k ∧ k ≤ 255 := by
  obtain ⟨h1, h2⟩ := good_row h he
  obtain ⟨a, e0, _⟩ := good_int (h2 0 _ rfl)
  obtain ⟨b, e1, _⟩ := good_int (h2 1 _ rfl)
  obtain ⟨k, e2, hk⟩ := good_int (h2 2 _ rfl)
  obtain ⟨c, e3, _⟩ := good_int (h2 3 _ rfl)
  obtain ⟨d, e4, _⟩ := good_int (h2 4 _ rfl)
  have := u8_wf hk
  exact ⟨a, b, k, c, d, by rw [row5 h1, e0, e1, e2, e3, e4], by omega, by omega⟩
theorem good_grp {G : List (List D)} (h : Good (.arr grpC) (.arr G)) {e : List D} (he : e ∈ G) : ∃ s x, e = [.str s, .arr x] ∧ Good (.arr i64s) (.arr x) := by
  obtain ⟨h1, h2⟩ := good_row h he
  obtain ⟨s, e0⟩ := good_str (h2 0 _ rfl)
  obtain ⟨x, e1, hx⟩ := good_arr (h2 1 _ rfl)
  exact ⟨s, x, by rw [row2 h1, e0, e1], hx⟩
theorem good_i64 {x : List (List D)} (h : Good (.arr i64s) (.arr x)) {e : List D} (he : e ∈ x) : ∃ n, e = [.int n] := by
  obtain ⟨h1, h2⟩ := good_row h he
  obtain ⟨n, e0, _⟩ := good_int (h2 0 _ rfl)
  exact ⟨n, by rw [row1 h1, e0]⟩
theorem good_u8 {x : List (List D)} (h : Good (.arr u8s) (.arr x)) {e : List D} (he : e ∈ x) : ∃ n, e = [.int n] ∧ 0 ≤ n ∧ n < 256 := by
  obtain ⟨h1, h2⟩ := good_row h he
  obtain ⟨n, e0, hn⟩ := good_int (h2 0 _ rfl)
  have := u8_wf hn
  exact ⟨n, by rw [row1 h1, e0], by omega, by omega⟩
/-- An object that a law is handed. -/
structure GObj (S Y L G : List (List D)) : Prop where
  s : Good (.arr secC) (.arr S)
  y : Good (.arr symC) (.arr Y)
  l : Good (.arr relC) (.arr L)
  g : Good (.arr grpC) (.arr G)
/-! ### Objects that are not great -/
theorem grS_ge : ∀ (t : List (List D)) (n : Int), n ≤ grS t n
  | [], n => Int.le_refl _
  | e :: t, n => by
    have m1 := min5_in ((rA e 2).length : Nat) (by omega)
    have m2 := min5_in ((rS e 0).size : Nat) (by omega)
    have := grS_ge t (n + min5 ((rA e 2).length : Nat) + min5 ((rS e 0).size : Nat))
    rw [grS]; omega
theorem grS_mem : ∀ (t : List (List D)) (n : Int), ∀ e ∈ t, n + min5 ((rA e 2).length : Nat) ≤ grS t n
  | x :: t, n, e, he => by
    have m1 := min5_in ((rA x 2).length : Nat) (by omega)
    have m2 := min5_in ((rS x 0).size : Nat) (by omega)
    rw [grS]
    rcases List.mem_cons.1 he with rfl | he
    · have := grS_ge t (n + min5 ((rA e 2).length : Nat) + min5 ((rS e 0).size : Nat))
      omega
    · have := grS_mem t (n + min5 ((rA x 2).length : Nat) + min5 ((rS x 0).size : Nat)) e he
      omega
theorem grY_ge : ∀ (t : List (List D)) (n : Int), n ≤ grY t n
  | [], n => Int.le_refl _
  | e :: t, n => by
    have m2 := min5_in ((rS e 0).size : Nat) (by omega)
    have := grY_ge t (n + min5 ((rS e 0).size : Nat))
    rw [grY]; omega
theorem grG_ge : ∀ (t : List (List D)) (n : Int), n ≤ grG t n
  | [], n => Int.le_refl _
  | e :: t, n => by
    have m1 := min5_in ((rA e 1).length : Nat) (by omega)
    have m2 := min5_in ((rS e 0).size : Nat) (by omega)
    have := grG_ge t (n + min5 ((rS e 0).size : Nat) + min5 ((rA e 1).length : Nat))
    rw [grG]; omega
theorem grG_mem : ∀ (t : List (List D)) (n : Int), ∀ e ∈ t, n + min5 ((rA e 1).length : Nat) ≤ grG t n
  | x :: t, n, e, he => by
    have m1 := min5_in ((rA x 1).length : Nat) (by omega)
    have m2 := min5_in ((rS x 0).size : Nat) (by omega)
    rw [grG]
    rcases List.mem_cons.1 he with rfl | he
    · have := grG_ge t (n + min5 ((rS e 0).size : Nat) + min5 ((rA e 1).length : Nat))
      omega
    · have := grG_mem t (n + min5 ((rS x 0).size : Nat) + min5 ((rA x 1).length : Nat)) e he
      omega
theorem min5_le {n m : Int} (h : min5 n ≤ m) (hm : m < 100000) : n ≤ m := by
  unfold min5 at h; split at h <;> omega
structure Small (S Y L G : List (List D)) : Prop where
  s : S.length ≤ 30
  y : Y.length ≤ 100
  l : L.length ≤ 300
  g : G.length ≤ 30
  sd : lensOk 2 1048576 S = true
  gs : lensOk 1 1048576 G = true
theorem small_of {S Y L G : List (List D)} (h : greatB S Y L G = false) : Small S Y L G := by
  simp only [greatB, Bool.or_eq_false_iff, decide_eq_false_iff_not] at h
  obtain ⟨⟨⟨⟨h0, h1⟩, h2⟩, h3⟩, h4⟩ := h
  rw [List.take_of_length_le (by omega), List.take_of_length_le (by omega), List.take_of_length_le (by omega)] at h0
  have a1 := grG_ge G (grY Y (grS S 0))
  have a2 := grY_ge Y (grS S 0)
  have a3 := grS_ge S 0
  refine ⟨by omega, by omega, by omega, by omega, List.all_eq_true.2 fun e he => decT ?_, List.all_eq_true.2 fun e he => decT ?_⟩
  · have := grS_mem S 0 e he
    have := min5_le (n := ((rA e 2).length : Nat)) (m := 80000) (by omega) (by omega)
    omega
  · have := grG_mem G (grY Y (grS S 0)) e he
    have := min5_le (n := ((rA e 1).length : Nat)) (m := 80000) (by omega) (by omega)
    omega
theorem rels_ok {L : List (List D)} (h : Good (.arr relC) (.arr L)) : relsOk L = true := List.all_eq_true.2 fun e he => by
  obtain ⟨a, b, k, c, d, rfl, h1, h2⟩ := good_rel h he
  exact andT (decT h1) (decT h2)
theorem chk_pre {S Y L G : List (List D)} (h : GObj S Y L G) (hs : Small S Y L G) : (decide (S.length ≤ 1048576) && decide (Y.length ≤ 1048576) && relsOk L && decide (G.length ≤ 1048576) && lensOk 1 1048576 G) = true := by
  have := hs.s; have := hs.y; have := hs.g
  exact andT (andT (andT (andT (decT (by omega)) (decT (by omega))) (rels_ok h.l)) (decT (by omega))) hs.gs
/-- An object of a list that a law is handed. -/
theorem good_kept {l : List (List D)} (h : Good (.arr keptC) (.arr l)) {e : List D} (he : e ∈ l) : e.length = 7 ∧ GObj (rA e 2) (rA e 3) (rA e 4) (rA e 5) ∧ Good (.arr bls) (.arr (rA e 6)) := by
  obtain ⟨h1, h2⟩ := good_row h he
  obtain ⟨s, e2, g2⟩ := good_arr (h2 2 _ rfl)
  obtain ⟨y, e3, g3⟩ := good_arr (h2 3 _ rfl)
  obtain ⟨r, e4, g4⟩ := good_arr (h2 4 _ rfl)
  obtain ⟨g, e5, g5⟩ := good_arr (h2 5 _ rfl)
  obtain ⟨b, e6, g6⟩ := good_arr (h2 6 _ rfl)
  refine ⟨h1, ⟨?_, ?_, ?_, ?_⟩, ?_⟩
  · rw [rA, e2]; exact g2
  · rw [rA, e3]; exact g3
  · rw [rA, e4]; exact g4
  · rw [rA, e5]; exact g5
  · rw [rA, e6]; exact g6
theorem okArg_of {e : List D} (h : GObj (rA e 2) (rA e 3) (rA e 4) (rA e 5)) (hg : grtO e = false) : okArg e = true := by
  simp only [grtO, Bool.or_eq_false_iff, decide_eq_false_iff_not] at hg
  exact andT (chk_pre h (small_of hg.1)) (decT (by omega))
/-- Lists that are not great. -/
theorem grtL_small {l : List (List D)} (h : grtL l = false) : (∀ e ∈ l.take 20, grtO e = false) ∧ (l.length ≤ 12 ∨ (64 < l.length ∧ l.length ≤ 80)) := by
  simp only [grtL, Bool.or_eq_false_iff, Bool.and_eq_false_iff, decide_eq_false_iff_not, List.any_eq_false] at h
  exact ⟨fun e he => by simpa using h.1 e he, by omega⟩
theorem pre_of {l : List (List D)} (hl : Good (.arr keptC) (.arr l)) (h : grtL l = false) : pKck [.arr keptC l] = true := by
  obtain ⟨h1, h2⟩ := grtL_small h
  show (decide (l.length ≤ 1048576) && (decide (64 < l.length) || l.all okArg)) = true
  refine andT (decT (by omega)) ?_
  rcases h2 with h2 | h2
  · rw [List.take_of_length_le (by omega)] at h1
    rw [decide_eq_false (by omega), Bool.false_or, List.all_eq_true]
    exact fun e he => okArg_of (good_kept hl he).2.1 (h1 e he)
  · rw [decide_eq_true h2.1, Bool.true_or]
end Go.Proofs.YtacfehneeanlgaaDoor.Ev
namespace Go.Proofs.YtacfehneeanlgaaDoor.Ev
open Go Go.RowKit Go.Shelf Go.Maps
set_option linter.unusedVariables false
set_option linter.unusedSimpArgs false
def lst (l : List Int) : Nat → Int := fun j => l.getD j 0
abbrev kr (n : Nat) (bd wh va sz : List Int) : List (List D) := kRows n (lst bd) (lst wh) (lst va) (lst sz) (fun _ => false)
/-- A symbol as it is built. -/
abbrev symU (bd wh va sz : Int) : Value := .agg #[.string ⟨#[]⟩, .int .u8 bd, .bool false, .int .i64 wh, .int .i64 va, .int .i64 sz]
theorem below_new {w W : World} (h : Go.RowKit.Below w.heap.size w W) (A : Obj) : Go.RowKit.Below w.heap.size w (W.alloc A) := h.alloc h.size A
set_option maxRecDepth 100000 in
theorem strong_calls (w : World) : Calls Tryd.prog 16 #[] w fun e W' => e = .returned (symU 1 (-1) 0 0) ∧ Go.RowKit.Below w.heap.size w W' := by
  go_enter Tryd.func16, Tryd.ntmps16
  go_wp2
  refine ⟨rfl, symU 1 (-1) 0 0, ?_, rfl, below_new (Go.RowKit.Below.refl _ w) _⟩
  simp [results, Tryd.f16, go_sem]
set_option maxRecDepth 100000 in
theorem weak_calls (w : World) : Calls Tryd.prog 15 #[] w fun e W' => e = .returned (symU 2 (-1) 0 0) ∧ Go.RowKit.Below w.heap.size w W' := by
  go_enter Tryd.func15, Tryd.ntmps15
  go_wp2
  refine ⟨rfl, symU 2 (-1) 0 0, ?_, rfl, below_new (Go.RowKit.Below.refl _ w) _⟩
  simp [results, Tryd.f15, go_sem]
set_option maxRecDepth 100000 in
theorem lack_calls (w : World) : Calls Tryd.prog 17 #[] w fun e W' => e = .returned (symU 1 0 0 0) ∧ Go.RowKit.Below w.heap.size w W' := by
  go_enter Tryd.func17, Tryd.ntmps17
  go_wp2
  refine ⟨rfl, symU 1 0 0 0, ?_, rfl, below_new (Go.RowKit.Below.refl _ w) _⟩
  simp [results, Tryd.f17, go_sem]
set_option maxRecDepth 100000 in
theorem common_calls (w : World) : Calls Tryd.prog 14 #[] w fun e W' => e = .returned (symU 1 (-2) 4 8) ∧ Go.RowKit.Below w.heap.size w W' := by
  go_enter Tryd.func14, Tryd.ntmps14
  go_wp2
  refine ⟨rfl, symU 1 (-2) 4 8, ?_, rfl, below_new (Go.RowKit.Below.refl _ w) _⟩
  simp [results, Tryd.f14, go_sem]
theorem agg2_inv {g : Gh} {w : World} {s : Slot} {a b c : Value} (h : VRel g w s (.agg [.val a, .val b]) c) : c = .agg #[a, b] := by
  cases h with
  | agg _ _ cs hl _ hf =>
    have e2 : cs.size = 2 := by rw [← hl]; rfl
    have h0 := val_inv (hf 0 _ _ rfl (Array.getElem?_eq_getElem (by omega)))
    have h1 := val_inv (hf 1 _ _ rfl (Array.getElem?_eq_getElem (by omega)))
    have : cs = #[cs[0], cs[1]] := by
      apply Array.ext
      · exact e2
      · intro i a1 a2
        match i, a2 with
        | 0, _ => rfl
        | 1, _ => rfl
        | i + 2, a2 => simp at a2; omega
    rw [this, h0, h1]
/-- stands, at the kit's calls. -/
theorem stands_calls (w : World) (hG : GlobW w) (p : Option Addr) (cap : Nat) (L : List (List D)) (hL : DRel allS w (.arr keptC) (.arr L) (.slice p L.length cap)) (hp : pKck [.arr keptC L] = true) (o s : Int) (ok : Bool) (hg : gStd [.arr keptC L] = some (.tup [.agg [.val (.int .i64 o), .val (.int .i64 s)], .val (.bool ok)])) :
    Calls Tryd.prog 12 #[.slice p L.length cap] w fun e W' => e = .returned (.tuple #[.agg #[.int .i64 o, .int .i64 s], .bool ok]) ∧ Go.RowKit.Below w.heap.size w W' := by
  refine (calls_of_con (con_std [.arr keptC L] _ hp hg) w _ rfl hG (fun i u hi => ?_)).mono fun e W' ⟨c, g', he, hv, hb, _⟩ => ?_
  · match i with
    | 0 => simp at hi; subst hi; exact ⟨_, rfl, .arr _ _ _ _ hL⟩
    | i + 1 => simp at hi
  · refine ⟨?_, hb⟩
    rw [he]
    congr 1
    cases hv with
    | tup _ _ cs hl _ hf =>
      have e2 : cs.size = 2 := by rw [← hl]; rfl
      have h0 := hf 0 _ _ rfl (Array.getElem?_eq_getElem (by omega))
      have h1 := val_inv (hf 1 _ _ rfl (Array.getElem?_eq_getElem (by omega)))
      have h2 := agg2_inv h0
      have : cs = #[cs[0], cs[1]] := by
        apply Array.ext
        · exact e2
        · intro i a1 a2
          match i, a2 with
          | 0, _ => rfl
          | 1, _ => rfl
          | i + 2, a2 => simp at a2; omega
      rw [this, h1, h2]
theorem syms_new (W : World) (cs : Array Value) (ty : TypeId) (n : Nat) (bd wh va sz : Nat → Int) (hd : Nat → Bool) (h : ∀ j, j < n → ∃ s, cs[j * 6]? = some (.string s) ∧ cs[j * 6 + 1]? = some (.int .u8 (bd j)) ∧ cs[j * 6 + 2]? = some (.bool (hd j)) ∧ cs[j * 6 + 3]? = some (.int .i64 (wh j)) ∧ cs[j * 6 + 4]? = some (.int .i64 (va j)) ∧ cs[j * 6 + 5]? = some (.int .i64 (sz j))) :
    SymsAre (W.alloc (.cells cs ty)) W.heap.size n bd wh va sz hd := fun j hj => by
  obtain ⟨s, h0, h1, h2, h3, h4, h5⟩ := h j hj
  exact ⟨⟨s, (World.cell?_alloc_at _ _ _ _ rfl).trans h0, (World.cell?_alloc_at _ _ _ _ rfl).trans h1, (World.cell?_alloc_at _ _ _ _ rfl).trans h2, (World.cell?_alloc_at _ _ _ _ rfl).trans h3, (World.cell?_alloc_at _ _ _ _ rfl).trans h4, (World.cell?_alloc_at _ _ _ _ rfl).trans h5⟩, World.frozen?_alloc_at _ _ _ _ rfl⟩
theorem below_grown {n b : Nat} {w W W' : World} (h : Go.RowKit.Below n w W) (hg : W.grownBy W' (some b)) (hb : n ≤ b) (hn : n ≤ w.heap.size) : Go.RowKit.Below n w W' :=
  ⟨hg.os.trans h.os, hg.tape.trans h.tape, hg.output.trans h.output, Nat.le_trans h.size hg.size, fun i hi => (hg.block i (Nat.lt_of_lt_of_le (Nat.lt_of_lt_of_le hi hn) h.size) (by intro e; injection e with e; omega)).trans (h.block i hi)⟩
theorem below_then {n : Nat} {w W W' : World} (h : Go.RowKit.Below n w W) (hB : Go.RowKit.Below W.heap.size W W') (hn : n ≤ w.heap.size) : Go.RowKit.Below n w W' := h.trans (hB.mono (Nat.le_trans hn h.size))
theorem lackN_nil {L : List (List D)} (h : (dedup (allN L)).filter (lackB L) = []) : lackN L = [] := by rw [lackN, h, List.mergeSort_nil]
theorem bindE_ok {L : List (List D)} (h1 : chkL L = true) (h2 : doubleB L = false) (h3 : (dedup (allN L)).filter (lackB L) = []) : bindE L = 0 := by
  rw [bindE, if_neg (by rw [h1]; simp), if_neg (by rw [h2]; simp), if_pos (lackN_nil h3)]
abbrev lA : List (List D) := kr 3 [1, 2, 1] [0, -1, -1] [] []
theorem std_lA : gStd [.arr keptC lA] = some (.tup [.agg [.val (.int .i64 2), .val (.int .i64 0)], .val (.bool true)]) := by
  have e : bindE lA = 0 := bindE_ok (by kernel_rfl) (by kernel_rfl) (by kernel_rfl)
  have hb : bndOf lA 0 0 = (2, 0) := by kernel_rfl
  show (if bindE lA = 0 ∧ 0 < lA.length ∧ 0 < (rA (lA.getD 0 []) 3).length then _ else _) = _
  rw [if_pos ⟨e, of_decide_eq_true (by kernel_rfl), of_decide_eq_true (by kernel_rfl)⟩, hb]
theorem pre_lA : pKck [.arr keptC lA] = true := by kernel_rfl
set_option maxRecDepth 100000 in
set_option maxHeartbeats 4000000 in
theorem alive_calls (w : World) (hG : GlobW w) : Calls Tryd.prog 8 #[] w fun e W' => e = .returned (.bool true) ∧ Go.RowKit.Below w.heap.size w W' := by
  have hGn : ∀ W : World, Go.RowKit.Below w.heap.size w W → GlobW W := fun W hB => hG.below hB (fun x hx => (hG x hx).1)
  go_enter Tryd.func8, Tryd.ntmps8
  go_wp2_with (first
    | (go_at_call 17; refine (lack_calls _).mono ?_; rintro e W1 ⟨rfl, hB1⟩)
    | (go_at_call 15; refine (weak_calls _).mono ?_; rintro e W2 ⟨rfl, hB2⟩)
    | (go_at_call 16; refine (strong_calls _).mono ?_; rintro e W3 ⟨rfl, hB3⟩)
    | (go_at_call 13; refine (kept_calls _ W3.heap.size 3 (by omega) (lst [1, 2, 1]) (lst [0, -1, -1]) (lst []) (lst []) (fun _ => false) (by simp) (syms_new _ _ _ _ _ _ _ _ _ (fun j hj => by match j, hj with | 0, _ | 1, _ | 2, _ => exact ⟨_, rfl, rfl, rfl, rfl, rfl, rfl⟩))).mono ?_; rintro e W4 ⟨p, cap, rfl, hd, hg⟩; have hB4 := below_grown (below_new (below_then (below_then hB1 hB2 (Nat.le_refl _)) hB3 (Nat.le_refl _)) _) hg (below_then (below_then hB1 hB2 (Nat.le_refl _)) hB3 (Nat.le_refl _)).size (Nat.le_refl _))
    | (go_at_call 12; refine (stands_calls _ (hGn _ hB4) p cap _ hd pre_lA 2 0 true std_lA).mono ?_; rintro e W5 ⟨rfl, hB5⟩)
    | go_in)
  go_ret
  exact ⟨rfl, below_new (below_then hB4 hB5 (Nat.le_refl _)) _⟩
def gAlL : List V → Option V
  | [] => some (.val (.bool true))
  | _ => none
theorem con_all : ∀ vs v, gAlL vs = some v → Contract Tryd.prog 8 vs [] (v, []) := by
  intro vs v h
  unfold gAlL at h
  split at h <;> cases h
  refine contract_walk trivial fun g w cargs hH => ?_
  have hs := hH.size
  have : cargs = #[] := by simpa using hs
  subst this
  exact (alive_calls w (fun x hx => (hH.glob x hx).2)).mono fun e W' ⟨he, hB⟩ => ⟨_, he, .val _ _, hB⟩
end Go.Proofs.YtacfehneeanlgaaDoor.Ev
