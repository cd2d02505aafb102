/- What the law on Shift computes is true: for every list of cuts and every place whose number is of its kind. -/
import Derived.Test.YthloggdgdklgmaaPLayoutShiftsx1
namespace Go.Proofs.Ythloggdgdklgmaa.ShPure
open Go.RowKit Go.Proofs.YthloggdgdklgmaaW.PrintWords Go.Proofs.YthloggdgdklgmaaW.PrintLast Go.Proofs.YthloggdgdklgmaaW.PrintMore Go.Proofs.Ythloggdgdklgmaa.PLayoutShifts

def badCut (c : S49) : Bool := decide (c.f2 < 0) || decide (c.f2 > 4096) || decide (c.f3 < 0) || decide (c.f3 > 4096)
def cutAhead (o s a : Int) (c : S49) : Int := if c.f0 = o ∧ c.f1 = s ∧ c.f2 < a then mn c.f3 (a - c.f2) else 0
def cutSum (o s a : Int) : List S49 → Int
  | [] => 0
  | c :: r => cutAhead o s a c + cutSum o s a r

theorem good_of {c : S49} (h : badCut c = false) : 0 ≤ c.f2 ∧ c.f2 ≤ 4096 ∧ 0 ≤ c.f3 ∧ c.f3 ≤ 4096 := by
  simp [badCut] at h; omega
theorem cutAhead_le {o s a : Int} {c : S49} (h : badCut c = false) : 0 ≤ cutAhead o s a c ∧ cutAhead o s a c ≤ 4096 := by
  have := good_of h
  unfold cutAhead mn
  split
  · split <;> omega
  · omega
theorem cutAhead_cap {o s a : Int} {c : S49} (h : badCut c = false) : cutAhead o s (mn a 1048576) c = cutAhead o s a c := by
  have := good_of h
  unfold cutAhead mn
  by_cases e : 1048576 < a
  · simp only [e, if_true]
    have h1 : (c.f0 = o ∧ c.f1 = s ∧ c.f2 < 1048576) ↔ (c.f0 = o ∧ c.f1 = s ∧ c.f2 < a) := by constructor <;> (rintro ⟨x, y, z⟩; exact ⟨x, y, by omega⟩)
    by_cases h2 : c.f0 = o ∧ c.f1 = s ∧ c.f2 < a
    · rw [if_pos (h1.2 h2), if_pos h2, if_neg (by omega), if_neg (by omega)]
    · rw [if_neg (fun x => h2 (h1.1 x)), if_neg h2]
  · simp only [e, if_false]
theorem cutSum_cap {o s a : Int} : ∀ {l : List S49}, l.any badCut = false → cutSum o s (mn a 1048576) l = cutSum o s a l
  | [], _ => rfl
  | c :: r, h => by
    simp only [List.any_cons, Bool.or_eq_false_iff] at h
    simp only [cutSum, cutAhead_cap h.1, cutSum_cap h.2]

theorem rd_at {xs : List S49} {i : Nat} (h : i < xs.length) : xs.drop i = rd_T49 xs (i : Int) :: xs.drop (i + 1) := by
  rw [List.drop_eq_getElem_cons h]
  simp [rd_T49, List.getD, List.getElem?_eq_getElem h]
theorem wrap_i {i n : Nat} (h : i < n) (hn : n ≤ 16384) : wrap64 ((i : Int) + 1) = ((i + 1 : Nat) : Int) := by
  unfold wrap64; omega

theorem ahead_tells (l : List S49) (o s a : Int) (hn : l.length ≤ 16384) (hb : l.any badCut = false) (ha : -9223372036854775808 ≤ a ∧ a ≤ 9223372036854775807) : ∀ (d k i : Nat) (x : Int), i + d = l.length → d < k → 0 ≤ x → x ≤ 4096 * i →
    quoinref25_Ahead.l0 k l o s a x i = some (x + cutSum o s a (l.drop i)) := by
  intro d
  induction d with
  | zero =>
    intro k i x hd hk h0 h1
    obtain ⟨k, rfl⟩ : ∃ m, k = m + 1 := ⟨k - 1, by omega⟩
    simp only [quoinref25_Ahead.l0]
    rw [if_neg (by omega), List.drop_of_length_le (by omega)]
    simp [cutSum]
  | succ d ih =>
    intro k i x hd hk h0 h1
    obtain ⟨k, rfl⟩ : ∃ m, k = m + 1 := ⟨k - 1, by omega⟩
    have hi : i < l.length := by omega
    have hr := rd_at hi
    have hbad : badCut (rd_T49 l i) = false := by
      have : rd_T49 l i ∈ l := List.mem_of_mem_drop (i := i) (by rw [hr]; exact List.mem_cons_self ..)
      exact (Bool.eq_false_iff.2 fun h => by have := List.any_eq_true.2 ⟨_, this, h⟩; rw [hb] at this; cases this)
    have hle := cutAhead_le (o := o) (s := s) (a := a) hbad
    have hg := good_of hbad
    rw [hr]
    simp only [cutSum]
    have next : ∀ y, 0 ≤ y → y ≤ 4096 * ((i + 1 : Nat) : Int) → quoinref25_Ahead.l0 k l o s a y (wrap64 ((i : Int) + 1)) = some (y + cutSum o s a (l.drop (i + 1))) := by
      intro y y0 y1
      rw [wrap_i hi hn]
      exact ih k (i + 1) y (by omega) (by omega) y0 y1
    simp only [quoinref25_Ahead.l0]
    rw [if_pos (by omega), if_pos (by omega)]
    revert hle
    unfold cutAhead
    intro hle
    have same : quoinref25_Ahead.l0 k l o s a x (wrap64 ((i : Int) + 1)) = some (x + (0 + cutSum o s a (l.drop (i + 1)))) := by
      rw [next x h0 (by omega), Int.zero_add]
    by_cases c0 : (rd_T49 l i).f0 = o
    · by_cases c1 : (rd_T49 l i).f1 = s
      · by_cases c2 : (rd_T49 l i).f2 < a
        · rw [if_pos c0, if_pos c1, if_pos c2]
          rw [if_pos ⟨c0, c1, c2⟩] at hle ⊢
          have e1 : wrap64 (a - (rd_T49 l i).f2) = a - (rd_T49 l i).f2 := by unfold wrap64; omega
          rw [e1]
          have e2 : wrap64 (x + mn (rd_T49 l i).f3 (a - (rd_T49 l i).f2)) = x + mn (rd_T49 l i).f3 (a - (rd_T49 l i).f2) := by unfold wrap64; omega
          rw [e2, next _ (by omega) (by omega), Int.add_assoc]
        · rw [if_pos c0, if_pos c1, if_neg c2, if_neg (fun h => c2 h.2.2)]; exact same
      · rw [if_pos c0, if_neg c1, if_neg (fun h => c1 h.2.1)]; exact same
    · rw [if_neg c0, if_neg (fun h => c0 h.1)]; exact same

def said (o s a x : Int) (l : List S49) : Int × Int := if l.any badCut then (0, 8) else (x + cutSum o s a l, 0)

theorem shift_tells (l : List S49) (o s a : Int) (hn : l.length ≤ 16384) (ha : -9223372036854775808 ≤ a ∧ a ≤ 9223372036854775807) : ∀ (d k i : Nat) (x : Int), i + d = l.length → 2 * d < k → 0 ≤ x → x ≤ 4096 * i →
    layout_Shift.l0 k o s a x l (l.length : Int) i = some (said o s a x (l.drop i)) := by
  intro d
  induction d with
  | zero =>
    intro k i x hd hk h0 h1
    obtain ⟨k, rfl⟩ : ∃ m, k = m + 1 := ⟨k - 1, by omega⟩
    simp only [layout_Shift.l0]
    rw [if_neg (by omega), List.drop_of_length_le (by omega)]
    simp [said, cutSum]
  | succ d ih =>
    intro k i x hd hk h0 h1
    obtain ⟨k, rfl⟩ : ∃ m, k = m + 1 + 1 := ⟨k - 2, by omega⟩
    have hi : i < l.length := by omega
    have hr := rd_at hi
    rw [hr]
    simp only [layout_Shift.l0, layout_Shift.j1]
    rw [if_pos (by omega), if_pos (by omega), if_pos (by omega)]
    by_cases hb : badCut (rd_T49 l i) = true
    · have hs : said o s a x (rd_T49 l i :: l.drop (i + 1)) = (0, 8) := by simp [said, hb]
      rw [hs]
      simp [badCut] at hb
      by_cases c : mn (rd_T49 l i).f2 (rd_T49 l i).f3 < 0
      · rw [if_pos c]; simp
      · rw [if_neg c]
        have : mx (rd_T49 l i).f2 (rd_T49 l i).f3 > 4096 := by
          revert c; unfold mx mn; split <;> split <;> intro c <;> omega
        rw [if_pos (decide_eq_true this)]
    · have hbad : badCut (rd_T49 l i) = false := by simpa using hb
      have hg := good_of hbad
      have hle := cutAhead_le (o := o) (s := s) (a := a) hbad
      have n0 : ¬ mn (rd_T49 l i).f2 (rd_T49 l i).f3 < 0 := by unfold mn; split <;> omega
      have n1 : decide (mx (rd_T49 l i).f2 (rd_T49 l i).f3 > 4096) = false := decide_eq_false (by unfold mx; split <;> omega)
      rw [if_neg n0, n1]
      simp only [Bool.false_eq_true, if_false]
      have hs : ∀ x, said o s a x (rd_T49 l i :: l.drop (i + 1)) = said o s a (x + cutAhead o s a (rd_T49 l i)) (l.drop (i + 1)) := by
        intro x
        simp only [said, List.any_cons, hbad, Bool.false_or, cutSum, Int.add_assoc]
      rw [hs]
      have next : ∀ y, 0 ≤ y → y ≤ 4096 * ((i + 1 : Nat) : Int) → layout_Shift.l0 k o s a y l (l.length : Int) (wrap64 ((i : Int) + 1)) = some (said o s a y (l.drop (i + 1))) := by
        intro y y0 y1
        rw [wrap_i hi hn]
        exact ih k (i + 1) y (by omega) (by omega) y0 y1
      revert hle
      unfold cutAhead
      intro hle
      have same : layout_Shift.l0 k o s a x l (l.length : Int) (wrap64 ((i : Int) + 1)) = some (said o s a (x + 0) (l.drop (i + 1))) := by
        rw [next x h0 (by omega), Int.add_zero]
      by_cases c0 : (rd_T49 l i).f0 = o
      · by_cases c1 : (rd_T49 l i).f1 = s
        · by_cases c2 : (rd_T49 l i).f2 < a
          · rw [if_pos c0, if_pos c1, if_pos c2]
            rw [if_pos ⟨c0, c1, c2⟩] at hle ⊢
            have e1 : wrap64 (a - (rd_T49 l i).f2) = a - (rd_T49 l i).f2 := by unfold wrap64; omega
            rw [e1]
            have e2 : wrap64 (x + mn (rd_T49 l i).f3 (a - (rd_T49 l i).f2)) = x + mn (rd_T49 l i).f3 (a - (rd_T49 l i).f2) := by unfold wrap64; omega
            rw [e2, next _ (by omega) (by omega)]
          · rw [if_pos c0, if_pos c1, if_neg c2, if_neg (fun h => c2 h.2.2)]; exact same
        · rw [if_pos c0, if_neg c1, if_neg (fun h => c1 h.2.1)]; exact same
      · rw [if_neg c0, if_neg (fun h => c0 h.1)]; exact same

theorem ref_tells (l : List S49) (o s a : Int) (hn : l.length ≤ 16384) (ha : -9223372036854775808 ≤ a ∧ a ≤ 9223372036854775807) : ∀ (d k i : Nat), i + d = l.length → d + l.length + 1 < k → (l.take i).any badCut = false →
    quoinref25_Shift.l0 k l o s a i = some (said o s a 0 l) := by
  intro d
  induction d with
  | zero =>
    intro k i hd hk ht
    obtain ⟨k, rfl⟩ : ∃ m, k = m + 1 := ⟨k - 1, by omega⟩
    simp only [quoinref25_Shift.l0]
    rw [if_neg (by omega)]
    rw [List.take_of_length_le (by omega)] at ht
    have hm : -9223372036854775808 ≤ mn a 1048576 ∧ mn a 1048576 ≤ 9223372036854775807 := by unfold mn; split <;> omega
    have h : quoinref25_Ahead.l0 k l o s (mn a 1048576) 0 0 = _ := ahead_tells l o s (mn a 1048576) hn ht hm l.length k 0 0 (by omega) (by omega) (by omega) (by omega)
    rw [quoinref25_Ahead.f, h]
    simp [said, ht, cutSum_cap ht]
  | succ d ih =>
    intro k i hd hk ht
    obtain ⟨k, rfl⟩ : ∃ m, k = m + 1 := ⟨k - 1, by omega⟩
    have hi : i < l.length := by omega
    have hmem : rd_T49 l i ∈ l := List.mem_of_mem_drop (i := i) (by rw [rd_at hi]; exact List.mem_cons_self ..)
    have hget : rd_T49 l i = l[i] := by simp [rd_T49, List.getD, List.getElem?_eq_getElem hi]
    simp only [quoinref25_Shift.l0]
    rw [if_pos (by omega), if_pos (by omega)]
    by_cases hb : badCut (rd_T49 l i) = true
    · have hs : said o s a 0 l = (0, 8) := by
        unfold said; rw [if_pos (List.any_eq_true.2 ⟨_, hmem, hb⟩)]
      rw [hs]
      simp [badCut] at hb
      by_cases c0 : (rd_T49 l i).f2 < 0
      · rw [if_pos c0]
      · rw [if_neg c0]
        by_cases c1 : (rd_T49 l i).f2 > 4096
        · rw [if_pos c1]
        · rw [if_neg c1]
          by_cases c2 : (rd_T49 l i).f3 < 0
          · rw [if_pos c2]
          · rw [if_neg c2, if_pos (by omega)]
    · have hbad : badCut (rd_T49 l i) = false := by simpa using hb
      have hg := good_of hbad
      rw [if_neg (by omega), if_neg (by omega), if_neg (by omega), if_neg (by omega), wrap_i hi hn]
      refine ih k (i + 1) (by omega) (by omega) ?_
      rw [List.take_succ_eq_append_getElem hi, List.any_append, ht, ← hget]
      simp [hbad]

theorem LayoutShifts : ∀ (l : List S49) (o s a : Int), (l.length * 32 ≤ 140737488351232 ∧ ∀ x ∈ l, (Lit.int .i64 x.f0).wf = true ∧ (Lit.int .i64 x.f1).wf = true ∧ (Lit.int .i64 x.f2).wf = true ∧ (Lit.int .i64 x.f3).wf = true) → (Lit.int .i64 o).wf = true → (Lit.int .i64 s).wf = true → (Lit.int .i64 a).wf = true →
    ∃ k, quoinlaw25_LayoutShifts.f k l o s a = some true := by
  intro l o s a _ _ _ hwa
  have ha : -9223372036854775808 ≤ a ∧ a ≤ 9223372036854775807 := by
    simpa [Lit.wf, IntKind.min, IntKind.max, IntKind.bits, IntKind.signed] using hwa
  refine ⟨2 * l.length + 2, ?_⟩
  unfold quoinlaw25_LayoutShifts.f
  by_cases c : (l.length : Int) > 20000
  · rw [if_pos c]
  · rw [if_neg c]
    unfold layout_Shift.f quoinref25_Shift.f
    by_cases c' : (l.length : Int) > 16384
    · rw [if_pos c', if_pos c']; rfl
    · rw [if_neg c', if_neg c']
      have h1 : layout_Shift.l0 _ _ _ _ 0 l _ 0 = _ := shift_tells l o s a (by omega) ha l.length (2 * l.length + 2) 0 0 (by omega) (by omega) (by omega) (by omega)
      have h2 : quoinref25_Shift.l0 _ _ _ _ _ 0 = _ := ref_tells l o s a (by omega) ha l.length (2 * l.length + 2) 0 (by omega) (by omega) (by simp)
      rw [h1, h2]
      simp
end Go.Proofs.Ythloggdgdklgmaa.ShPure
