/- Which definition counts: plain facts. Two strong definitions of one name: plain facts. fits: when it answers true; the list over which the laws run. -/
import Derived.Test.YtacfehneeanlgaaDoorRxD
import Derived.Test.YtacfehneeanlgaaDoorRxA
namespace Go.Proofs.YtacfehneeanlgaaDoor.Ev
open Go Go.RowKit
set_option linter.unusedVariables false
set_option linter.unusedSimpArgs false
abbrev sy (L : List (List D)) (i k : Nat) : List D := (rA (L.getD i []) 3).getD k []
/-- A definition of a name. -/
def IsDef (L : List (List D)) (s : ByteArray) (i k : Nat) : Prop := i < L.length ∧ k < (rA (L.getD i []) 3).length ∧ symDef (L.getD i []) (sy L i k) = true ∧ rN (sy L i k) = s
def Strong (y : List D) : Prop := rI y 3 ≠ -2 ∧ rI y 1 ≠ 2
instance (y : List D) : Decidable (Strong y) := inferInstanceAs (Decidable (_ ∧ _))
def rankY (y : List D) : Int × Int × Int := rankOf (rI y 1) (rI y 3) (rI y 4) (rI y 5)
theorem symDef_thr (e y : List D) : symDef e y = thrB (rA e 6) (rI y 1) (rI y 3) := by
  unfold symDef thrB goneB
  by_cases h : 0 < rI y 3
  · rw [decide_eq_true h, decide_eq_false (show ¬ rI y 3 ≤ 0 by omega)]; simp
  · rw [decide_eq_false h, decide_eq_true (show rI y 3 ≤ 0 by omega)]; simp
theorem cmp_le (p q : Int × Int × Int) : cmpL (rankD p) (rankD q) ≤ 0 ↔ (p.1 < q.1 ∨ (p.1 = q.1 ∧ (p.2.1 < q.2.1 ∨ (p.2.1 = q.2.1 ∧ p.2.2 ≤ q.2.2)))) := by
  have e : ∀ n : Int, rI [D.int n] 0 = n := fun n => rfl
  simp only [rankD, cmpL, e]
  unfold cmpI
  (repeat' split) <;> omega
structure Inv (L : List (List D)) (P : Nat → Nat → Prop) (c : Nat) (d : Def1) : Prop where
  no : d.is = false → ∀ j k, ¬ P j k
  at_ : d.is = true → ∃ a b : Nat, P a b ∧ d.ob = a ∧ d.sy = b ∧ (d.r0, d.r1, d.r2) = rankY (sy L a b)
  le : d.is = true → ∀ j k, P j k → cmpL (rankD (rankY (sy L j k))) (rankD (d.r0, d.r1, d.r2)) ≤ 0
  st0 : 0 ≤ d.st ∧ d.st ≤ c
  none_ : d.st = 0 → ∀ j k, P j k → ¬ Strong (sy L j k)
  one : d.st ≤ 1 → ∀ j k j' k', P j k → P j' k' → Strong (sy L j k) → Strong (sy L j' k') → j = j' ∧ k = k'
  some_ : 1 ≤ d.st → ∃ j k, P j k ∧ Strong (sy L j k)
  two : 2 ≤ d.st → ∃ j k j' k', P j k ∧ P j' k' ∧ Strong (sy L j k) ∧ Strong (sy L j' k') ∧ ¬ (j = j' ∧ k = k')
theorem Inv.congr {L : List (List D)} {P Q : Nat → Nat → Prop} {c : Nat} {d : Def1} (h : Inv L P c d) (e : ∀ j k, P j k ↔ Q j k) : Inv L Q c d := by
  have : P = Q := by funext j k; exact propext (e j k)
  rw [← this]; exact h
theorem Inv.more {L : List (List D)} {P : Nat → Nat → Prop} {c c' : Nat} {d : Def1} (h : Inv L P c d) (e : c ≤ c') : Inv L P c' d :=
  ⟨h.no, h.at_, h.le, ⟨h.st0.1, by have := h.st0.2; omega⟩, h.none_, h.one, h.some_, h.two⟩
theorem inv_zero (L : List (List D)) (P : Nat → Nat → Prop) (c : Nat) (h : ∀ j k, ¬ P j k) : Inv L P c Def1.zero :=
  ⟨fun _ => h, (fun e => by cases e), (fun e => by cases e), ⟨Int.le_refl _, by show (0 : Int) ≤ c; omega⟩, fun _ j k hp => absurd hp (h j k), fun _ j k _ _ hp => absurd hp (h j k), fun e => absurd e (by decide), fun e => absurd e (by decide)⟩
theorem Inv.put {L : List (List D)} {P : Nat → Nat → Prop} {c : Nat} {d : Def1} (h : Inv L P c d) (hc : c < 1000000) (i n : Nat) (hnew : ¬ P i n) :
    Inv L (fun j k => P j k ∨ (j = i ∧ k = n)) (c + 1) (d.put (rI (sy L i n) 1) (rI (sy L i n) 3) (rI (sy L i n) 4) (rI (sy L i n) 5) i n) := by
  obtain ⟨s0, s1⟩ := h.st0
  have hw : Go.RowKit.wrap64 (d.st + 1) = d.st + 1 := by
    unfold Go.RowKit.wrap64
    omega
  -- the number of strong ones
  have hst : (d.put (rI (sy L i n) 1) (rI (sy L i n) 3) (rI (sy L i n) 4) (rI (sy L i n) 5) i n).st = if Strong (sy L i n) then d.st + 1 else d.st := by
    unfold Def1.put
    rw [hw]
    by_cases hs : rI (sy L i n) 3 = -2 ∨ rI (sy L i n) 1 = 2
    · have : ¬ Strong (sy L i n) := fun h2 => hs.elim h2.1 h2.2
      simp only [if_pos hs, if_neg this]
      split <;> rfl
    · have : Strong (sy L i n) := ⟨fun h2 => hs (.inl h2), fun h2 => hs (.inr h2)⟩
      simp only [if_neg hs, if_pos this]
      split <;> rfl
  have his : (d.put (rI (sy L i n) 1) (rI (sy L i n) 3) (rI (sy L i n) 4) (rI (sy L i n) 5) i n).is = true := by
    unfold Def1.put
    dsimp only
    split
    · rfl
    · rename_i hx
      have : ¬ d.is = false := fun e => hx (.inl e)
      simpa using this
  refine ⟨fun e => ?_, fun _ => ?_, fun _ => ?_, ?_, fun e => ?_, fun e => ?_, fun e => ?_, fun e => ?_⟩
  · rw [his] at e; cases e
  · unfold Def1.put
    dsimp only
    split
    · exact ⟨i, n, .inr ⟨rfl, rfl⟩, rfl, rfl, rfl⟩
    · rename_i hx
      have hd : d.is = true := by have : ¬ d.is = false := fun e => hx (.inl e); simpa using this
      obtain ⟨a, b, h1, h2, h3, h4⟩ := h.at_ hd
      exact ⟨a, b, .inl h1, h2, h3, h4⟩
  · unfold Def1.put
    dsimp only
    split
    · rename_i hx
      intro j k hp
      show cmpL (rankD (rankY (sy L j k))) (rankD (rankY (sy L i n))) ≤ 0
      rcases hp with hp | ⟨rfl, rfl⟩
      · rcases hx with hx | hx
        · exact absurd hp (h.no hx j k)
        · have hd : d.is = true := by
            cases hdd : d.is with
            | true => rfl
            | false => exact absurd hp (h.no hdd j k)
          have h1 := (cmp_le _ _).1 (h.le hd j k hp)
          have h2 : ¬ cmpL (rankD (rankY (sy L i n))) (rankD (d.r0, d.r1, d.r2)) ≤ 0 := Int.not_le.2 hx
          rw [cmp_le] at h2 ⊢
          dsimp only at h1 h2
          omega
      · rw [cmp_le]; omega
    · rename_i hx
      have hd : d.is = true := by have : ¬ d.is = false := fun e => hx (.inl e); simpa using this
      intro j k hp
      rcases hp with hp | ⟨rfl, rfl⟩
      · exact h.le hd j k hp
      · have : ¬ 0 < cmpL (rankD (rankY (sy L j k))) (rankD (d.r0, d.r1, d.r2)) := fun e => hx (.inr e)
        exact Int.not_lt.1 this
  · rw [hst]; split <;> omega
  · rw [hst] at e
    split at e
    · omega
    · rename_i hs
      intro j k hp
      rcases hp with hp | ⟨rfl, rfl⟩
      · exact h.none_ e j k hp
      · exact hs
  · rw [hst] at e
    split at e
    · have h0 := h.none_ (by omega)
      intro j k j' k' hp hp' hs hs'
      rcases hp with hp | ⟨rfl, rfl⟩
      · exact absurd hs (h0 j k hp)
      · rcases hp' with hp' | ⟨rfl, rfl⟩
        · exact absurd hs' (h0 j' k' hp')
        · exact ⟨rfl, rfl⟩
    · rename_i hn
      intro j k j' k' hp hp' hs hs'
      rcases hp with hp | ⟨rfl, rfl⟩
      · rcases hp' with hp' | ⟨rfl, rfl⟩
        · exact h.one e j k j' k' hp hp' hs hs'
        · exact absurd hs' hn
      · exact absurd hs hn
  · rw [hst] at e
    split at e
    · rename_i hs; exact ⟨i, n, .inr ⟨rfl, rfl⟩, hs⟩
    · obtain ⟨j, k, h1, h2⟩ := h.some_ e
      exact ⟨j, k, .inl h1, h2⟩
  · rw [hst] at e
    split at e
    · rename_i hs
      obtain ⟨j, k, h1, h2⟩ := h.some_ (by omega)
      exact ⟨j, k, i, n, .inl h1, .inr ⟨rfl, rfl⟩, h2, hs, fun e2 => hnew (by rw [← e2.1, ← e2.2]; exact h1)⟩
    · obtain ⟨j, k, j', k', h1, h2, h3, h4, h5⟩ := h.two e
      exact ⟨j, k, j', k', .inl h1, .inl h2, h3, h4, h5⟩
theorem dRow_inv {L : List (List D)} {s : ByteArray} {i c : Nat} {d : Def1} (hi : i < L.length) (h : Inv L (fun j k => IsDef L s j k ∧ j < i) c d) : ∀ n, n ≤ (rA (L.getD i []) 3).length → c + n < 1000000 →
    Inv L (fun j k => IsDef L s j k ∧ (j < i ∨ (j = i ∧ k < n))) (c + n) (dRow s (L.getD i []) i d n) := by
  intro n
  induction n with
  | zero =>
    intro _ _
    exact h.congr fun j k => ⟨fun h => ⟨h.1, .inl h.2⟩, fun h => ⟨h.1, by omega⟩⟩
  | succ n ih =>
    intro hn hc
    have h1 := ih (by omega) (by omega)
    rw [dRow_succ, dStep]
    split
    · rename_i hd
      refine ((h1.put (by omega) i n (fun h2 => by omega)).congr fun j k => ?_)
      constructor
      · rintro (⟨h2, h3⟩ | ⟨rfl, rfl⟩)
        · exact ⟨h2, by omega⟩
        · exact ⟨⟨hi, by omega, hd.1, hd.2⟩, by omega⟩
      · rintro ⟨h2, h3⟩
        by_cases e : j = i ∧ k = n
        · exact .inr e
        · exact .inl ⟨h2, by omega⟩
    · rename_i hd
      refine (h1.more (by omega : c + n ≤ c + (n + 1))).congr fun j k => ?_
      constructor
      · rintro ⟨h2, h3⟩; exact ⟨h2, by omega⟩
      · rintro ⟨h2, h3⟩
        refine ⟨h2, ?_⟩
        by_cases e : j = i ∧ k = n
        · obtain ⟨rfl, rfl⟩ := e
          exact absurd ⟨h2.2.2.1, h2.2.2.2⟩ hd
        · omega
theorem dAll_inv0 {L : List (List D)} {s : ByteArray} (hl : ∀ i, i < L.length → (rA (L.getD i []) 3).length ≤ 64) (h64 : L.length ≤ 64) : ∀ i, i ≤ L.length → Inv L (fun j k => IsDef L s j k ∧ j < i) (i * 64) (dAll s L i) := by
  intro i
  induction i with
  | zero => intro _; exact inv_zero L _ _ fun j k h => by omega
  | succ i ih =>
    intro hi
    rw [dAll_succ]
    have hl1 := hl i (by omega)
    refine ((dRow_inv (by omega) (ih (by omega)) _ (Nat.le_refl _) (by omega)).more (by omega : i * 64 + _ ≤ (i + 1) * 64)).congr fun j k => ?_
    constructor
    · rintro ⟨h2, h3⟩; exact ⟨h2, by omega⟩
    · rintro ⟨h2, h3⟩
      refine ⟨h2, ?_⟩
      by_cases e : j = i
      · subst e; exact .inr ⟨rfl, h2.2.1⟩
      · exact .inl (by omega)
/-- What the table says of a name. -/
theorem dAll_inv {L : List (List D)} (hc : chkL L = true) (s : ByteArray) : Inv L (IsDef L s) 4096 (dAll s L L.length) := by
  obtain ⟨r1, r2⟩ := chk_read hc
  exact ((dAll_inv0 (s := s) (fun i hi => (r2 i hi).1) r1 L.length (Nat.le_refl _)).more (by omega)).congr fun j k => ⟨fun h => h.1, fun h => ⟨h, h.1⟩⟩
/-- Symbols of objects that may be. -/
theorem sym_may {L : List (List D)} (hc : chkL L = true) {i k : Nat} (hi : i < L.length) (hk : k < (rA (L.getD i []) 3).length) : standsB (rI (sy L i k) 1) (rB (sy L i k) 2) (rI (sy L i k) 3) (rI (sy L i k) 4) (rI (sy L i k) 5) (rA (L.getD i []) 2).length = true := by
  simp only [chkL, Bool.and_eq_true, decide_eq_true_eq, List.all_eq_true, List.mem_range] at hc
  have h1 := hc.2 i hi
  simp only [keptOk, Bool.and_eq_true, decide_eq_true_eq] at h1
  have h2 := h1.1
  simp only [chkB, symsB, Bool.and_eq_true, decide_eq_true_eq] at h2
  obtain ⟨⟨⟨⟨_, _⟩, h5, h6⟩, _⟩, _⟩ := h2
  have h7 := symsGo_ok _ _ _ _ h5 (sy L i k) (getDm hk)
  simp only [symIn, Bool.and_eq_true, beq_iff_eq] at h7
  have h8 := h7.1
  unfold symE at h8
  split at h8
  · cases h8
  · split at h8
    · rename_i h9
      simp only [Bool.and_eq_true] at h9
      exact h9.2
    · cases h8
theorem bind_may {L : List (List D)} (hc : chkL L = true) {i k : Nat} (hi : i < L.length) (hk : k < (rA (L.getD i []) 3).length) : rI (sy L i k) 1 ≤ 2 ∧ (rI (sy L i k) 3 = -2 → rI (sy L i k) 1 = 1) := by
  have h := sym_may hc hi hk
  unfold standsB at h
  split at h
  · cases h
  · rename_i h1
    refine ⟨by omega, fun e => ?_⟩
    rw [if_neg (by omega), if_neg (by omega), if_pos e] at h
    simp only [Bool.and_eq_true, beq_iff_eq] at h
    exact h.2
/-- A name stands for the right thing. -/
def FitP (l : List (List D)) (nm : ByteArray) (bd ob s : Int) : Prop :=
  (bd = 1 → 0 ≤ ob) ∧
  (0 ≤ ob → ob < l.length ∧ 0 ≤ s ∧ s < (rA (l.getD ob.toNat []) 3).length ∧ rN (sy l ob.toNat s.toNat) = nm ∧ thrB (rA (l.getD ob.toNat []) 6) (rI (sy l ob.toNat s.toNat) 1) (rI (sy l ob.toNat s.toNat) 3) = true) ∧
  ∀ i k, i < l.length → k < (rA (l.getD i []) 3).length → rN (sy l i k) = nm → thrB (rA (l.getD i []) 6) (rI (sy l i k) 1) (rI (sy l i k) 3) = true →
    0 ≤ ob ∧ (rI (sy l i k) 1 = 1 → rI (sy l i k) 3 ≠ -2 → ob = i ∧ s = k) ∧ (rI (sy l i k) 1 = 2 → rI (sy l ob.toNat s.toNat) 3 ≠ -2) ∧
    (rI (sy l i k) 3 = -2 → rI (sy l ob.toNat s.toNat) 3 = -2 → rI (sy l i k) 5 ≤ rI (sy l ob.toNat s.toNat) 5)
theorem st_le {L : List (List D)} (h : doubleB L = false) (s : ByteArray) : (dAll s L L.length).st ≤ 1 := by
  refine Int.not_lt.1 fun h2 => ?_
  rw [doubleB_true h2] at h; cases h
theorem not_lack {L : List (List D)} (h : lackN L = []) {x : List UInt8} (hx : x ∈ allN L) : lackB L x = false := by
  cases hb : lackB L x with
  | false => rfl
  | true =>
    have h1 : x ∈ (dedup (allN L)).filter (lackB L) := List.mem_filter.2 ⟨mem_dedup.2 hx, hb⟩
    have h2 : x ∈ lackN L := List.mem_mergeSort.2 h1
    rw [h] at h2; cases h2
theorem rank_strong {y : List D} : 2 ≤ (rankY y).1 ↔ Strong y := by
  unfold rankY rankOf Strong
  split
  · rename_i h; simp [h]
  · split
    · rename_i h1 h2; simp [h2]
    · rename_i h1 h2; simp [h1, h2]
theorem fit_right {L : List (List D)} (hc : chkL L = true) (hd : doubleB L = false) (hk : lackN L = []) {i k : Nat} (hi : i < L.length) (hn : k < (rA (L.getD i []) 3).length) (hb : rI (sy L i k) 1 ≠ 0) :
    FitP L (rN (sy L i k)) (rI (sy L i k) 1) (bndOf L i k).1 (bndOf L i k).2 := by
  have inv := dAll_inv hc (rN (sy L i k))
  have hst := st_le hd (rN (sy L i k))
  have isd : ∀ j m, j < L.length → m < (rA (L.getD j []) 3).length → rN (sy L j m) = rN (sy L i k) → thrB (rA (L.getD j []) 6) (rI (sy L j m) 1) (rI (sy L j m) 3) = true → IsDef L (rN (sy L i k)) j m := fun j m h1 h2 h3 h4 => ⟨h1, h2, by rw [symDef_thr]; exact h4, h3⟩
  by_cases h : (dAll (rN (sy L i k)) L L.length).is = true
  · have e : bndOf L i k = ((dAll (rN (sy L i k)) L L.length).ob, (dAll (rN (sy L i k)) L L.length).sy) := by
      unfold bndOf; rw [if_pos ⟨hb, h⟩]
    obtain ⟨a, b, h1, h2, h3, h4⟩ := inv.at_ h
    have hle := inv.le h
    rw [h4] at hle
    rw [e, h2, h3]
    refine ⟨fun _ => by dsimp only; omega, fun _ => ?_, fun j m q1 q2 q3 q4 => ?_⟩
    · simp only [Int.toNat_natCast]
      refine ⟨by have := h1.1; omega, by omega, by have := h1.2.1; omega, h1.2.2.2, ?_⟩
      have := h1.2.2.1
      rw [symDef_thr] at this; exact this
    · have hdj := isd j m q1 q2 q3 q4
      have hr := (cmp_le _ _).1 (hle j m hdj)
      simp only [Int.toNat_natCast]
      refine ⟨by omega, fun b1 w1 => ?_, fun b2 => ?_, fun w2 w3 => ?_⟩
      · have s1 : Strong (sy L j m) := ⟨w1, by omega⟩
        have s2 : Strong (sy L a b) := rank_strong.1 (by have := rank_strong.2 s1; omega)
        obtain ⟨e1, e2⟩ := inv.one hst j m a b hdj h1 s1 s2
        omega
      · intro w3
        have m1 := (bind_may hc q1 q2).2
        have r1 : (rankY (sy L j m)).1 = 1 := by
          unfold rankY rankOf
          rw [if_neg (fun h => by have := m1 h; omega), if_pos b2]
        have r2 : (rankY (sy L a b)).1 = 0 := by
          unfold rankY rankOf
          rw [if_pos w3]
        omega
      · have r1 : rankY (sy L j m) = (0, rI (sy L j m) 5, rI (sy L j m) 4) := by unfold rankY rankOf; rw [if_pos w2]
        have r2 : rankY (sy L a b) = (0, rI (sy L a b) 5, rI (sy L a b) 4) := by unfold rankY rankOf; rw [if_pos w3]
        rw [r1, r2] at hr
        dsimp only at hr
        omega
  · have hf : (dAll (rN (sy L i k)) L L.length).is = false := by simpa using h
    have e : bndOf L i k = (-1, -1) := by
      unfold bndOf; rw [if_neg (fun h2 => h h2.2), if_neg (fun h2 => hb h2.1)]
    rw [e]
    refine ⟨fun b1 => ?_, fun h => absurd h (by decide), fun j m q1 q2 q3 q4 => absurd (isd j m q1 q2 q3 q4) (inv.no hf j m)⟩
    exfalso
    have hnd : symDef (L.getD i []) (sy L i k) = false := by
      cases hs : symDef (L.getD i []) (sy L i k) with
      | false => rfl
      | true => exact absurd ⟨hi, hn, hs, rfl⟩ (inv.no hf i k)
    have ha : symAsk (L.getD i []) (sy L i k) = true := by
      unfold symDef at hnd
      rw [decide_eq_true hb, Bool.true_and] at hnd
      unfold symAsk
      rw [hnd, decide_eq_true b1]; rfl
    have hl := not_lack hk (allN_mem hi hn)
    unfold lackB at hl
    have e2 : (⟨(rN (sy L i k)).data.toList.toArray⟩ : ByteArray) = rN (sy L i k) := by simp
    rw [e2, hf, Bool.not_false, Bool.and_true] at hl
    have : aAll (rN (sy L i k)) L L.length = true := by
      unfold aAll
      rw [List.any_eq_true]
      refine ⟨i, List.mem_range.2 hi, ?_⟩
      unfold aRow
      rw [List.any_eq_true]
      exact ⟨k, List.mem_range.2 hn, by rw [ha]; simp⟩
    rw [this] at hl; cases hl
/-- Names tell what symbols stand for. -/
theorem bnd_name {L : List (List D)} {i k n m : Nat} (h1 : rI (sy L i k) 1 ≠ 0) (h2 : rI (sy L n m) 1 ≠ 0) (h : rN (sy L n m) = rN (sy L i k)) : bndOf L n m = bndOf L i k := by
  unfold bndOf
  have e : rN ((rA (L.getD n []) 3).getD m []) = rN ((rA (L.getD i []) 3).getD k []) := h
  by_cases hi : (dAll (rN (sy L i k)) L L.length).is = true
  · rw [if_pos ⟨h2, by rw [e]; exact hi⟩, if_pos ⟨h1, hi⟩, e]
  · rw [if_neg (fun q => hi (by rw [← e]; exact q.2)), if_neg (fun q => h2 q.1), if_neg (fun q => hi q.2), if_neg (fun q => h1 q.1)]
end Go.Proofs.YtacfehneeanlgaaDoor.Ev
namespace Go.Proofs.YtacfehneeanlgaaDoor.Ev
open Go Go.RowKit
set_option linter.unusedVariables false
set_option linter.unusedSimpArgs false
theorem ba_eq (a b : ByteArray) : (a == b) = decide (a = b) := by
  cases a with
  | mk x =>
  cases b with
  | mk y =>
  show (x == y) = _
  by_cases h : x = y
  · subst h; simp
  · rw [decide_eq_false (by intro e; exact h (ByteArray.mk.inj e)), beq_eq_false_iff_ne]; exact h
theorem key_is (s s' : ByteArray) : keyIs .str (.string s) (.str s') = decide (s = s') := ba_eq s s'
theorem find_set (s s' : ByteArray) (n : List D) (hn : n.getD 0 default = .str s) : ∀ m : List (List D), findRow .str (.string s') (setRow .str (.string s) n m) = if s' = s then some n else findRow .str (.string s') m
  | [] => by
    show (if keyIs .str (.string s') (n.getD 0 default) = true then some n else none) = _
    rw [hn, key_is]
    by_cases h : s' = s
    · rw [decT h, if_pos rfl, if_pos h]
    · rw [decF h, if_neg (by simp), if_neg h]; rfl
  | e :: t => by
    have key : keyIs .str (.string s) (e.getD 0 default) = decide (s = (e.getD 0 default).toStr) := ba_eq _ _
    have key' : keyIs .str (.string s') (e.getD 0 default) = decide (s' = (e.getD 0 default).toStr) := ba_eq _ _
    have fe : findRow .str (.string s') (e :: t) = if keyIs .str (.string s') (e.getD 0 default) = true then some e else findRow .str (.string s') t := rfl
    unfold setRow
    by_cases h : s = (e.getD 0 default).toStr
    · rw [key, decT h, if_pos rfl]
      have fn : findRow .str (.string s') (n :: t) = if keyIs .str (.string s') (n.getD 0 default) = true then some n else findRow .str (.string s') t := rfl
      rw [fn, hn, key_is, fe, key', ← h]
      by_cases h' : s' = s
      · rw [decT h', if_pos rfl, if_pos h']
      · rw [decF h', if_neg (by simp), if_neg h', if_neg (by simp)]
    · rw [key, decF h, if_neg (by simp)]
      have fn : findRow .str (.string s') (e :: setRow .str (.string s) n t) = if keyIs .str (.string s') (e.getD 0 default) = true then some e else findRow .str (.string s') (setRow .str (.string s) n t) := rfl
      rw [fn, find_set s s' n hn t, fe, key']
      by_cases h' : s' = s
      · rw [if_pos h', if_pos h', decF (by rw [h']; exact h), if_neg (by simp)]
      · rw [if_neg h', if_neg h']
def TabOk (t : List (List D)) : Prop := 0 < t.length ∧ cellI t 0 0 = 0 ∧ cellI t (t.length - 1) 0 = 0
def look (m : List (List D)) (s : ByteArray) : Int := (lookD .str (.string s) (.int 0) m).toInt
theorem look_count (s s' : ByteArray) (m : List (List D)) : look (count .str (.string s) (.str s) m) s' = if s' = s then IntKind.wrap .i64 (look m s + 1) else look m s' := by
  unfold look lookD count
  rw [find_set s s' _ rfl m]
  by_cases h : s' = s
  · rw [if_pos h, if_pos h]; rfl
  · rw [if_neg h, if_neg h]
theorem syms_uniq (S : List (List D)) : ∀ (Y : List (List D)) (gl : Bool) (m : List (List D)), (∀ s, 0 ≤ look m s ∧ look m s ≤ 1) → symsGo S Y gl m = true →
    (∀ k, k < Y.length → rI (Y.getD k []) 1 ≠ 0 → look m (rS (Y.getD k []) 0) = 0) ∧ (∀ j k, j < k → k < Y.length → rI (Y.getD j []) 1 ≠ 0 → rI (Y.getD k []) 1 ≠ 0 → rS (Y.getD j []) 0 ≠ rS (Y.getD k []) 0) := by
  intro Y
  induction Y with
  | nil => intro gl m _ _; exact ⟨fun k h => by simp at h, fun j k _ h => by simp at h⟩
  | cons e t ih =>
    intro gl m hm h
    rw [symsGo] at h
    split at h
    · cases h
    · split at h
      · rename_i hb
        split at h
        · cases h
        · obtain ⟨a1, a2⟩ := ih _ _ hm h
          refine ⟨fun k hk hn => ?_, fun j k hj hk hn hn' => ?_⟩
          · match k with
            | 0 => exact absurd hb hn
            | k + 1 => exact a1 k (by simpa using hk) hn
          · match j, k, hj with
            | 0, _, _ => exact absurd hb hn
            | j + 1, k + 1, hj => exact a2 j k (by omega) (by simpa using hk) hn hn'
      · rename_i hb
        split at h
        · cases h
        · rename_i h2
          have hw : IntKind.wrap .i64 (look m (rS e 0) + 1) = look m (rS e 0) + 1 := by
            have := hm (rS e 0)
            exact wrap64 (by omega) (by omega)
          have h3 : look m (rS e 0) = 0 := by
            have h4 : ¬ (look (count .str (.string (rS e 0)) (.str (rS e 0)) m) (rS e 0) > 1) := fun h5 => h2 (decide_eq_true h5)
            rw [look_count, if_pos rfl, hw] at h4
            have := hm (rS e 0)
            omega
          have hm' : ∀ s, 0 ≤ look (count .str (.string (rS e 0)) (.str (rS e 0)) m) s ∧ look (count .str (.string (rS e 0)) (.str (rS e 0)) m) s ≤ 1 := fun s => by
            rw [look_count]
            split
            · rw [hw, h3]; omega
            · exact hm s
          obtain ⟨a1, a2⟩ := ih _ _ hm' h
          have a3 : ∀ k, k < t.length → rI (t.getD k []) 1 ≠ 0 → rS (t.getD k []) 0 ≠ rS e 0 ∧ look m (rS (t.getD k []) 0) = 0 := fun k hk hn => by
            have := a1 k hk hn
            rw [look_count] at this
            split at this
            · rw [hw, h3] at this; omega
            · rename_i hne; exact ⟨hne, this⟩
          refine ⟨fun k hk hn => ?_, fun j k hj hk hn hn' => ?_⟩
          · match k with
            | 0 => exact h3
            | k + 1 => exact (a3 k (by simpa using hk) hn).2
          · match j, k, hj with
            | 0, k + 1, _ => exact fun e2 => (a3 k (by simpa using hk) hn').1 e2.symm
            | j + 1, k + 1, hj => exact a2 j k (by omega) (by simpa using hk) hn hn'
/-- In one object each name stands once. -/
theorem uniq_row {L : List (List D)} (hc : chkL L = true) {i j k : Nat} (hi : i < L.length) (hj : j < (rA (L.getD i []) 3).length) (hk : k < (rA (L.getD i []) 3).length) (h1 : rI (sy L i j) 1 ≠ 0) (h2 : rI (sy L i k) 1 ≠ 0) (h : rN (sy L i j) = rN (sy L i k)) : j = k := by
  simp only [chkL, Bool.and_eq_true, decide_eq_true_eq, List.all_eq_true, List.mem_range] at hc
  have a1 := hc.2 i hi
  simp only [keptOk, Bool.and_eq_true, decide_eq_true_eq] at a1
  have a2 := a1.1
  simp only [chkB, symsB, Bool.and_eq_true, decide_eq_true_eq] at a2
  obtain ⟨⟨⟨⟨_, _⟩, h5, h6⟩, _⟩, _⟩ := a2
  have a3 := (syms_uniq _ _ _ _ (fun s => by show 0 ≤ (0 : Int) ∧ (0 : Int) ≤ 1; omega) h5).2
  rcases Nat.lt_trichotomy j k with e | e | e
  · exact absurd h (a3 j k e hk h1 h2)
  · exact e
  · exact absurd h.symm (a3 k j e hj h2 h1)
/-- Kinds of symbols are no less than 0. -/
def KindsOk (L : List (List D)) : Prop := ∀ i k, i < L.length → k < (rA (L.getD i []) 3).length → 0 ≤ rI (sy L i k) 1
/-- A strong definition. -/
def Solid (L : List (List D)) (i k : Nat) : Prop := thrB (rA (L.getD i []) 6) (rI (sy L i k) 1) (rI (sy L i k) 3) = true ∧ rI (sy L i k) 1 = 1 ∧ rI (sy L i k) 3 ≠ -2
def Twice (L : List (List D)) (i k : Nat) : Prop := Solid L i k ∧ ∃ n m, n < i ∧ m < (rA (L.getD n []) 3).length ∧ rN (sy L n m) = rN (sy L i k) ∧ Solid L n m
theorem solid_of {L : List (List D)} (hc : chkL L = true) (hg : KindsOk L) {s : ByteArray} {i k : Nat} (h : IsDef L s i k) (hs : Strong (sy L i k)) : Solid L i k := by
  obtain ⟨h1, h2, h3, h4⟩ := h
  rw [symDef_thr] at h3
  refine ⟨h3, ?_, hs.1⟩
  have := (bind_may hc h1 h2).1
  have h5 := hs.2
  unfold thrB at h3
  simp only [Bool.and_eq_true, decide_eq_true_eq] at h3
  have h0 := h3.1
  have hn := hg i k h1 h2
  omega
theorem double_iff {L : List (List D)} (hc : chkL L = true) (hg : KindsOk L) : doubleB L = true ↔ ∃ i k, i < L.length ∧ k < (rA (L.getD i []) 3).length ∧ Twice L i k := by
  constructor
  · intro h
    unfold doubleB at h
    rw [List.any_eq_true] at h
    obtain ⟨x, _, hx⟩ := h
    have inv := dAll_inv hc ⟨x.toArray⟩
    obtain ⟨j, k, j', k', d1, d2, s1, s2, hne⟩ := inv.two (by have := of_decide_eq_true hx; omega)
    have b1 := solid_of hc hg d1 s1
    have b2 := solid_of hc hg d2 s2
    rcases Nat.lt_trichotomy j j' with e | e | e
    · exact ⟨j', k', d2.1, d2.2.1, b2, j, k, e, d1.2.1, d1.2.2.2.trans d2.2.2.2.symm, b1⟩
    · subst e
      exact absurd ⟨rfl, uniq_row hc d1.1 d1.2.1 d2.2.1 (by rw [b1.2.1]; decide) (by rw [b2.2.1]; decide) (d1.2.2.2.trans d2.2.2.2.symm)⟩ hne
    · exact ⟨j, k, d1.1, d1.2.1, b1, j', k', e, d2.2.1, d2.2.2.2.trans d1.2.2.2.symm, b2⟩
  · rintro ⟨i, k, hi, hk, b1, n, m, hn, hm, he, b2⟩
    have inv := dAll_inv hc (rN (sy L i k))
    refine doubleB_true (s := rN (sy L i k)) (Int.not_le.1 fun hst => ?_)
    have d1 : IsDef L (rN (sy L i k)) i k := ⟨hi, hk, by rw [symDef_thr]; exact b1.1, rfl⟩
    have d2 : IsDef L (rN (sy L i k)) n m := ⟨by omega, hm, by rw [symDef_thr]; exact b2.1, he⟩
    have := inv.one hst i k n m d1 d2 ⟨b1.2.2, by rw [b1.2.1]; decide⟩ ⟨b2.2.2, by rw [b2.2.1]; decide⟩
    omega
end Go.Proofs.YtacfehneeanlgaaDoor.Ev
namespace Go.Proofs.YtacfehneeanlgaaDoor.Ev
open Go
set_option linter.unusedVariables false
set_option linter.unusedSimpArgs false
open Classical in
noncomputable def fitOk (l : List (List D)) (nm : ByteArray) (bd ob s : Int) : Bool := (chkL l && decide (KindsOk l)) && decide (FitP l nm bd ob s)
noncomputable def pFit : List V → Bool
  | [.arr _ l, .agg [.val (.string nm), .val (.int _ bd), _, _, _, _], .agg [.val (.int _ ob), .val (.int _ s)]] => fitOk l nm bd ob s
  | _ => true
def gFit : List V → Option V
  | [.arr [.int .i64, .int .i64, .arr [.str, .int .i64, .arr [.int .u8], .int .i64], .arr [.str, .int .u8, .bool, .int .i64, .int .i64, .int .i64], .arr [.int .i64, .int .i64, .int .u8, .int .i64, .int .i64], .arr [.str, .arr [.int .i64]], .arr [.bool]] _, .agg [.val (.string _), .val (.int .u8 _), .val (.bool _), .val (.int .i64 _), .val (.int .i64 _), .val (.int .i64 _)], .agg [.val (.int .i64 _), .val (.int .i64 _)]] => some (.val (.bool true))
  | _ => none
noncomputable def lv2 : List (Nat × ExtF) := (11, exP [.sl keptC, .no, .no] pFit gFit) :: (8, exN [] gAlL) :: lv1
noncomputable def lv2i : Info := infoL Tryd.prog lv2 ent keepOf
noncomputable def lv3 : List (Nat × ExtF) := (8, exN [] gAlL) :: lv1
noncomputable def lv3i : Info := infoL Tryd.prog lv3 ent keepOf
theorem lv3_ok : ExtAll Tryd.prog lv3 := .norm con_all lv1_ok
end Go.Proofs.YtacfehneeanlgaaDoor.Ev
namespace Go.Proofs.YtacfehneeanlgaaDoor.Ev
open Go Go.RowKit
set_option linter.unusedVariables false
set_option linter.unusedSimpArgs false
theorem app_at {l : List (List D)} (x : List D) {i : Nat} (h : i < l.length) : (l ++ [x]).getD i [] = l.getD i [] := by
  rw [List.getD_eq_getElem?_getD, List.getD_eq_getElem?_getD, List.getElem?_append_left h]
theorem app_last (l : List (List D)) (x : List D) : (l ++ [x]).getD l.length [] = x := by
  rw [List.getD_eq_getElem?_getD, List.getElem?_append_right (Nat.le_refl _)]; simp
theorem app_sgn (l : List (List D)) (x : List D) : ∀ i, i ≤ l.length → sgnAll (l ++ [x]) i = sgnAll l i := by
  intro i
  induction i with
  | zero => intro _; rfl
  | succ i ih => intro h; rw [sgnAll_succ, sgnAll_succ, ih (by omega), app_at x (by omega)]
theorem app_kept {l : List (List D)} (x : List D) {i : Nat} (h : i < l.length) : keptOk (l ++ [x]) i = keptOk l i := by
  unfold keptOk; rw [app_at x h, app_sgn l x i (by omega)]
theorem app_dAll (s : ByteArray) (l : List (List D)) (x : List D) : ∀ i, i ≤ l.length → dAll s (l ++ [x]) i = dAll s l i := by
  intro i
  induction i with
  | zero => intro _; rfl
  | succ i ih => intro h; rw [dAll_succ, dAll_succ, ih (by omega), app_at x (by omega)]
theorem app_aAll (s : ByteArray) (l : List (List D)) (x : List D) : ∀ i, i ≤ l.length → aAll s (l ++ [x]) i = aAll s l i := by
  intro i
  induction i with
  | zero => intro _; rfl
  | succ i ih => intro h; rw [aAll_succ, aAll_succ, ih (by omega), app_at x (by omega)]
theorem app_len (l : List (List D)) (x : List D) : (l ++ [x]).length = l.length + 1 := by simp
theorem app_dall (s : ByteArray) (l : List (List D)) (x : List D) : dAll s (l ++ [x]) (l ++ [x]).length = dRow s x l.length (dAll s l l.length) (rA x 3).length := by
  rw [app_len, dAll_succ, app_dAll s l x _ (Nat.le_refl _), app_last]
theorem app_aall (s : ByteArray) (l : List (List D)) (x : List D) : aAll s (l ++ [x]) (l ++ [x]).length = (aAll s l l.length || aRow s x (rA x 3).length) := by
  rw [app_len, aAll_succ, app_aAll s l x _ (Nat.le_refl _), app_last]
theorem app_allN (l : List (List D)) (x : List D) : allN (l ++ [x]) = allN l ++ (rA x 3).map fun y => (rN y).data.toList := by
  unfold allN
  rw [app_len, List.range_succ, List.flatMap_append]
  congr 1
  · unfold List.flatMap
    congr 1
    refine List.map_congr_left fun i hi => ?_
    rw [app_at x (List.mem_range.1 hi)]
  · simp [app_last]
theorem chk_all {l : List (List D)} (hc : chkL l = true) : l.length ≤ 64 ∧ ∀ i, i < l.length → keptOk l i = true := by
  simp only [chkL, Bool.and_eq_true, decide_eq_true_eq, List.all_eq_true, List.mem_range] at hc
  exact hc
theorem app_chk {l : List (List D)} (x : List D) : chkL (l ++ [x]) = true ↔ l.length + 1 ≤ 64 ∧ (∀ i, i < l.length → keptOk l i = true) ∧ keptOk (l ++ [x]) l.length = true := by
  unfold chkL
  rw [app_len]
  simp only [Bool.and_eq_true, decide_eq_true_eq, List.all_eq_true, List.mem_range]
  constructor
  · rintro ⟨h1, h2⟩
    exact ⟨h1, fun i hi => by rw [← app_kept x hi]; exact h2 i (by omega), h2 _ (by omega)⟩
  · rintro ⟨h1, h2, h3⟩
    refine ⟨h1, fun i hi => ?_⟩
    by_cases e : i < l.length
    · rw [app_kept x e]; exact h2 i e
    · rw [show i = l.length by omega]; exact h3
/-! ### An object of nothing -/
abbrev objN (i m : Int) : List D := [.int i, .int m, .arr [], .arr [], .arr [], .arr [], .arr []]
theorem nil_kept (l : List (List D)) (i m : Int) : keptOk (l ++ [objN i m]) l.length = true := by
  unfold keptOk
  rw [app_last]
  have e : chkB [] [] [] [] = true := by kernel_rfl
  show (chkB [] [] [] [] && (decide (0 = 0) && decide (List.replicate 0 true = boolsOf []))) = true
  rw [e]; rfl
theorem nil_chk {l : List (List D)} (i m : Int) (hc : chkL l = true) (h : l.length < 64) : chkL (l ++ [objN i m]) = true :=
  (app_chk _).2 ⟨by omega, (chk_all hc).2, nil_kept l i m⟩
theorem nil_dall (s : ByteArray) (l : List (List D)) (i m : Int) : dAll s (l ++ [objN i m]) (l ++ [objN i m]).length = dAll s l l.length := by rw [app_dall]; rfl
theorem nil_aall (s : ByteArray) (l : List (List D)) (i m : Int) : aAll s (l ++ [objN i m]) (l ++ [objN i m]).length = aAll s l l.length := by
  rw [app_aall]
  show (aAll s l l.length || false) = _
  simp
theorem nil_allN (l : List (List D)) (i m : Int) : allN (l ++ [objN i m]) = allN l := by
  rw [app_allN]
  show allN l ++ [] = _
  simp
theorem nil_double (l : List (List D)) (i m : Int) : doubleB (l ++ [objN i m]) = doubleB l := by
  unfold doubleB
  rw [nil_allN]
  congr 1
  funext x
  rw [nil_dall]
theorem nil_lack (l : List (List D)) (i m : Int) : lackN (l ++ [objN i m]) = lackN l := by
  unfold lackN
  rw [nil_allN]
  congr 2
  funext x
  unfold lackB
  rw [nil_dall, nil_aall]
theorem nil_bindE {l : List (List D)} (i m : Int) (hc : chkL l = true) (h : l.length < 64) : bindE (l ++ [objN i m]) = bindE l := by
  unfold bindE
  rw [nil_double, nil_lack, nil_chk i m hc h, hc]
theorem nil_bnd {l : List (List D)} (i m : Int) {j n : Nat} (hj : j < l.length) : bndOf (l ++ [objN i m]) j n = bndOf l j n := by
  unfold bndOf
  rw [app_at _ hj, nil_dall]
/-! ### Lacks rise -/
theorem le_tr {a b c : List UInt8} (h1 : a ≤ b) (h2 : b ≤ c) : a ≤ c := List.le_trans h1 h2
theorem le_tot (a b : List UInt8) : a ≤ b ∨ b ≤ a := List.le_total a b
theorem le_ne {a b : List UInt8} (h1 : a ≤ b) (h2 : a ≠ b) : a < b := by
  exact Classical.byContradiction fun h => h2 (List.le_antisymm h1 (List.not_lt.1 h))
theorem lackN_rise (l : List (List D)) : (lackN l).Pairwise (fun x y => x < y) := by
  have hs : (lackN l).Pairwise (fun x y => (fun x y : List UInt8 => decide (x ≤ y)) x y = true) := by
    unfold lackN
    exact List.pairwise_mergeSort (le := fun x y : List UInt8 => decide (x ≤ y)) (fun a b c h1 h2 => decide_eq_true (le_tr (of_decide_eq_true h1) (of_decide_eq_true h2))) (fun a b => by
      rcases le_tot a b with h | h
      · simp [h]
      · simp [h]) _
  have hn : (lackN l).Nodup := (List.mergeSort_perm _ _).nodup_iff.2 ((nodup_dedup _).filter _)
  refine (hs.and hn).imp fun {a b} h => ?_
  have h1 := of_decide_eq_true h.1
  exact le_ne h1 h.2
/-- Few names lack. -/
theorem lack_few (l : List (List D)) (hc : chkL l = true) : (lackN l).length ≤ 1048576 := by
  obtain ⟨r1, r2⟩ := chk_read hc
  have h1 : ∀ (x : List (List UInt8)), (dedup x).length ≤ x.length := by
    intro x
    induction x with
    | nil => simp [dedup]
    | cons a t ih =>
      simp only [dedup, List.length_cons]
      have := List.length_filter_le (fun y => !decide (y = a)) (dedup t)
      omega
  have h2 : ∀ n, n ≤ l.length → ((List.range n).flatMap fun i => (rA (l.getD i []) 3).map fun y => (rN y).data.toList).length ≤ n * 64 := by
    intro n
    induction n with
    | zero => intro _; simp
    | succ n ih =>
      intro hn
      rw [List.range_succ, List.flatMap_append, List.length_append]
      have := ih (by omega)
      have h3 := (r2 n (by omega)).1
      simp only [List.flatMap_cons, List.flatMap_nil, List.append_nil, List.length_map]
      omega
  unfold lackN
  rw [List.length_mergeSort]
  have h3 := List.length_filter_le (lackB l) (dedup (allN l))
  have h4 := h1 (allN l)
  have h5 : (allN l).length ≤ l.length * 64 := h2 l.length (Nat.le_refl _)
  omega
end Go.Proofs.YtacfehneeanlgaaDoor.Ev
