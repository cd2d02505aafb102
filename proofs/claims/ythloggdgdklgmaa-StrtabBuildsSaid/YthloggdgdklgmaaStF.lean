/- Strtab, the document's answer: that its functions compute what XStE says. -/
import Derived.Test.YthloggdgdklgmaaStQ
import Derived.Test.YthloggdgdklgmaaStG
namespace Go.Proofs.Ythloggdgdklgmaa.Ev
open Go
set_option linter.unusedVariables false
set_option linter.unusedSimpArgs false
theorem wrapS {n : Nat} (h : n ≤ 281474976710656) : IntKind.wrap .i64 ((n : Int) + 1) = ((n + 1 : Nat) : Int) := by rw [wrap64 (by omega) (by omega)]; omega
theorem inR {i n : Nat} (h : i < n) : (decide ((0 : Int) ≤ (i : Int)) && decide ((i : Int) < (n : Int))) = true := andT (decT (by omega)) (decT (by omega))

/-! ### Check -/
theorem runs_rck (xs : List (List D)) : Runs st3 (20, Try.f20, 0) rckk0 (rcks0 xs) (Is (.val (.int .i64 (chkR xs)))) := by
  refine Runs.of (fun n => rckp0 n xs) ?_
  have bad : (xs.length = 0 ∨ 65536 < xs.length ∨ cellI xs 0 0 ≠ 0 ∨ cellI xs (xs.length - 1) 0 ≠ 0) → V.val (.int .i64 8) = V.val (.int .i64 (chkR xs)) := fun h => by rw [chkR, if_pos h]
  refine ask (fun h => is_refl (bad (.inl (by simp only [decide_eq_true_eq] at h; omega)))) (fun h0 => ?_)
  refine ask (fun h => is_refl (bad (.inr (.inl (by simp only [decide_eq_true_eq] at h; omega))))) (fun h1 => ?_)
  simp only [decide_eq_false_iff_not] at h0 h1
  refine askT (decT (by omega)) ?_
  refine ask (fun h => is_refl (bad (.inr (.inr (.inl (by simpa using h)))))) (fun h2 => ?_)
  have hw : IntKind.wrap .i64 ((xs.length : Int) - 1) = ((xs.length - 1 : Nat) : Int) := by rw [wrap64 (by omega) (by omega)]; omega
  rw [hw]
  refine askT (andT (decT (by omega)) (decT (by omega))) ?_
  rw [Int.toNat_natCast]
  refine ask (fun h => is_refl (bad (.inr (.inr (.inr (by simpa using h)))))) (fun h3 => is_refl ?_)
  simp only [bne_eq_false_iff_eq] at h2 h3
  rw [chkR, if_neg (by rintro (h | h | h | h); omega; omega; exact h h2; exact h h3)]
theorem con_rck : ∀ vs outs r, eChk vs outs = some r → Contract Try.prog 20 vs outs r := by
  intro vs outs r h
  unfold eChk at h
  split at h
  · rename_i cts xs heq
    split at h
    · rename_i hc
      cases h
      refine Contract.cast (ks := [some u8s]) ?_
      rw [heq, sameCTs_eq _ _ hc]
      exact st_con l3_ok Try.func20 (by kernel_rfl) (by kernel_rfl) rfl (by kernel_rfl) (by kernel_rfl) (runs_rck xs)
    · cases h
  · cases h

/-! ### May -/
theorem byteAt_zero (s : ByteArray) (i : Nat) (hi : i < s.size) : byteAt s (i : Int) = 0 ↔ s.data.toList[i]? = some 0 := by
  have hl : i < s.data.toList.length := by rw [Array.length_toList]; exact hi
  unfold byteAt
  rw [Int.toNat_natCast, List.getD_eq_getElem?_getD, List.getElem?_eq_getElem hl]
  simp only [Option.getD_some, Option.some.injEq]
  constructor
  · intro h
    apply UInt8.toNat_inj.1
    have : (0 : UInt8).toNat = 0 := rfl
    omega
  · intro h; rw [h]; rfl
theorem runs_may_loop (s : ByteArray) (hs : s.size ≤ 281474976710656) : ∀ (d i : Nat), d + i = s.size → (∀ j, j < i → s.data.toList[j]? ≠ some 0) → Runs st3 (24, Try.f24, 0) mayk1 (mays1 s (i : Int)) (Is (.val (.bool (mayR s)))) := by
  intro d
  induction d with
  | zero =>
    intro i hd hz
    refine Runs.of (fun n => mayp1 n _ _) ?_
    refine askF (decF (by omega)) (is_refl ?_)
    have hn : (0 : UInt8) ∉ s.data.toList := by
      intro h
      obtain ⟨j, hj⟩ := List.getElem?_of_mem h
      have hl : j < s.data.toList.length := (List.getElem?_eq_some_iff.1 hj).1
      rw [Array.length_toList] at hl
      have : s.data.size = s.size := rfl
      exact hz j (by omega) hj
    have : ixB s.data.toList 0 = -1 := ix_none hn
    have hm : mayR s = decide ((s.size : Int) ≤ 64) := by
      rw [mayR, bad, this]
      by_cases h64 : s.size ≤ 64
      · rw [decT (show (s.size : Int) ≤ 64 by omega), decF (show ¬ 64 < s.size by omega)]; rfl
      · rw [decF (show ¬ (s.size : Int) ≤ 64 by omega), decT (show 64 < s.size by omega)]; rfl
    rw [hm]
  | succ d ih =>
    intro i hd hz
    refine Runs.of (fun n => mayp1 n _ _) ?_
    refine askT (decT (by omega)) (askT (inR (by omega)) ?_)
    refine ask (fun h => is_refl ?_) (fun h => ?_)
    · have h0 : byteAt s (i : Int) = 0 := by simpa using h
      have hm := List.mem_of_getElem? ((byteAt_zero s i (by omega)).1 h0)
      obtain ⟨k, hk, -⟩ := ix_found hm
      have : ixB s.data.toList 0 = (k : Int) := hk
      simp [mayR, bad, this]
    · have h0 : byteAt s (i : Int) ≠ 0 := by simpa using h
      rw [wrapS (by omega)]
      refine ih (i + 1) (by omega) (fun j hj => ?_)
      by_cases e : j = i
      · subst e; exact fun h => h0 ((byteAt_zero s j (by omega)).2 h)
      · exact hz j (by omega)
theorem con_may : ∀ vs outs r, eMay.pre vs outs = true → eMay.ans vs outs = some r → Contract Try.prog 24 vs outs r := by
  intro vs outs r hp h
  unfold eMay at h hp
  simp only at h hp
  split at h
  · rename_i s
    cases h
    have hs : s.size ≤ 281474976710656 := by simpa [small] using hp
    refine st_con l3_ok Try.func24 (by kernel_rfl) (by kernel_rfl) rfl (by kernel_rfl) (by kernel_rfl) ?_
    refine Runs.of (fun n => mayp0 n s) ?_
    exact runs_may_loop s hs s.size 0 (by omega) (fun j hj => by omega)
  · cases h

/-! ### first -/
theorem runs_fst_loop (xs : List (List D)) (i : Nat) (hi : i < xs.length) (hl : xs.length ≤ 281474976710656) : ∀ (d k : Nat), d + k = i → (∀ n ∈ (namesOf xs).take k, n ≠ cellS xs i 0) → Runs st3 (29, Try.f29, 0) fstk1 (fsts1 xs (i : Int) (k : Int)) (Is (.val (.bool (fstR xs (i : Int))))) := by
  intro d
  induction d with
  | zero =>
    intro k hd hk
    have hk' : k = i := by omega
    subst hk'
    refine Runs.of (fun n => fstp1 n _ _ _) ?_
    refine askF (decF (by omega)) (askT (inR hi) (is_refl ?_))
    rw [Int.toNat_natCast, bytes_eq]
    have : ((namesOf xs).take k).any (fun n => decide (n = cellS xs k 0)) = false := by
      rw [List.any_eq_false]
      exact fun n hn => by simpa using hk n hn
    rw [fstR, Int.toNat_natCast, this]
    rfl
  | succ d ih =>
    intro k hd hk
    refine Runs.of (fun n => fstp1 n _ _ _) ?_
    refine askT (decT (by omega)) (askT (inR (by omega)) (askT (inR hi) ?_))
    rw [Int.toNat_natCast, Int.toNat_natCast, bytes_eq]
    have hn := (name_mem (show k < xs.length by omega)).2
    refine ask (fun h => is_refl ?_) (fun h => ?_)
    · have h : cellS xs k 0 = cellS xs i 0 := of_decide_eq_true h
      have : ((namesOf xs).take i).any (fun n => decide (n = cellS xs i 0)) = true := by
        rw [List.any_eq_true]
        refine ⟨cellS xs k 0, List.mem_of_getElem? (i := k) ?_, by simpa using h⟩
        rw [List.getElem?_take, if_pos (by omega)]; exact hn
      rw [fstR, Int.toNat_natCast, this]
      rfl
    · have h : cellS xs k 0 ≠ cellS xs i 0 := of_decide_eq_false h
      rw [wrapS (by omega)]
      refine ih (k + 1) (by omega) (fun n hm => ?_)
      rw [take_snocJ _ _ _ hn] at hm
      rcases List.mem_append.1 hm with hm | hm
      · exact hk n hm
      · simp at hm; rw [hm]; exact h
theorem con_fst : ∀ vs outs r, eFst.pre vs outs = true → eFst.ans vs outs = some r → Contract Try.prog 29 vs outs r := by
  intro vs outs r hp h
  unfold eFst at h hp
  simp only at h hp
  split at h
  · rename_i cts xs i heq
    split at h
    · rename_i hc
      cases h
      rw [heq] at hp
      simp only [Bool.and_eq_true, decide_eq_true_eq, small] at hp
      obtain ⟨k, rfl⟩ : ∃ k : Nat, i = (k : Int) := ⟨i.toNat, by omega⟩
      refine Contract.cast (ks := [some [.str]]) ?_
      rw [heq, sameCTs_eq _ _ hc]
      refine st_con l3_ok Try.func29 (by kernel_rfl) (by kernel_rfl) rfl (by kernel_rfl) (by kernel_rfl) ?_
      refine Runs.of (fun n => fstp0 n xs _) ?_
      exact runs_fst_loop xs k (by omega) (by omega) k 0 (by omega) (fun n hn => by simp at hn)
    · cases h
  · cases h

/-! ### Texts -/
theorem zeroAt_some : ∀ {l : List (List D)} {k : Nat}, zeroAt l = some k → k < l.length ∧ ((l.getD k []).getD 0 default).toInt = 0 ∧ ∀ j, j < k → ((l.getD j []).getD 0 default).toInt ≠ 0
  | e :: r, k, h => by
    unfold zeroAt at h
    split at h
    · rename_i h0
      cases h
      exact ⟨by simp, by simpa using h0, fun j hj => by omega⟩
    · rename_i h0
      obtain ⟨k', h1, rfl⟩ := Option.map_eq_some_iff.1 h
      obtain ⟨a1, a2, a3⟩ := zeroAt_some h1
      refine ⟨by simp; omega, by simpa using a2, fun j hj => ?_⟩
      cases j with
      | zero => simpa using h0
      | succ j => simpa using a3 j (by omega)
theorem zeroAt_none : ∀ {l : List (List D)}, zeroAt l = none → ∀ j, j < l.length → ((l.getD j []).getD 0 default).toInt ≠ 0
  | e :: r, h, j, hj => by
    unfold zeroAt at h
    split at h
    · cases h
    · rename_i h0
      have h1 : zeroAt r = none := by simpa using h
      cases j with
      | zero => simpa using h0
      | succ j => simpa using zeroAt_none h1 j (by simpa using hj)
theorem zeroAt_of {l : List (List D)} {k : Nat} (hk : k < l.length) (h0 : ((l.getD k []).getD 0 default).toInt = 0) (hj : ∀ j, j < k → ((l.getD j []).getD 0 default).toInt ≠ 0) : zeroAt l = some k := by
  cases h : zeroAt l with
  | none => exact absurd h0 (zeroAt_none h k hk)
  | some k' =>
    obtain ⟨a1, a2, a3⟩ := zeroAt_some h
    rcases Nat.lt_trichotomy k k' with h1 | h1 | h1
    · exact absurd h0 (a3 k h1)
    · rw [h1]
    · exact absurd a2 (hj k' h1)
theorem drop_cell (xs : List (List D)) (a j : Nat) : ((xs.drop a).getD j []).getD 0 default = (xs.getD (a + j) []).getD 0 default := by
  rw [List.getD_eq_getElem?_getD (l := xs.drop a), List.getElem?_drop, ← List.getD_eq_getElem?_getD (l := xs)]
theorem runs_txt_loop (xs : List (List D)) (hl : xs.length ≤ 281474976710656) (a : Nat) : ∀ (d i : Nat), d + i = xs.length → a ≤ i → (∀ j, a ≤ j → j < i → cellI xs j 0 ≠ 0) → a < xs.length → Runs st3 (26, Try.f26, 0) txtk1 (txts1 xs (a : Int) (i : Int)) (Is (.tup [.val (.string (txtS xs (a : Int))), .val (.bool (txtB xs (a : Int)))])) := by
  intro d
  induction d with
  | zero =>
    intro i hd ha hz hal
    refine Runs.of (fun n => txtp1 n _ _ _) ?_
    refine askT (decT (by omega)) (askF (decF (by omega)) (is_refl ?_))
    have : txtK xs (a : Int) = none := by
      rw [txtK, if_neg (by omega), Int.toNat_natCast]
      cases h : zeroAt (xs.drop a) with
      | none => rfl
      | some k =>
        obtain ⟨a1, a2, -⟩ := zeroAt_some h
        rw [drop_cell] at a2
        rw [List.length_drop] at a1
        exact absurd a2 (hz (a + k) (by omega) (by omega))
    rw [txtS, txtB, this]
    rfl
  | succ d ih =>
    intro i hd ha hz hal
    refine Runs.of (fun n => txtp1 n _ _ _) ?_
    refine askT (decT (by omega)) (askT (decT (by omega)) (askT (inR (by omega)) ?_))
    rw [Int.toNat_natCast]
    refine ask (fun h => ?_) (fun h => ?_)
    · have h0 : cellI xs i 0 = 0 := by simpa using h
      refine askT (okB (by omega) (by omega) (by omega)) (is_refl ?_)
      have : txtK xs (a : Int) = some (i - a) := by
        rw [txtK, if_neg (by omega), Int.toNat_natCast]
        refine zeroAt_of (by rw [List.length_drop]; omega) ?_ (fun j hj => ?_)
        · rw [drop_cell, show a + (i - a) = i by omega]; exact h0
        · rw [drop_cell]; exact hz (a + j) (by omega) (by omega)
      rw [txtS, txtB, this]
      simp only [Option.isSome_some]
      rw [show (a : Int) + ((i - a : Nat) : Int) = (i : Int) by omega]
    · have h0 : cellI xs i 0 ≠ 0 := by simpa using h
      rw [wrapS (by omega)]
      refine ih (i + 1) (by omega) (by omega) (fun j h1 h2 => ?_) hal
      by_cases e : j = i
      · subst e; exact h0
      · exact hz j h1 (by omega)
theorem con_txt : ∀ vs outs r, eTxt.pre vs outs = true → eTxt.ans vs outs = some r → Contract Try.prog 26 vs outs r := by
  intro vs outs r hp h
  unfold eTxt at h hp
  simp only at h hp
  split at h
  · rename_i cts xs i heq
    split at h
    · rename_i hc
      cases h
      rw [heq] at hp
      have hl : xs.length ≤ 281474976710656 := by simpa [small] using hp
      refine Contract.cast (ks := [some u8s]) ?_
      rw [heq, sameCTs_eq _ _ hc]
      refine st_con l3_ok Try.func26 (by kernel_rfl) (by kernel_rfl) rfl (by kernel_rfl) (by kernel_rfl) ?_
      refine Runs.of (fun n => txtp0 n xs i) ?_
      by_cases h0 : 0 ≤ i
      · by_cases h1 : i < xs.length
        · obtain ⟨k, rfl⟩ : ∃ k : Nat, i = (k : Int) := ⟨i.toNat, by omega⟩
          exact runs_txt_loop xs hl k (xs.length - k) k (by omega) (by omega) (fun j h1 h2 => by omega) (by omega)
        · refine Runs.of (fun n => txtp1 n _ _ _) ?_
          refine askT (decT (by omega)) (askF (decF (by omega)) (is_refl ?_))
          have : txtK xs i = none := by rw [txtK, if_pos (.inr (by omega))]
          rw [txtS, txtB, this]; rfl
      · refine Runs.of (fun n => txtp1 n _ _ _) ?_
        refine askF (decF (by omega)) (is_refl ?_)
        have : txtK xs i = none := by rw [txtK, if_pos (.inl (by omega))]
        rw [txtS, txtB, this]; rfl
    · cases h
  · cases h

/-! ### Same -/
theorem runs_sam_loop (a b : List (List D)) (hl : a.length ≤ 281474976710656) (hab : a.length = b.length) : ∀ (d i : Nat), d + i = a.length → (∀ j, j < i → cellI a j 0 = cellI b j 0) → Runs st3 (19, Try.f19, 0) samk1 (sams1 a b (i : Int)) (Is (.val (.bool (sameR a b)))) := by
  intro d
  induction d with
  | zero =>
    intro i hd hz
    refine Runs.of (fun n => samp1 n _ _ _) ?_
    refine askF (decF (by omega)) (is_refl ?_)
    have : sameR a b = true := by
      simp only [sameR, Bool.and_eq_true, decide_eq_true_eq, List.all_eq_true, List.mem_range]
      exact ⟨hab, fun j hj => hz j (by omega)⟩
    rw [this]
  | succ d ih =>
    intro i hd hz
    refine Runs.of (fun n => samp1 n _ _ _) ?_
    refine askT (decT (by omega)) (askT (inR (by omega)) (askT (inR (by omega)) ?_))
    rw [Int.toNat_natCast]
    refine ask (fun h => is_refl ?_) (fun h => ?_)
    · have h0 : cellI a i 0 ≠ cellI b i 0 := by simpa using h
      have : sameR a b = false := by
        cases hs : sameR a b with
        | false => rfl
        | true =>
          simp only [sameR, Bool.and_eq_true, decide_eq_true_eq, List.all_eq_true, List.mem_range] at hs
          exact absurd (hs.2 i (by omega)) h0
      rw [this]
    · have h0 : cellI a i 0 = cellI b i 0 := by simpa using h
      rw [wrapS (by omega)]
      refine ih (i + 1) (by omega) (fun j hj => ?_)
      by_cases e : j = i
      · subst e; exact h0
      · exact hz j (by omega)
theorem con_sam : ∀ vs outs r, eSam.pre vs outs = true → eSam.ans vs outs = some r → Contract Try.prog 19 vs outs r := by
  intro vs outs r hp h
  unfold eSam at h hp
  simp only at h hp
  split at h
  · rename_i c1 a c2 b heq
    split at h
    · rename_i hc
      cases h
      rw [heq] at hp
      have hl : a.length ≤ 281474976710656 := by simpa [small] using hp
      rw [Bool.and_eq_true] at hc
      refine Contract.cast (ks := [some i64s, some i64s]) ?_
      rw [heq, sameCTs_eq _ _ hc.1, sameCTs_eq _ _ hc.2]
      refine st_con l3_ok Try.func19 (by kernel_rfl) (by kernel_rfl) rfl (by kernel_rfl) (by kernel_rfl) ?_
      refine Runs.of (fun n => samp0 n a b) ?_
      refine ask (fun h => is_refl ?_) (fun h => ?_)
      · have h0 : (a.length : Int) ≠ b.length := by simpa using h
        have : sameR a b = false := by
          rw [sameR, decide_eq_false (by omega), Bool.false_and]
        rw [this]
      · have h0 : (a.length : Int) = b.length := by simpa using h
        exact runs_sam_loop a b hl (by omega) a.length 0 (by omega) (fun j hj => by omega)
    · cases h
  · cases h
theorem l4_ok : ExtAll Try.prog l4 := .cons con_sam (.cons con_txt (.cons con_fst (.cons con_may (.add con_rck l3_ok))))

/-! ### Get -/
theorem runs_rgt (xs : List (List D)) (at_ : Int) : Runs st4 (18, Try.f18, 0) rgtk0 (rgts0 xs at_) (Is (.tup [.val (.string (rgetS xs at_)), .val (.int .i64 (getE xs at_))])) := by
  refine Runs.of (fun n => rgtp0 n xs at_) ?_
  have bad : (chkR xs ≠ 0 ∨ at_ < 0 ∨ (xs.length : Int) ≤ at_) → V.tup [.val (.string { data := #[] }), .val (.int .i64 8)] = V.tup [.val (.string (rgetS xs at_)), .val (.int .i64 (getE xs at_))] := fun h => by rw [rgetS, getE, if_pos h, if_pos h]; rfl
  refine ask (fun h => is_refl (bad (.inl (by simpa using h)))) (fun h1 => ?_)
  have h1 : chkR xs = 0 := by simpa using h1
  refine ask (fun h => is_refl (bad (.inr (.inl (by simpa using h))))) (fun h2 => ?_)
  refine ask (fun h => is_refl (bad (.inr (.inr (by simpa using h))))) (fun h3 => ?_)
  simp only [decide_eq_false_iff_not] at h2 h3
  obtain ⟨c1, c2, -⟩ := chkR_ok h1
  have hp : small xs.length = true := decT (by omega)
  refine askT hp (is_refl ?_)
  rw [rgetS, getE, if_neg, if_neg] <;> simp only [not_or, Classical.not_not] <;> exact ⟨h1, h2, by omega⟩
theorem con_rgt : ∀ vs outs r, eRget vs outs = some r → Contract Try.prog 18 vs outs r := by
  intro vs outs r h
  unfold eRget at h
  split at h
  · rename_i cts xs at_ heq
    split at h
    · rename_i hc
      cases h
      refine Contract.cast (ks := [some u8s]) ?_
      rw [heq, sameCTs_eq _ _ hc]
      exact st_con l4_ok Try.func18 (by kernel_rfl) (by kernel_rfl) rfl (by kernel_rfl) (by kernel_rfl) (runs_rgt xs at_)
    · cases h
  · cases h

/-! ### Table -/
theorem isIn_iff {U : List ByteArray} {s : ByteArray} : isIn U s = true ↔ s = .empty ∨ s ∈ U := by
  constructor
  · intro h
    obtain ⟨pre, post, -, -, h3, h4⟩ := place_ok h
    by_cases e : s = .empty
    · exact .inl e
    · obtain ⟨U1, U2, h5, -⟩ := h4 e
      exact .inr (by rw [h5]; simp)
  · rintro (h | h)
    · rw [h]; exact isIn_empty U
    · obtain ⟨U1, U2, rfl⟩ := List.append_of_mem h
      cases hs : isIn U1 s with
      | true => exact (plc_more hs).2
      | false =>
        have := (plc_more (V := U2) (plc_new hs).2).2
        simpa using this
/-- The names ahead of a place, each once. -/
def uqT (xs : List (List D)) (i : Nat) : List ByteArray := uq [] ((namesOf xs).take i)
theorem uqT_mem (xs : List (List D)) (i : Nat) (s : ByteArray) : isIn (uqT xs i) s = true ↔ s = .empty ∨ s ∈ (namesOf xs).take i := by
  obtain ⟨V, h1, -, h3, -, h5⟩ := uq_spec ((namesOf xs).take i) []
  rw [uqT, h1, List.nil_append]
  rw [List.nil_append] at h5
  constructor
  · intro h
    rcases isIn_iff.1 h with h | h
    · exact .inl h
    · exact .inr (h3 s h)
  · rintro (h | h)
    · rw [h]; exact isIn_empty V
    · exact h5 s h
theorem uqT_succ (xs : List (List D)) (i : Nat) (hi : i < xs.length) : uqT xs (i + 1) = if isIn (uqT xs i) (cellS xs i 0) then uqT xs i else uqT xs i ++ [cellS xs i 0] := by
  rw [uqT, take_snocJ _ _ _ (name_mem hi).2, uq_append]
  simp only [uq]
  rfl
theorem fstR_eq (xs : List (List D)) (i : Nat) (hi : i < xs.length) : fstR xs (i : Int) = !isIn (uqT xs i) (cellS xs i 0) := by
  have e : isIn (uqT xs i) (cellS xs i 0) = (((namesOf xs).take i).any (fun n => decide (n = cellS xs i 0)) || decide (cellS xs i 0 = .empty)) := by
    rw [Bool.eq_iff_iff, uqT_mem]
    simp only [Bool.or_eq_true, List.any_eq_true, decide_eq_true_eq]
    constructor
    · rintro (h | h)
      · exact .inr h
      · exact .inl ⟨_, h, rfl⟩
    · rintro (⟨n, h1, rfl⟩ | h)
      · exact .inr h1
      · exact .inl h
  rw [e, fstR, Int.toNat_natCast, Bool.not_or]
/-- The places of the names ahead. -/
def plcs (xs : List (List D)) (i : Nat) : List (List D) := ((namesOf xs).take i).map fun s => [.int (plc (uqT xs i) s)]
theorem plcs_length (xs : List (List D)) (i : Nat) (hi : i ≤ xs.length) : (plcs xs i).length = i := by simp [plcs, namesOf_length]; omega
theorem plcs_get (xs : List (List D)) (i k : Nat) (hi : i ≤ xs.length) (hk : k < i) : cellI (plcs xs i) k 0 = plc (uqT xs i) (cellS xs k 0) := by
  have : ((namesOf xs).take i)[k]? = some (cellS xs k 0) := by rw [List.getElem?_take, if_pos hk]; exact (name_mem (by omega)).2
  rw [plcs, cellI, List.getD_eq_getElem?_getD (l := List.map _ _), List.getElem?_map, this]
  rfl
theorem plcs_succ (xs : List (List D)) (i : Nat) (hi : i < xs.length) : plcs xs (i + 1) = plcs xs i ++ [[.int (plc (uqT xs (i + 1)) (cellS xs i 0))]] := by
  rw [plcs, take_snocJ _ _ _ (name_mem hi).2, List.map_append, plcs]
  congr 1
  apply List.map_congr_left
  intro s hs
  have h1 : isIn (uqT xs i) s = true := (uqT_mem xs i s).2 (.inr hs)
  rw [uqT_succ xs i hi]
  split
  · rfl
  · rw [(plc_more h1).1]
theorem tab_pre (xs : List (List D)) (i : Nat) (hi : i < xs.length) (hl : xs.length ≤ 1024) : (decide ((0 : Int) ≤ (i : Int)) && decide ((i : Int) < (xs.length : Int)) && small xs.length) = true := andT (inR hi) (decT (by omega))
theorem plc_none {xs : List (List D)} {i : Nat} {s : ByteArray} (h : isIn (uqT xs i) s = true) (hn : ∀ n ∈ (namesOf xs).take i, n ≠ s) : plc (uqT xs i) s = 0 := by
  rcases (uqT_mem xs i s).1 h with rfl | h
  · obtain ⟨pre, post, -, q2, q3, -⟩ := place_ok (isIn_empty (uqT xs i))
    rw [q2, q3 rfl]; rfl
  · exact absurd rfl (hn s h)
theorem uqT_len (xs : List (List D)) (hs : ∀ s ∈ namesOf xs, s.size ≤ 64) (i : Nat) : i ≤ xs.length → (tabOf (uqT xs i)).length ≤ 66 * (i + 1) := by
  induction i with
  | zero => intro _; simp [uqT, uq, tabOf, flat]
  | succ i ih =>
    intro hi
    rw [uqT_succ xs i (by omega)]
    have := ih (by omega)
    split
    · omega
    · rw [tab_snoc]
      have h1 := hs _ (name_mem (show i < xs.length by omega)).1
      simp only [List.length_append, bytesRow_length, List.length_cons, List.length_nil]
      omega
/-- The inner loop: the place of the first like name. -/
theorem runs_tab_in (xs : List (List D)) (hl : xs.length ≤ 1024) (i : Nat) (hi : i < xs.length) (h0 : 0 < i) (hin : isIn (uqT xs i) (cellS xs i 0) = true)
    (next : Runs st4 (25, Try.f25, 0) tabk2 (tabs2 xs (tabOf (uqT xs (i + 1))) (plcs xs (i + 1)) ((i + 1 : Nat) : Int)) (Is (.tup [.own u8s (tabOf (uqs xs)), .own i64s (plcs xs xs.length)]))) : ∀ (k : Nat) (n : Int), k ≤ i → ((∀ m ∈ (namesOf xs).take i, m ≠ cellS xs i 0) ∧ n = 0 ∨ (∃ j, k ≤ j ∧ j < i ∧ cellS xs j 0 = cellS xs i 0) ∧ n = plc (uqT xs i) (cellS xs i 0) ∨ n = 0 ∧ ∀ j, k ≤ j → j < i → cellS xs j 0 ≠ cellS xs i 0) →
    Runs st4 (25, Try.f25, 0) tabk4 (tabs4 xs (tabOf (uqT xs i)) (plcs xs i) (i : Int) n ((k : Int) - 1)) (Is (.tup [.own u8s (tabOf (uqs xs)), .own i64s (plcs xs xs.length)])) := by
  intro k
  induction k with
  | zero =>
    intro n hk hn
    refine Runs.of (fun m => tabp4 m _ _ _ _ _ _) ?_
    refine askF (decF (by omega)) ?_
    have hpl := plcs_length xs i (by omega)
    refine askT (andT (decT (by simp only [List.length_cons, List.length_nil]; omega)) (decT (by simp only [List.length_cons, List.length_nil]; omega))) ?_
    rw [wrapS (by omega)]
    have hu : uqT xs (i + 1) = uqT xs i := by rw [uqT_succ xs i hi, if_pos hin]
    have hn' : n = plc (uqT xs (i + 1)) (cellS xs i 0) := by
      rw [hu]
      rcases hn with ⟨h1, h2⟩ | ⟨-, h2⟩ | ⟨h1, h2⟩
      · rw [h2, plc_none hin h1]
      · exact h2
      · rw [h1, plc_none hin]
        intro m hm e
        obtain ⟨j, hj⟩ := List.getElem?_of_mem hm
        rw [List.getElem?_take] at hj
        split at hj
        · rename_i hji
          rw [(name_mem (show j < xs.length by omega)).2] at hj
          cases hj
          exact h2 j (by omega) hji e
        · cases hj
    have : plcs xs i ++ [[.int n]] = plcs xs (i + 1) := by rw [plcs_succ xs i hi, hn']
    rw [this]
    rw [hu] at next
    exact next
  | succ k ih =>
    intro n hk hn
    refine Runs.of (fun m => tabp4 m _ _ _ _ _ _) ?_
    have e1 : (((k + 1 : Nat) : Int) - 1) = (k : Int) := by omega
    rw [e1]
    have hpl := plcs_length xs i (by omega)
    refine askT (decT (by omega)) (askT (inR (by omega)) (askT (inR hi) ?_))
    rw [Int.toNat_natCast, Int.toNat_natCast, bytes_eq]
    have hw : IntKind.wrap .i64 ((k : Int) - 1) = (k : Int) - 1 := wrap64 (by omega) (by omega)
    rw [hw]
    refine ask (fun h => ?_) (fun h => ?_)
    · have h : cellS xs k 0 = cellS xs i 0 := of_decide_eq_true h
      refine askT (inR (by omega)) ?_
      rw [plcs_get xs i k (by omega) (by omega), h]
      exact ih _ (by omega) (.inr (.inl ⟨⟨k, Nat.le_refl k, by omega, h⟩, rfl⟩))
    · have h : cellS xs k 0 ≠ cellS xs i 0 := of_decide_eq_false h
      refine ih n (by omega) ?_
      rcases hn with hn | ⟨⟨j, a1, a2, a3⟩, a4⟩ | ⟨a1, a2⟩
      · exact .inl hn
      · exact .inr (.inl ⟨⟨j, by omega, a2, a3⟩, a4⟩)
      · refine .inr (.inr ⟨a1, fun j b1 b2 => ?_⟩)
        by_cases e : j = k
        · subst e; exact h
        · exact a2 j (by omega) b2
theorem runs_tab_out (xs : List (List D)) (hl : xs.length ≤ 1024) (hs : ∀ s ∈ namesOf xs, s.size ≤ 64) : ∀ (d i : Nat), d + i = xs.length → 0 < i →
    Runs st4 (25, Try.f25, 0) tabk2 (tabs2 xs (tabOf (uqT xs i)) (plcs xs i) (i : Int)) (Is (.tup [.own u8s (tabOf (uqs xs)), .own i64s (plcs xs xs.length)])) := by
  intro d
  induction d with
  | zero =>
    intro i hd h0
    refine Runs.of (fun n => tabp2 n _ _ _ _) ?_
    refine askF (decF (by omega)) (is_refl ?_)
    have : i = xs.length := by omega
    subst this
    have : uqT xs xs.length = uqs xs := by rw [uqT, List.take_of_length_le (by rw [namesOf_length]; omega)]; rfl
    rw [this]
  | succ d ih =>
    intro i hd h0
    have hi : i < xs.length := by omega
    refine Runs.of (fun n => tabp2 n _ _ _ _) ?_
    refine askT (decT (by omega)) (askT (tab_pre xs i hi hl) ?_)
    rw [fstR_eq xs i hi, Int.toNat_natCast]
    have hpl := plcs_length xs i (by omega)
    have htl := uqT_len xs hs i (by omega)
    have hsz := hs _ (name_mem hi).1
    have next := ih (i + 1) (by omega) (by omega)
    refine ask (fun h => ?_) (fun h => ?_)
    · have h := notT h
      refine askT (andT (decT (by simp only [List.length_cons, List.length_nil]; omega)) (decT (by simp only [List.length_cons, List.length_nil]; omega))) ?_
      refine askT (inR hi) ?_
      refine askT (andT (decT (by rw [bytesRow_length]; omega)) (decT (by rw [bytesRow_length]; omega))) ?_
      refine askT (andT (decT (by rw [List.length_append, bytesRow_length]; omega)) (decT (by rw [List.length_append, bytesRow_length]; omega))) ?_
      rw [wrapS (by omega)]
      have hu : uqT xs (i + 1) = uqT xs i ++ [cellS xs i 0] := by rw [uqT_succ xs i hi, if_neg (by rw [h]; simp)]
      rw [plcs_succ xs i hi, hu, tab_snoc, (plc_new h).1] at next
      exact next
    · have h := notF h
      have hw : IntKind.wrap .i64 ((i : Int) - 1) = (i : Int) - 1 := wrap64 (by omega) (by omega)
      rw [hw]
      exact runs_tab_in xs hl i hi h0 h next i 0 (by omega) (.inr (.inr ⟨rfl, fun j a b => by omega⟩))
theorem tab_nil1 {t : List (List D)} : Is (.tup [.own u8s t, .own i64s []]) (.tup [.own u8s t, .val nilSlice], []) := by
  refine ⟨.tup rfl fun i v v' hv hv' => ?_, rfl⟩
  match i with
  | 0 => simp at hv hv'; subst hv; subst hv'; exact .refl _
  | 1 => simp at hv hv'; subst hv; subst hv'; exact .nilOwn _
  | i + 2 => simp at hv
theorem runs_tab (xs : List (List D)) (hl : xs.length ≤ 1024) (hs : ∀ s ∈ namesOf xs, s.size ≤ 64) : Runs st4 (25, Try.f25, 0) tabk0 (tabs0 xs) (Is (.tup [.own u8s (tabOf (uqs xs)), .own i64s (plcs xs xs.length)])) := by
  refine Runs.of (fun n => tabp0 n xs) ?_
  refine Runs.of (fun n => tabp1 n _ _ _) ?_
  by_cases hx : xs.length = 0
  · refine askF (decF (by omega)) ?_
    have : xs = [] := List.eq_nil_of_length_eq_zero hx
    subst this
    exact tab_nil1
  have hi : 0 < xs.length := by omega
  have next := runs_tab_out xs hl hs (xs.length - 1) 1 (by omega) (by omega)
  have u0 : uqT xs 0 = [] := rfl
  refine askT (decT (by omega)) (askT (tab_pre xs 0 hi hl) ?_)
  have ef : fstR xs 0 = !isIn (uqT xs 0) (cellS xs 0 0) := fstR_eq xs 0 hi
  have z0 : Int.toNat (0 : Int) = 0 := rfl
  have hw1 : IntKind.wrap .i64 ((0 : Int) + 1) = ((1 : Nat) : Int) := by rw [wrap64 (by omega) (by omega)]; omega
  have hwm : IntKind.wrap .i64 ((0 : Int) - 1) = -1 := by rw [wrap64 (by omega) (by omega)]; omega
  have hsz := hs _ (name_mem hi).1
  rw [ef, z0, hw1, hwm]
  refine ask (fun h => ?_) (fun h => ?_)
  · have h := notT h
    refine askT (andT (decT (by omega)) (decT (by omega))) ?_
    refine askT (andT (decT (by rw [bytesRow_length]; simp only [List.length_cons, List.length_nil]; omega)) (decT (by rw [bytesRow_length]; simp only [List.length_cons, List.length_nil]; omega))) ?_
    refine askT (andT (decT (by rw [List.length_append, bytesRow_length]; simp only [List.length_cons, List.length_nil]; omega)) (decT (by rw [List.length_append, bytesRow_length]; simp only [List.length_cons, List.length_nil]; omega))) ?_
    have hu : uqT xs (0 + 1) = uqT xs 0 ++ [cellS xs 0 0] := by rw [uqT_succ xs 0 hi, if_neg (by rw [h]; simp)]
    have hp := plcs_succ xs 0 hi
    rw [hu, (plc_new h).1] at hp
    have e1 : uqT xs 1 = uqT xs 0 ++ [cellS xs 0 0] := hu
    have e2 : plcs xs 1 = [[.int 1]] := hp
    rw [e1, tab_snoc, e2] at next
    exact next
  · have h := notF h
    refine Runs.of (fun n => tabp3 n _ _ _ _ _) ?_
    refine askF (decF (by omega)) ?_
    rw [hw1]
    have hu : uqT xs (0 + 1) = uqT xs 0 := by rw [uqT_succ xs 0 hi, if_pos h]
    have hp := plcs_succ xs 0 hi
    rw [hu, plc_none h (by simp)] at hp
    have e1 : uqT xs 1 = uqT xs 0 := hu
    have e2 : plcs xs 1 = [[.int 0]] := hp
    rw [e1, e2] at next
    exact next
theorem con_tab : ∀ vs outs r, eTab.pre vs outs = true → eTab.ans vs outs = some r → Contract Try.prog 25 vs outs r := by
  intro vs outs r hp h
  unfold eTab at h hp
  simp only at h hp
  split at h
  · rename_i cts xs heq
    split at h
    · rename_i hc
      cases h
      rw [heq] at hp
      simp only [Bool.and_eq_true, decide_eq_true_eq, List.all_eq_true] at hp
      refine Contract.cast (ks := [some [.str]]) ?_
      rw [heq, sameCTs_eq _ _ hc]
      have e : (namesOf xs).map (fun s => [D.int (plc (uqs xs) s)]) = plcs xs xs.length := by
        rw [plcs, uqT, List.take_of_length_le (by rw [namesOf_length]; omega)]
        rfl
      rw [e]
      exact st_con l4_ok Try.func25 (by kernel_rfl) (by kernel_rfl) rfl (by kernel_rfl) (by kernel_rfl) (runs_tab xs hp.1 hp.2)
    · cases h
  · cases h
theorem l5_ok : ExtAll Try.prog l5 := .cons con_tab (.add con_rgt l4_ok)
end Go.Proofs.Ythloggdgdklgmaa.Ev
