/- StrtabReads, StrtabTails: the plain laws. -/
import Derived.Test.YthloggdgdklgmaaStC
import Derived.Test.YthloggdgdklgmaaArg
namespace Go.Proofs.Ythloggdgdklgmaa.Ev
open Go
set_option linter.unusedVariables false
set_option linter.unusedSimpArgs false
theorem good_u8 {xs : List (List D)} (h : Good (.arr u8s) (.arr xs)) {i : Nat} (hi : i < xs.length) : 0 ≤ cellI xs i 0 ∧ cellI xs i 0 < 256 := by
  cases h with
  | arr _ _ hl hn hg =>
    have := hg _ (List.getElem_mem hi) 0 (.int .u8) rfl
    unfold cellI
    rw [List.getD_eq_getElem?_getD (l := xs), List.getElem?_eq_getElem hi]
    simp only [Option.getD_some]
    generalize (xs[i]).getD 0 default = d at this
    cases this with
    | int _ n hw =>
      have e1 : IntKind.min .u8 = 0 := by decide
      have e2 : IntKind.max .u8 = 255 := by decide
      simp only [Lit.wf, e1, e2, Bool.and_eq_true, decide_eq_true_eq] at hw
      simp only [D.toInt]
      omega
theorem good_len {cs : List CT} {xs : List (List D)} (h : Good (.arr cs) (.arr xs)) : xs.length ≤ 140737488351232 := by cases h; assumption
theorem byte_zero {xs : List (List D)} (h : Good (.arr u8s) (.arr xs)) {i : Nat} (hi : i < xs.length) : (rowB xs)[i]? = some 0 ↔ cellI xs i 0 = 0 := by
  rw [rowB_get xs i hi]
  obtain ⟨h1, h2⟩ := good_u8 h hi
  simp only [Option.some.injEq]
  constructor
  · intro e
    have := congrArg UInt8.toNat e
    simp at this
    omega
  · intro e; rw [e]; rfl
theorem rowBytes_list (xs : List (List D)) : (rowBytes xs).data.toList = rowB xs := by rw [rowB_eq]; simp [rowBytes]
theorem rowBytes_size (xs : List (List D)) : (rowBytes xs).size = xs.length := by
  have : (rowBytes xs).data.toList.length = xs.length := by rw [rowBytes_list, rowB_length]
  simpa using this
/-- What Get tells where it tells something. -/
theorem get_ok {xs : List (List D)} {at_ : Int} (hc : chkR xs = 0) (h0 : 0 ≤ at_) (h1 : at_ < xs.length) : getE xs at_ = 0 ∧ ∃ k : Nat, getS xs at_ = rowBytes (cut xs at_ (at_ + k)) ∧ (getS xs at_).size = k ∧ (getS xs at_).data.toList = ((rowB xs).drop at_.toNat).take k ∧ at_ + k < xs.length ∧ (rowB xs)[at_.toNat + k]? = some 0 ∧ ∀ j, j < k → (rowB xs)[at_.toNat + j]? ≠ some 0 := by
  have hn : ¬ (chkR xs ≠ 0 ∨ at_ < 0 ∨ (xs.length : Int) ≤ at_) := by
    simp only [not_or, Classical.not_not]; exact ⟨hc, by omega, by omega⟩
  obtain ⟨k, k1, k2, k3, k4⟩ := get_ix hc h0 h1
  have e : getS xs at_ = rowBytes (cut xs at_ (at_ + k)) := by rw [getS, if_neg hn, k1]
  refine ⟨by rw [getE, if_neg hn], k, e, ?_, ?_, k2, k3, k4⟩
  · rw [e, rowBytes_size, cut_length h0 (by omega) (by omega)]; omega
  · rw [e, rowBytes_list, rowB_cut]
    unfold cut
    congr 1
    omega
theorem get_no {xs : List (List D)} {at_ : Int} (h : getE xs at_ ≠ 0) : getE xs at_ = 8 ∧ getS xs at_ = .empty ∧ (chkR xs ≠ 0 ∨ at_ < 0 ∨ (xs.length : Int) ≤ at_) := by
  by_cases hn : chkR xs ≠ 0 ∨ at_ < 0 ∨ (xs.length : Int) ≤ at_
  · exact ⟨by rw [getE, if_pos hn], by rw [getS, if_pos hn], hn⟩
  · rw [getE, if_neg hn] at h; exact absurd rfl h
theorem get_yes {xs : List (List D)} {at_ : Int} (h : getE xs at_ = 0) : chkR xs = 0 ∧ 0 ≤ at_ ∧ at_ < xs.length := by
  by_cases hn : chkR xs ≠ 0 ∨ at_ < 0 ∨ (xs.length : Int) ≤ at_
  · rw [getE, if_pos hn] at h; cases h
  · simp only [not_or, Classical.not_not] at hn; exact ⟨hn.1, by omega, by omega⟩
/-- The name behind is the name without its first byte. -/
theorem get_tail {xs : List (List D)} {at_ : Int} (hc : chkR xs = 0) (h0 : 0 ≤ at_) (h1 : at_ < xs.length) (hs : (getS xs at_).size ≠ 0) : getE xs (at_ + 1) = 0 ∧ getS xs (at_ + 1) = (getS xs at_).extract 1 (getS xs at_).size := by
  obtain ⟨-, k, -, k2, k3, k4, k5, k6⟩ := get_ok hc h0 h1
  obtain ⟨q1, q, -, q2, q3, q4, q5, q6⟩ := get_ok (at_ := at_ + 1) hc (by omega) (by omega)
  refine ⟨q1, ?_⟩
  have hq : q + 1 = k := by
    have e : (at_ + 1).toNat = at_.toNat + 1 := by omega
    rw [e] at q5 q6
    rcases Nat.lt_trichotomy (q + 1) k with h | h | h
    · exact absurd (by rw [← q5]; congr 1; omega) (k6 (q + 1) h)
    · exact h
    · have := q6 (k - 1) (by omega)
      rw [show at_.toNat + 1 + (k - 1) = at_.toNat + k by omega] at this
      exact absurd k5 this
  apply ByteArray.ext
  apply Array.ext'
  rw [q3, ByteArray.data_extract, Array.toList_extract, k3]
  rw [show (at_ + 1).toNat = at_.toNat + 1 by omega, k2]
  subst hq
  simp [List.extract, List.drop_take, List.drop_drop, Nat.add_comm, List.take_take]
theorem isB {b : Bool} (h : b = true) : Is (.val (.bool true)) (.val (.bool b), []) := by rw [h]; exact is_refl rfl
theorem runs_reads (xs : List (List D)) (at_ : Int) (hx : Good (.arr u8s) (.arr xs)) : Runs st3 (8, Try.f8, 0) rdsk0 (rdss0 xs at_) (Is (.val (.bool true))) := by
  refine Runs.of (fun n => rdsp0 n xs at_) ?_
  refine ask (fun h => isB rfl) (fun h70 => ?_)
  simp only [decide_eq_false_iff_not] at h70
  refine ask (fun h => ?_) (fun h => ?_)
  · have h : getE xs at_ ≠ 0 := by simpa using h
    obtain ⟨e1, e2, e3⟩ := get_no h
    refine askT (by rw [e2, bytes_eq]; exact decide_eq_true rfl) ?_
    refine ask (fun h => isB rfl) (fun hc => ask (fun h => isB rfl) (fun ha => isB (decT ?_)))
    simp only [decide_eq_false_iff_not, bne_eq_false_iff_eq] at hc ha
    rcases e3 with e3 | e3 | e3
    · exact absurd hc e3
    · exact absurd e3 ha
    · exact e3
  · have h : getE xs at_ = 0 := by simpa using h
    obtain ⟨hc, h0, h1⟩ := get_yes h
    obtain ⟨-, k, k1, k2, k3, k4, k5, k6⟩ := get_ok hc h0 h1
    refine askF (decF (by omega)) ?_
    rw [k2]
    have hw : IntKind.wrap .i64 (at_ + (k : Int)) = at_ + k := wrap64 (by omega) (by omega)
    have hw1 : IntKind.wrap .i64 (at_ + 1) = at_ + 1 := wrap64 (by omega) (by omega)
    rw [hw, hw1]
    refine askF (decF (by omega)) ?_
    refine askT (okB (by omega) (by omega) (by omega)) ?_
    refine askF (by rw [← k1]; simp) ?_
    refine askT (andT (decT (by omega)) (decT (by omega))) ?_
    refine askF ?_ ?_
    · have := (byte_zero hx (i := at_.toNat + k) (by omega)).1 k5
      rw [show (at_ + (k : Int)).toNat = at_.toNat + k by omega, this]
      rfl
    refine ask (fun h => isB rfl) (fun hk => ?_)
    have hk : k ≠ 0 := by simpa using hk
    obtain ⟨t1, t2⟩ := get_tail hc h0 h1 (by rw [k2]; exact hk)
    refine askT (by rw [t1]; rfl) ?_
    refine askT (okB (by omega) (by omega) (by omega)) (isB ?_)
    rw [t2, k2]
    simp
theorem con_reads (xs : List (List D)) (at_ : Int) (hx : Good (.arr u8s) (.arr xs)) (_ : (Lit.int .i64 at_).wf = true) : Contract Try.prog 8 [.arr u8s xs, .val (.int .i64 at_)] [] (.val (.bool true), []) :=
  st_con l3_ok Try.func8 (by kernel_rfl) (by kernel_rfl) rfl (by kernel_rfl) (by kernel_rfl) (runs_reads xs at_ hx)
end Go.Proofs.Ythloggdgdklgmaa.Ev
