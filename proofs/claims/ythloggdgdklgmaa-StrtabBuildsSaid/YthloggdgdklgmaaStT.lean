/- StrtabTails: the plain law. -/
import Derived.Test.YthloggdgdklgmaaStR
namespace Go.Proofs.Ythloggdgdklgmaa.Ev
open Go
set_option linter.unusedVariables false
set_option linter.unusedSimpArgs false
/-- A told name's bytes stand in the table, and none is nought. -/
theorem get_byte {xs : List (List D)} (hx : Good (.arr u8s) (.arr xs)) {at_ : Int} (hc : chkR xs = 0) (h0 : 0 ≤ at_) (h1 : at_ < xs.length) {j : Nat} (hj : j < (getS xs at_).size) : byteAt (getS xs at_) (j : Int) = cellI xs (at_ + j).toNat 0 ∧ cellI xs (at_ + j).toNat 0 ≠ 0 := by
  obtain ⟨-, k, k1, k2, k3, k4, k5, k6⟩ := get_ok hc h0 h1
  rw [k2] at hj
  have hi : at_.toNat + j < xs.length := by omega
  have e : (at_ + (j : Int)).toNat = at_.toNat + j := by omega
  rw [e]
  obtain ⟨g1, g2⟩ := good_u8 hx hi
  have hb := rowB_get xs _ hi
  refine ⟨?_, fun hz => k6 j hj ((byte_zero hx hi).2 hz)⟩
  unfold byteAt
  rw [Int.toNat_natCast, k3, List.getD_eq_getElem?_getD, List.getElem?_take, if_pos hj, List.getElem?_drop, hb]
  simp only [Option.getD_some, UInt8.toNat_ofNat']
  omega
theorem runs_tails_loop (xs : List (List D)) (at_ : Int) (hx : Good (.arr u8s) (.arr xs)) (hl : xs.length ≤ 70000) (hc : chkR xs = 0) (h0 : 0 ≤ at_) (h1 : at_ < xs.length) : ∀ (d j : Nat), d + j = (getS xs at_).size →
    Runs st3 (9, Try.f9, 0) tlsk1 (tlss1 xs at_ true (getS xs at_) (j : Int)) (Is (.val (.bool true))) := by
  obtain ⟨-, k, k1, k2, k3, k4, k5, k6⟩ := get_ok hc h0 h1
  intro d
  induction d with
  | zero =>
    intro j hd
    refine Runs.of (fun n => tlsp1 n xs at_ true (getS xs at_) (j : Int)) ?_
    refine askF (decF (by omega)) ?_
    rw [k2]
    have hw : IntKind.wrap .i64 (at_ + (k : Int)) = at_ + k := wrap64 (by omega) (by omega)
    have hw1 : IntKind.wrap .i64 (at_ + 1) = at_ + 1 := wrap64 (by omega) (by omega)
    rw [hw, hw1]
    refine askF (decF (by omega)) ?_
    refine askT (andT (decT (by omega)) (decT (by omega))) ?_
    refine askF ?_ ?_
    · have := (byte_zero hx (i := at_.toNat + k) (by omega)).1 k5
      rw [show (at_ + (k : Int)).toNat = at_.toNat + k by omega, this]
      rfl
    refine ask (fun h => isB rfl) (fun hk => ?_)
    have hk : k ≠ 0 := by
      rintro rfl
      have : getS xs at_ = .empty := ByteArray.ext (Array.ext' (by rw [k3]; rfl))
      rw [this, bytes_eq] at hk
      exact of_decide_eq_false hk rfl
    obtain ⟨t1, t2⟩ := get_tail hc h0 h1 (by rw [k2]; exact hk)
    refine askT rfl ?_
    refine askT (by rw [t1]; rfl) ?_
    refine askT (okB (by omega) (by omega) (by omega)) (isB ?_)
    rw [t2, k2]
    simp
  | succ d ih =>
    intro j hd
    refine Runs.of (fun n => tlsp1 n xs at_ true (getS xs at_) (j : Int)) ?_
    obtain ⟨b1, b2⟩ := get_byte hx hc h0 h1 (j := j) (by omega)
    have hw : IntKind.wrap .i64 (at_ + (j : Int)) = at_ + j := wrap64 (by omega) (by omega)
    have hw1 : IntKind.wrap .i64 ((j : Int) + 1) = ((j + 1 : Nat) : Int) := by rw [wrap64 (by omega) (by omega)]; omega
    rw [hw, hw1]
    refine askT (decT (by omega)) ?_
    refine askT (andT (decT (by omega)) (decT (by omega))) ?_
    rw [b1]
    refine askF (by simpa using b2) ?_
    refine askT (andT (decT (by omega)) (decT (by omega))) ?_
    refine askT (andT (decT (by omega)) (decT (by omega))) ?_
    refine askF (by simp) ?_
    exact ih (j + 1) (by omega)
theorem runs_tails (xs : List (List D)) (at_ : Int) (hx : Good (.arr u8s) (.arr xs)) : Runs st3 (9, Try.f9, 0) tlsk0 (tlss0 xs at_) (Is (.val (.bool true))) := by
  refine Runs.of (fun n => tlsp0 n xs at_) ?_
  refine ask (fun h => isB rfl) (fun h70 => ?_)
  simp only [decide_eq_false_iff_not] at h70
  refine ask (fun h => ?_) (fun h => ?_)
  · have h : getE xs at_ ≠ 0 := by simpa using h
    obtain ⟨e1, e2, e3⟩ := get_no h
    refine askT (by rw [e2, bytes_eq]; exact decide_eq_true rfl) ?_
    refine askT (by rw [e1]; rfl) ?_
    refine ask (fun h => isB rfl) (fun hc => ask (fun h => isB rfl) (fun ha => isB (decT ?_)))
    simp only [decide_eq_false_iff_not, bne_eq_false_iff_eq] at hc ha
    rcases e3 with e3 | e3 | e3
    · exact absurd hc e3
    · exact absurd e3 ha
    · exact e3
  · have h : getE xs at_ = 0 := by simpa using h
    obtain ⟨hc, h0, h1⟩ := get_yes h
    exact runs_tails_loop xs at_ hx (by omega) hc h0 h1 (getS xs at_).size 0 (by omega)
theorem con_tails (xs : List (List D)) (at_ : Int) (hx : Good (.arr u8s) (.arr xs)) (_ : (Lit.int .i64 at_).wf = true) : Contract Try.prog 9 [.arr u8s xs, .val (.int .i64 at_)] [] (.val (.bool true), []) :=
  st_con l3_ok Try.func9 (by kernel_rfl) (by kernel_rfl) rfl (by kernel_rfl) (by kernel_rfl) (runs_tails xs at_ hx)
end Go.Proofs.Ythloggdgdklgmaa.Ev
