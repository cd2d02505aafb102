/- Names of a made table are read back at their places. -/
import Derived.Test.YthloggdgdklgmaaStB
namespace Go.Proofs.Ythloggdgdklgmaa.Ev
open Go
set_option linter.unusedVariables false
set_option linter.unusedSimpArgs false
theorem rowB_append (a b : List (List D)) : rowB (a ++ b) = rowB a ++ rowB b := by simp [rowB_eq]
theorem rowB_bytesRow (s : ByteArray) : rowB (bytesRow s) = s.data.toList := by
  rw [rowB_eq, bytesRow, List.map_map]
  have : ∀ l : List UInt8, l.map ((fun e : List D => UInt8.ofNat (e.getD 0 default).toInt.toNat) ∘ fun b => [D.int (b.toNat : Int)]) = l := by
    intro l
    induction l with
    | nil => rfl
    | cons b l ih => rw [List.map_cons, ih]; simp [D.toInt]
  exact this _
theorem no_nought {s : ByteArray} (h : bad s = false) : s.size ≤ 64 ∧ ∀ (i : Nat), s.data.toList[i]? ≠ some 0 := by
  simp only [bad, Bool.or_eq_false_iff, decide_eq_false_iff_not] at h
  refine ⟨by omega, fun i hi => h.2 ?_⟩
  obtain ⟨k, hk, -⟩ := ix_found (List.mem_of_getElem? hi)
  have : ixB s.data.toList 0 = (k : Int) := hk
  omega
theorem get_place {t pre post : List (List D)} {s : ByteArray} (ht : t = pre ++ bytesRow s ++ [[.int 0]] ++ post) (hb : bad s = false) (hc : chkR t = 0) :
    getE t ((pre.length : Nat) : Int) = 0 ∧ getS t ((pre.length : Nat) : Int) = s ∧ pre.length + s.size < t.length ∧ cellI t (pre.length + s.size) 0 = 0 := by
  have hl : t.length = pre.length + s.size + 1 + post.length := by rw [ht]; simp [bytesRow_length]; omega
  have hr : rowB t = rowB pre ++ (s.data.toList ++ (0 :: rowB post)) := by rw [ht, rowB_append, rowB_append, rowB_append, rowB_bytesRow]; simp [rowB_eq, D.toInt]
  have hsz : s.data.toList.length = s.size := by rw [Array.length_toList]; rfl
  have hp : (rowB pre).length = pre.length := rowB_length pre
  have at_ : ∀ j, j < s.size → (rowB t)[pre.length + j]? = s.data.toList[j]? := by
    intro j hj
    rw [hr, List.getElem?_append_right (by omega), List.getElem?_append_left (by omega)]
    congr 1; omega
  have at0 : (rowB t)[pre.length + s.size]? = some 0 := by
    rw [hr, List.getElem?_append_right (by omega), List.getElem?_append_right (by omega)]
    rw [show pre.length + s.size - (rowB pre).length - s.data.toList.length = 0 by omega]
    rfl
  obtain ⟨-, hz⟩ := no_nought hb
  obtain ⟨h1, k, k1, k2, k3, k4, k5, k6⟩ := get_ok (at_ := ((pre.length : Nat) : Int)) hc (by omega) (by omega)
  rw [Int.toNat_natCast] at k3 k5 k6
  have hk : k = s.size := by
    rcases Nat.lt_trichotomy k s.size with h | h | h
    · rw [at_ k h] at k5; exact absurd k5 (hz k)
    · exact h
    · exact absurd at0 (k6 _ h)
  refine ⟨h1, ?_, by omega, ?_⟩
  · apply ByteArray.ext
    apply Array.ext'
    rw [k3, hk]
    apply List.ext_getElem?
    intro j
    rw [List.getElem?_take, List.getElem?_drop]
    split
    · rename_i hj; exact at_ j hj
    · rename_i hj; rw [List.getElem?_eq_none (by omega)]
  · rw [ht, cellI]
    have : (pre ++ bytesRow s ++ [[D.int 0]] ++ post).getD (pre.length + s.size) [] = [D.int 0] := by
      rw [List.getD_eq_getElem?_getD, List.getElem?_append_left (by simp [bytesRow_length]), List.getElem?_append_right (by simp [bytesRow_length])]
      simp [bytesRow_length]
    rw [this]
    rfl
theorem chk_tab {U : List ByteArray} (h : (tabOf U).length ≤ 65536) : chkR (tabOf U) = 0 := by
  have h1 : 0 < (tabOf U).length := by simp [tabOf]
  have hlast : cellI (tabOf U) ((tabOf U).length - 1) 0 = 0 := by
    rcases List.eq_nil_or_concat U with rfl | ⟨V, s, rfl⟩
    · rfl
    · have e : tabOf (V ++ [s]) = (tabOf V ++ bytesRow s) ++ [[.int 0]] := tab_snoc V s
      have : V.concat s = V ++ [s] := by simp
      simp only [this] at *
      rw [e, cellI, List.getD_eq_getElem?_getD]
      simp [D.toInt]
  unfold chkR
  rw [if_neg]
  rintro (h2 | h2 | h2 | h2)
  · omega
  · omega
  · exact h2 rfl
  · exact h2 hlast
/-- What Build's answer bears. -/
theorem bld_get {xs : List (List D)} (h : (bldR xs).e = 0) {s : ByteArray} (hs : s ∈ namesOf xs) : let t := tabOf (uqs xs); let p := plc (uqs xs) s
    chkR t = 0 ∧ 0 ≤ p ∧ getE t p = 0 ∧ getS t p = s ∧ p + s.size < t.length ∧ cellI t (p + s.size).toNat 0 = 0 := by
  obtain ⟨h1, h2, h3, h4⟩ := bld_ok h
  have hc := chk_tab h3
  have hb : bad s = false := by
    cases hb : bad s with
    | false => rfl
    | true => rw [List.any_eq_true.2 ⟨s, hs, hb⟩] at h2; cases h2
  obtain ⟨pre, post, q1, q2, -⟩ := place_ok (isIn_all hs)
  obtain ⟨g1, g2, g3, g4⟩ := get_place q1 hb hc
  refine ⟨hc, by omega, by rw [q2]; exact g1, by rw [q2]; exact g2, by omega, ?_⟩
  rw [q2, show (((pre.length : Nat) : Int) + (s.size : Nat)).toNat = pre.length + s.size by omega]
  exact g4
theorem plc_inj {xs : List (List D)} (h : (bldR xs).e = 0) {s s' : ByteArray} (hs : s ∈ namesOf xs) (hs' : s' ∈ namesOf xs) (e : plc (uqs xs) s = plc (uqs xs) s') : s = s' := by
  have h1 := (bld_get h hs).2.2.2.1
  have h2 := (bld_get h hs').2.2.2.1
  rw [e] at h1
  exact h1.symm.trans h2
theorem name_mem {xs : List (List D)} {i : Nat} (hi : i < xs.length) : cellS xs i 0 ∈ namesOf xs ∧ (namesOf xs)[i]? = some (cellS xs i 0) := by
  have : (namesOf xs)[i]? = some (cellS xs i 0) := by
    have := congrArg List.head? (namesOf_drop xs i hi)
    simpa using this
  exact ⟨List.mem_of_getElem? this, this⟩
/-- The place of each name. -/
theorem place_at {xs : List (List D)} (h : (bldR xs).e = 0) {i : Nat} (hi : i < xs.length) : cellI (bldR xs).p i 0 = plc (uqs xs) (cellS xs i 0) := by
  obtain ⟨-, -, -, h4⟩ := bld_ok h
  rw [h4, cellI]
  simp only []
  rw [List.getD_eq_getElem?_getD (l := List.map _ _), List.getElem?_map, (name_mem hi).2]
  rfl
theorem places_length {xs : List (List D)} (h : (bldR xs).e = 0) : (bldR xs).p.length = xs.length := by
  obtain ⟨-, -, -, h4⟩ := bld_ok h
  rw [h4]; simp [namesOf_length]
end Go.Proofs.Ythloggdgdklgmaa.Ev
