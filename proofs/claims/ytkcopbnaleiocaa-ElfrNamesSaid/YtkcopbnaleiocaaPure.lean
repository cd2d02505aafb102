/- Plain facts: numbers that fit, rows of bytes, where a byte is first. -/
import Derived.Test.YtkcopbnaleiocaaSym
import Derived.Laws.Strings
namespace Go.Proofs.Ytkcopbnaleiocaa.Ev
open Go
set_option linter.unusedVariables false
set_option linter.unusedSimpArgs false
theorem wrap64 {n : Int} (h1 : -9223372036854775808 ≤ n) (h2 : n ≤ 9223372036854775807) : IntKind.wrap .i64 n = n := by
  have e : IntKind.wrap .i64 n = if (n % 18446744073709551616 ≥ 9223372036854775808) then n % 18446744073709551616 - 18446744073709551616 else n % 18446744073709551616 := by
    simp [IntKind.wrap, IntKind.bits, IntKind.signed]
  rw [e]
  split <;> omega
theorem ix_cons (b : UInt8) (l : List UInt8) (c : UInt8) : Lib.indexByte (b :: l) c = if b = c then 0 else if Lib.indexByte l c = -1 then -1 else Lib.indexByte l c + 1 := by
  simp only [Lib.indexByte, beq_iff_eq]
theorem ix_found : ∀ {l : List UInt8} {c : UInt8}, c ∈ l → ∃ k : Nat, Lib.indexByte l c = (k : Int) ∧ k < l.length ∧ l[k]? = some c ∧ ∀ j, j < k → l[j]? ≠ some c
  | b :: l, c, h => by
    rw [ix_cons]
    by_cases e : b = c
    · subst e
      exact ⟨0, by simp, by simp, rfl, fun j hj => by omega⟩
    · have h' : c ∈ l := by
        rcases List.mem_cons.1 h with h | h
        · exact absurd h.symm e
        · exact h
      obtain ⟨k, h1, h2, h3, h4⟩ := ix_found h'
      rw [if_neg e, h1, if_neg (by omega)]
      refine ⟨k + 1, by simp, by simp; omega, by simpa using h3, fun j hj => ?_⟩
      cases j with
      | zero => simpa using e
      | succ j => simpa using h4 j (by omega)
theorem ix_none : ∀ {l : List UInt8} {c : UInt8}, c ∉ l → Lib.indexByte l c = -1
  | [], c, _ => rfl
  | b :: l, c, h => by
    rw [ix_cons, if_neg (fun e => h (by simp [e])), ix_none (fun e => h (by simp [e]))]
    rfl
theorem cut_get {α : Type} (xs : List α) (a : Nat) (h : Int) (hh : h ≤ xs.length) (j : Nat) (hj : (a : Int) + j < h) : (cut xs (a : Int) h)[j]? = xs[a + j]? := by
  unfold cut
  rw [List.getElem?_take, List.getElem?_drop]
  rw [if_pos (by simp only [Int.toNat_natCast]; omega)]
  simp
theorem getD_left {a b : List (List D)} {i : Nat} (h : i < a.length) : (a ++ b).getD i [] = a.getD i [] := by
  rw [List.getD_eq_getElem?_getD, List.getElem?_append_left h, List.getD_eq_getElem?_getD]
theorem getD_right {a b : List (List D)} {i : Nat} (h : a.length ≤ i) : (a ++ b).getD i [] = b.getD (i - a.length) [] := by
  rw [List.getD_eq_getElem?_getD, List.getElem?_append_right h, List.getD_eq_getElem?_getD]
theorem cellI_left {a b : List (List D)} {i j : Nat} (h : i < a.length) : cellI (a ++ b) i j = cellI a i j := by rw [cellI, getD_left h]; rfl
theorem cellI_right {a b : List (List D)} {i j : Nat} (h : a.length ≤ i) : cellI (a ++ b) i j = cellI b (i - a.length) j := by rw [cellI, getD_right h]; rfl
theorem cellS_left {a b : List (List D)} {i j : Nat} (h : i < a.length) : cellS (a ++ b) i j = cellS a i j := by rw [cellS, getD_left h]; rfl
theorem cellS_right {a b : List (List D)} {i j : Nat} (h : a.length ≤ i) : cellS (a ++ b) i j = cellS b (i - a.length) j := by rw [cellS, getD_right h]; rfl
theorem take_snocJ {α : Type} (U : List α) (j : Nat) (s : α) (h : U[j]? = some s) : U.take (j + 1) = U.take j ++ [s] := by
  rw [List.take_add_one, h]; rfl
theorem notT {b : Bool} (h : (!b) = true) : b = false := by cases b <;> simp_all
theorem notF {b : Bool} (h : (!b) = false) : b = true := by cases b <;> simp_all
theorem decT {p : Prop} [Decidable p] (h : p) : decide p = true := decide_eq_true h
theorem decF {p : Prop} [Decidable p] (h : ¬ p) : decide p = false := decide_eq_false h
theorem andT {a b : Bool} (h1 : a = true) (h2 : b = true) : (a && b) = true := by rw [h1, h2]; rfl
theorem okB {l h n : Int} (h0 : 0 ≤ l) (h1 : l ≤ h) (h2 : h ≤ n) : okBounds l h n = true := by simp [okBounds, h0, h1, h2]
theorem bytes_eq (a b : ByteArray) : (a.toList == b.toList) = decide (a = b) := by
  rw [ByteArray.toList_eq, ByteArray.toList_eq]
  by_cases h : a = b
  · subst h; simp
  · rw [decide_eq_false h, beq_eq_false_iff_ne]
    intro e
    exact h (ByteArray.ext (Array.ext' e))
end Go.Proofs.Ytkcopbnaleiocaa.Ev
