/- Plain facts: numbers that fit, rows of bytes, where a byte is first. Arguments told as less (empty rows for nil, rows without their room, also within structs), and contracts made of runs. -/
import Derived.Test.YtacfehneeanlgaaDoorSym
import Derived.Laws.Strings
import Derived.Test.YtacfehneeanlgaaDoorArgS
namespace Go.Proofs.YtacfehneeanlgaaDoor.Ev
open Go
set_option linter.unusedVariables false
set_option linter.unusedSimpArgs false
theorem wrap64 {n : Int} (h1 : -9223372036854775808 ≤ n) (h2 : n ≤ 9223372036854775807) : IntKind.wrap .i64 n = n := by
  have e : IntKind.wrap .i64 n = if (n % 18446744073709551616 ≥ 9223372036854775808) then n % 18446744073709551616 - 18446744073709551616 else n % 18446744073709551616 := by
    simp [IntKind.wrap, IntKind.bits, IntKind.signed]
  rw [e]
  split <;> omega
theorem ix_cons (b : UInt8) (l : List UInt8) (c : UInt8) : Lib.indexByte (b :: l) c = if b = c then 0 else if Lib.indexByte l c = -1 then -1 else Lib.indexByte l c + 1 := by
  simp only [Lib.indexByte, beq_iff_eq]
theorem ix_found : ∀ {l : List UInt8} {c : UInt8}, c ∈ l → ∃ k : Nat, Lib.indexByte l c = (k : Int) ∧ k < l.length ∧ l[k]? = some c ∧ ∀ j, j < k → l[j]? ≠ some c
  | b :: l, c, h => by
    rw [ix_cons]
    by_cases e : b = c
    · subst e
      exact ⟨0, by simp, by simp, rfl, fun j hj => by omega⟩
    · have h' : c ∈ l := by
        rcases List.mem_cons.1 h with h | h
        · exact absurd h.symm e
        · exact h
      obtain ⟨k, h1, h2, h3, h4⟩ := ix_found h'
      rw [if_neg e, h1, if_neg (by omega)]
      refine ⟨k + 1, by simp, by simp; omega, by simpa using h3, fun j hj => ?_⟩
      cases j with
      | zero => simpa using e
      | succ j => simpa using h4 j (by omega)
theorem ix_none : ∀ {l : List UInt8} {c : UInt8}, c ∉ l → Lib.indexByte l c = -1
  | [], c, _ => rfl
  | b :: l, c, h => by
    rw [ix_cons, if_neg (fun e => h (by simp [e])), ix_none (fun e => h (by simp [e]))]
    rfl
theorem cut_get {α : Type} (xs : List α) (a : Nat) (h : Int) (hh : h ≤ xs.length) (j : Nat) (hj : (a : Int) + j < h) : (cut xs (a : Int) h)[j]? = xs[a + j]? := by
  unfold cut
  rw [List.getElem?_take, List.getElem?_drop]
  rw [if_pos (by simp only [Int.toNat_natCast]; omega)]
  simp
theorem getD_left {a b : List (List D)} {i : Nat} (h : i < a.length) : (a ++ b).getD i [] = a.getD i [] := by
  rw [List.getD_eq_getElem?_getD, List.getElem?_append_left h, List.getD_eq_getElem?_getD]
theorem getD_right {a b : List (List D)} {i : Nat} (h : a.length ≤ i) : (a ++ b).getD i [] = b.getD (i - a.length) [] := by
  rw [List.getD_eq_getElem?_getD, List.getElem?_append_right h, List.getD_eq_getElem?_getD]
theorem cellI_left {a b : List (List D)} {i j : Nat} (h : i < a.length) : cellI (a ++ b) i j = cellI a i j := by rw [cellI, getD_left h]; rfl
theorem cellI_right {a b : List (List D)} {i j : Nat} (h : a.length ≤ i) : cellI (a ++ b) i j = cellI b (i - a.length) j := by rw [cellI, getD_right h]; rfl
theorem cellS_left {a b : List (List D)} {i j : Nat} (h : i < a.length) : cellS (a ++ b) i j = cellS a i j := by rw [cellS, getD_left h]; rfl
theorem cellS_right {a b : List (List D)} {i j : Nat} (h : a.length ≤ i) : cellS (a ++ b) i j = cellS b (i - a.length) j := by rw [cellS, getD_right h]; rfl
theorem take_snocJ {α : Type} (U : List α) (j : Nat) (s : α) (h : U[j]? = some s) : U.take (j + 1) = U.take j ++ [s] := by
  rw [List.take_add_one, h]; rfl
theorem notT {b : Bool} (h : (!b) = true) : b = false := by cases b <;> simp_all
theorem notF {b : Bool} (h : (!b) = false) : b = true := by cases b <;> simp_all
theorem decT {p : Prop} [Decidable p] (h : p) : decide p = true := decide_eq_true h
theorem decF {p : Prop} [Decidable p] (h : ¬ p) : decide p = false := decide_eq_false h
theorem andT {a b : Bool} (h1 : a = true) (h2 : b = true) : (a && b) = true := by rw [h1, h2]; rfl
theorem okB {l h n : Int} (h0 : 0 ≤ l) (h1 : l ≤ h) (h2 : h ≤ n) : okBounds l h n = true := by simp [okBounds, h0, h1, h2]
theorem bytes_eq (a b : ByteArray) : (a.toList == b.toList) = decide (a = b) := by
  rw [ByteArray.toList_eq, ByteArray.toList_eq]
  by_cases h : a = b
  · subst h; simp
  · rw [decide_eq_false h, beq_eq_false_iff_ne]
    intro e
    exact h (ByteArray.ext (Array.ext' e))
end Go.Proofs.YtacfehneeanlgaaDoor.Ev
namespace Go.Proofs.YtacfehneeanlgaaDoor.Ev
open Go
set_option linter.unusedVariables false
set_option linter.unusedSimpArgs false
inductive CK where
  | no
  | sl (cs : List CT)
  | ag (l : List (Option (List CT)))
def normV : CK → V → V
  | .sl cs, v => castV (some cs) v
  | .ag l, .agg vs => .agg (castArgs l vs)
  | _, v => v
def normArgs : List CK → List V → List V
  | k :: ks, v :: vs => normV k v :: normArgs ks vs
  | _, vs => vs
theorem castV_cellP (k : Option (List CT)) {v : V} (h : v.cellP) : (castV k v).cellP := by
  unfold castV
  split <;> first | trivial | exact h
theorem normV_rel (k : CK) {v : V} {g : Gh} {w : World} {s : Slot} {c : Value} (h : VRel g w s v c) : VRel g w s (normV k v) c := by
  unfold normV
  split
  · exact castV_rel _ h
  · rename_i l vs
    cases h with
    | agg _ _ cs hl hf hx =>
      refine .agg _ _ cs (by rw [castArgs_length]; exact hl) (fun i v' hv' => ?_) (fun i v' c hv' hc => ?_)
      · have : ∀ (ks : List (Option (List CT))) (vs : List V) (i : Nat) (v' : V), (∀ (i : Nat) (v : V), vs[i]? = some v → v.cellP) → (castArgs ks vs)[i]? = some v' → v'.cellP := by
          intro ks
          induction ks with
          | nil => intro vs i v' hf h; exact hf i v' (by simpa [castArgs] using h)
          | cons k ks ih =>
            intro vs i v' hf h
            cases vs with
            | nil => simp [castArgs] at h
            | cons v vs =>
              cases i with
              | zero => simp [castArgs] at h; subst h; exact castV_cellP k (hf 0 v rfl)
              | succ i => exact ih vs i v' (fun i v h => hf (i + 1) v (by simpa using h)) (by simpa [castArgs] using h)
        exact this l vs i v' hf hv'
      · obtain ⟨v, hv, hx'⟩ := castArgs_get l vs i v' hv'
        exact hx' (hx i v c hv hc)
  · exact h
theorem normArgs_get : ∀ (ks : List CK) (vs : List V) (i : Nat) (v' : V), (normArgs ks vs)[i]? = some v' → ∃ v, vs[i]? = some v ∧ ∀ {g : Gh} {w : World} {s : Slot} {c : Value}, VRel g w s v c → VRel g w s v' c
  | [], vs, i, v', h => ⟨v', by simpa [normArgs] using h, fun h => h⟩
  | k :: ks, [], i, v', h => by simp [normArgs] at h
  | k :: ks, v :: vs, 0, v', h => by
    simp only [normArgs, List.getElem?_cons_zero, Option.some.injEq] at h
    subst h
    exact ⟨v, rfl, normV_rel k⟩
  | k :: ks, v :: vs, i + 1, v', h => by
    simp only [normArgs, List.getElem?_cons_succ] at h
    obtain ⟨u, hu, hx⟩ := normArgs_get ks vs i v' h
    exact ⟨u, by simpa using hu, hx⟩
theorem normArgs_length : ∀ (ks : List CK) (vs : List V), (normArgs ks vs).length = vs.length
  | [], _ => by simp [normArgs]
  | _ :: _, [] => by simp [normArgs]
  | _ :: ks, _ :: vs => by simp [normArgs, normArgs_length ks vs]
theorem Contract.norm {P : Program} {f : Nat} {ks : List CK} {vs : List V} {outs : List (List V)} {r : R} (h : Contract P f (normArgs ks vs) outs r) : Contract P f vs outs r := by
  intro g w cargs hh
  refine h g w cargs ⟨by rw [normArgs_length]; exact hh.size, fun i v' hv' => ?_, hh.boxes, hh.fresh, hh.loc, hh.mp, hh.mn, hh.out, hh.nones, hh.glob⟩
  obtain ⟨v, hv, hx⟩ := normArgs_get ks vs i v' hv'
  obtain ⟨c, hc, hr⟩ := hh.args i v hv
  exact ⟨c, hc, hx hr⟩
/-- A contract that speaks of arguments told as less. -/
def exN (ks : List CK) (g : List V → Option V) : ExtF := { pre := fun _ _ => true, ans := fun vs outs => match outs with | [] => (g (normArgs ks vs)).map fun v => (v, []) | _ => none }
/-- .. where something holds. -/
def exP (ks : List CK) (p : List V → Bool) (g : List V → Option V) : ExtF := { pre := fun vs outs => match outs with | [] => p (normArgs ks vs) | _ => true, ans := fun vs outs => match outs with | [] => (g (normArgs ks vs)).map fun v => (v, []) | _ => none }
theorem ExtAll.norm {P : Program} {l : List (Nat × ExtF)} {f : Nat} {ks : List CK} {g : List V → Option V} (h : ∀ (vs : List V) (v : V), g vs = some v → Contract P f vs [] (v, [])) (hl : ExtAll P l) : ExtAll P ((f, exN ks g) :: l) :=
  .cons (fun vs outs r _ h2 => by
    simp only [exN] at h2
    split at h2
    · obtain ⟨v, hv, rfl⟩ := Option.map_eq_some_iff.1 h2
      exact Contract.norm (h _ _ hv)
    · cases h2) hl
theorem ExtAll.normP {P : Program} {l : List (Nat × ExtF)} {f : Nat} {ks : List CK} {p : List V → Bool} {g : List V → Option V} (h : ∀ (vs : List V) (v : V), p vs = true → g vs = some v → Contract P f vs [] (v, [])) (hl : ExtAll P l) : ExtAll P ((f, exP ks p g) :: l) :=
  .cons (fun vs outs r h1 h2 => by
    simp only [exP] at h2 h1
    split at h2
    · obtain ⟨v, hv, rfl⟩ := Option.map_eq_some_iff.1 h2
      exact Contract.norm (h _ _ h1 hv)
    · cases h2) hl
abbrev u8s : List CT := [.int .u8]
abbrev i64s : List CT := [.int .i64]
abbrev Is (v : V) : R → Prop := fun r => Relax r.1 v ∧ r.2 = []
theorem is_refl {v v' : V} (h : v = v') : Is v' (v, []) := ⟨by rw [h]; exact .one (.one (.refl _)), rfl⟩
/-- A tuple whose parts say less. -/
theorem is_tup2 {a b a' b' : V} (h1 : Rx2 a a') (h2 : Rx2 b b') : Is (.tup [a', b']) (.tup [a, b], []) := by
  refine ⟨.tup rfl fun i v v' hv hv' => ?_, rfl⟩
  match i with
  | 0 => simp at hv hv'; subst hv; subst hv'; exact h1
  | 1 => simp at hv hv'; subst hv; subst hv'; exact h2
  | i + 2 => simp at hv
theorem is_tup3 {a b c a' b' c' : V} (h1 : Rx2 a a') (h2 : Rx2 b b') (h3 : Rx2 c c') : Is (.tup [a', b', c']) (.tup [a, b, c], []) := by
  refine ⟨.tup rfl fun i v v' hv hv' => ?_, rfl⟩
  match i with
  | 0 => simp at hv hv'; subst hv; subst hv'; exact h1
  | 1 => simp at hv hv'; subst hv; subst hv'; exact h2
  | 2 => simp at hv hv'; subst hv; subst hv'; exact h3
  | i + 3 => simp at hv
theorem rx_of {a b : V} (h : a = b) : Rx2 a b := by rw [h]; exact .one (.refl _)
theorem rx_nil {cs : List CT} {xs : List (List D)} (h : xs = []) : Rx2 (.val nilSlice) (.arr cs xs) := by subst h; exact .one (.nilArr _)
theorem rx_nilO {cs : List CT} {xs : List (List D)} (h : xs = []) : Rx2 (.val nilSlice) (.own cs xs) := by subst h; exact .one (.nilOwn _)
theorem rx_nilU {cs : List CT} {xs : List (List D)} (h : xs = []) : Rx2 (.val nilSlice) (.uni cs xs) := by subst h; exact .nilUni _
theorem is_one {a a' : V} (h : Rx2 a a') : Is a' (a, []) := ⟨.one h, rfl⟩
end Go.Proofs.YtacfehneeanlgaaDoor.Ev
