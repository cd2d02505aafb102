/- StrtabOnce: the plain law. -/
import Derived.Test.YthloggdgdklgmaaStG
namespace Go.Proofs.Ythloggdgdklgmaa.Ev
open Go
set_option linter.unusedVariables false
set_option linter.unusedSimpArgs false
theorem uq_append : ∀ (L M U : List ByteArray), uq U (L ++ M) = uq (uq U L) M
  | [], M, U => rfl
  | s :: r, M, U => by
    simp only [List.cons_append, uq]
    split
    · exact uq_append r M U
    · exact uq_append r M _
theorem bad_empty : bad .empty = false := by decide +kernel
/-- Names that are told again change nothing. -/
theorem bld_again {xs : List (List D)} (h : (bldR xs).e = 0) {s : ByteArray} (hs : s ∈ namesOf xs) :
    (bldR (xs ++ [[.str s], [.str .empty]])).e ≠ 0 ∧ (bldR (xs ++ [[.str s], [.str .empty]])).e = 4 ∨
    (bldR (xs ++ [[.str s], [.str .empty]])).e = 0 ∧ (bldR (xs ++ [[.str s], [.str .empty]])).t = (bldR xs).t ∧ (bldR (xs ++ [[.str s], [.str .empty]])).p = (bldR xs).p ++ [[.int (plc (uqs xs) s)], [.int (plc (uqs xs) .empty)]] := by
  obtain ⟨h1, h2, h3, h4⟩ := bld_ok h
  have hn : namesOf (xs ++ [[.str s], [.str .empty]]) = namesOf xs ++ [s, .empty] := by simp [namesOf, D.toStr]
  have hu : uqs (xs ++ [[.str s], [.str .empty]]) = uqs xs := by
    have e1 : isIn (uq [] (namesOf xs)) s = true := isIn_all hs
    have e2 : isIn (uq [] (namesOf xs)) .empty = true := isIn_empty _
    rw [uqs, hn, uq_append, uq, if_pos e1, uq, if_pos e2, uq]
    rfl
  have hb : bad s = false := by
    cases hb : bad s with
    | false => rfl
    | true => rw [List.any_eq_true.2 ⟨s, hs, hb⟩] at h2; cases h2
  rw [bldR_eq (xs ++ _), hn, hu]
  by_cases hl : 1024 < (xs ++ [[D.str s], [D.str .empty]]).length
  · rw [if_pos hl]; exact .inl ⟨by simp, rfl⟩
  · rw [if_neg hl, if_neg (by simp [h2, hb, bad_empty]), if_neg (by omega), h4]
    exact .inr ⟨rfl, rfl, by simp⟩
theorem runs_once_in (xs q : List (List D)) (he : (bldR xs).e = 0) (hq : q.length = xs.length + 2) (hp : ∀ i, i < xs.length → cellI q i 0 = cellI (bldR xs).p i 0) (i : Nat) (hi : i < xs.length)
    (next : Runs st3 (4, Try.f4, 0) onck1 (oncs1 xs true (bldR xs).t (bldR xs).p q xs.length ((i + 1 : Nat) : Int)) (Is (.val (.bool true)))) : ∀ (d j : Nat), d + j = i →
    Runs st3 (4, Try.f4, 0) onck2 (oncs2 xs true (bldR xs).t (bldR xs).p q xs.length (i : Int) (j : Int)) (Is (.val (.bool true))) := by
  have hpl := places_length he
  obtain ⟨b1, -, b3, b4⟩ := bld_ok he
  intro d
  induction d with
  | zero =>
    intro j hd
    refine Runs.of (fun n => oncp2 n _ _ _ _ _ _ _ _) ?_
    refine askF (decF (by omega)) ?_
    have hi' : ∀ n : Nat, i < n → (decide ((0 : Int) ≤ (i : Int)) && decide ((i : Int) < (n : Int))) = true := fun n hn => andT (decT (by omega)) (decT (by omega))
    refine askT (hi' _ (by omega)) (askT (hi' _ (by omega)) ?_)
    rw [Int.toNat_natCast]
    refine askF (by rw [hp i hi]; simp) ?_
    refine askT (hi' _ (by omega)) (askT (hi' _ (by omega)) ?_)
    have hpa := place_at he hi
    obtain ⟨c1, c2, c3, c4, c5, c6⟩ := bld_get he (name_mem hi).1
    have ht : (bldR xs).t = tabOf (uqs xs) := by rw [b4]
    rw [hpa, ht]
    have hw : IntKind.wrap .i64 (plc (uqs xs) (cellS xs i 0) + ((cellS xs i 0).size : Nat)) = plc (uqs xs) (cellS xs i 0) + ((cellS xs i 0).size : Nat) := wrap64 (by omega) (by omega)
    rw [hw]
    refine askF (decF (by omega)) ?_
    refine askT (hi' _ (by omega)) (askT (hi' _ (by omega)) ?_)
    refine askT (andT (decT (by omega)) (decT (by omega))) ?_
    refine askF (by rw [c6]; rfl) ?_
    have hw2 : IntKind.wrap .i64 ((i : Int) + 1) = ((i + 1 : Nat) : Int) := by rw [wrap64 (by omega) (by omega)]; omega
    rw [hw2]
    rw [ht] at next
    exact next
  | succ d ih =>
    intro j hd
    refine Runs.of (fun n => oncp2 n _ _ _ _ _ _ _ _) ?_
    refine askT (decT (by omega)) ?_
    have hi' : ∀ m n : Nat, m < n → (decide ((0 : Int) ≤ (m : Int)) && decide ((m : Int) < (n : Int))) = true := fun m n hn => andT (decT (by omega)) (decT (by omega))
    refine askT (hi' _ _ (by omega)) (askT (hi' _ _ (by omega)) (askT (hi' _ _ (by omega)) (askT (hi' _ _ (by omega)) ?_)))
    rw [Int.toNat_natCast, Int.toNat_natCast]
    have hj : j < xs.length := by omega
    refine askF ?_ ?_
    · rw [place_at he hi, place_at he hj, bytes_eq]
      by_cases e : cellS xs i 0 = cellS xs j 0
      · rw [e]; simp
      · have : plc (uqs xs) (cellS xs i 0) ≠ plc (uqs xs) (cellS xs j 0) := fun h => e (plc_inj he (name_mem hi).1 (name_mem hj).1 h)
        simp [e, this]
    have hw2 : IntKind.wrap .i64 ((j : Int) + 1) = ((j + 1 : Nat) : Int) := by rw [wrap64 (by omega) (by omega)]; omega
    rw [hw2]
    exact ih (j + 1) (by omega)
theorem runs_once_out (xs q : List (List D)) (he : (bldR xs).e = 0) (hq : q.length = xs.length + 2) (hp : ∀ i, i < xs.length → cellI q i 0 = cellI (bldR xs).p i 0) : ∀ (d i : Nat), d + i = xs.length →
    Runs st3 (4, Try.f4, 0) onck1 (oncs1 xs true (bldR xs).t (bldR xs).p q xs.length (i : Int)) (Is (.val (.bool true))) := by
  obtain ⟨b1, -, b3, b4⟩ := bld_ok he
  have hc : chkR (bldR xs).t = 0 := by rw [b4]; exact chk_tab b3
  have fin : Tr.prop st3 (4, Try.f4, 0) (Is (.val (.bool true))) (.ask (true) (.ret (.val (.bool (chkR (bldR xs).t == (0 : Int))), [])) (.ret (.val (.bool (false)), []))) := askT rfl (isB (by rw [hc]; rfl))
  intro d
  induction d with
  | zero =>
    intro i hd
    refine Runs.of (fun n => oncp1 n _ _ _ _ _ _ _) ?_
    exact askF (decF (by omega)) fin
  | succ d ih =>
    intro i hd
    refine Runs.of (fun n => oncp1 n _ _ _ _ _ _ _) ?_
    refine askT (decT (by omega)) ?_
    refine ask (fun h => ?_) (fun h => fin)
    exact runs_once_in xs q he hq hp i (by omega) (ih (i + 1) (by omega)) i 0 (by omega)
theorem runs_once (xs : List (List D)) (ag : Int) (hg : ag ≤ 9223372036854775807) : Runs st3 (4, Try.f4, 0) onck0 (oncs0 xs ag) (Is (.val (.bool true))) := by
  refine Runs.of (fun n => oncp0 n xs ag) ?_
  refine ask (fun h => isB rfl) (fun _ => ?_)
  refine ask (fun h => isB rfl) (fun hl => ?_)
  refine ask (fun h => isB rfl) (fun ha => ?_)
  have hl : (xs.length : Int) ≠ 0 := by simpa using hl
  simp only [decide_eq_false_iff_not] at ha
  refine ask (fun he => ?_) (fun he => ?_)
  · have he : (bldR xs).e ≠ 0 := by simpa using he
    obtain ⟨e1, e2⟩ := bld_err he
    rw [e1, e2]
    exact askT rfl (isB rfl)
  have he : (bldR xs).e = 0 := by simpa using he
  obtain ⟨b1, -, b3, b4⟩ := bld_ok he
  have hpl := places_length he
  obtain ⟨j, hj, hjl⟩ : ∃ j : Nat, Int.tmod ag (xs.length : Int) = (j : Int) ∧ j < xs.length := by
    have h1 : 0 ≤ Int.tmod ag (xs.length : Int) := Int.tmod_nonneg _ (by omega)
    have h2 : Int.tmod ag (xs.length : Int) < xs.length := Int.tmod_lt_of_pos _ (by omega)
    exact ⟨(Int.tmod ag (xs.length : Int)).toNat, by omega, by omega⟩
  rw [hj, Int.toNat_natCast]
  have hmem := (name_mem hjl).1
  refine askT (andT (decT (by omega)) (decT (by omega))) ?_
  refine askT (decT hl) ?_
  refine askT (andT (decT (by omega)) (decT (by omega))) ?_
  refine askT (andT (decT (by simp only [List.length_cons, List.length_nil]; omega)) (decT (by simp only [List.length_cons, List.length_nil]; omega))) ?_
  rcases bld_again he hmem with ⟨e1, e2⟩ | ⟨e1, e2, e3⟩
  · have e2' : Bld.e (bldR (xs ++ [[D.str (cellS xs j 0)], [D.str { data := #[] }]])) = 4 := e2
    rw [e2']
    exact askT rfl (isB rfl)
  have e1' : Bld.e (bldR (xs ++ [[D.str (cellS xs j 0)], [D.str { data := #[] }]])) = 0 := e1
  have e2' : Bld.t (bldR (xs ++ [[D.str (cellS xs j 0)], [D.str { data := #[] }]])) = (bldR xs).t := e2
  have e3' : Bld.p (bldR (xs ++ [[D.str (cellS xs j 0)], [D.str { data := #[] }]])) = (bldR xs).p ++ [[.int (plc (uqs xs) (cellS xs j 0))], [.int (plc (uqs xs) .empty)]] := e3
  rw [e1', e2', e3']
  refine askF rfl ?_
  refine askF (by simp) ?_
  have hw : IntKind.wrap .i64 ((xs.length : Int) + 2) = (xs.length : Int) + 2 := wrap64 (by omega) (by omega)
  have hw1 : IntKind.wrap .i64 ((xs.length : Int) + 1) = (xs.length : Int) + 1 := wrap64 (by omega) (by omega)
  have hql : ((bldR xs).p ++ [[D.int (plc (uqs xs) (cellS xs j 0))], [D.int (plc (uqs xs) .empty)]]).length = xs.length + 2 := by simp [hpl]
  rw [hw, hw1, hql, hpl]
  refine askF (by simp) ?_
  refine askF (by simp) ?_
  refine askT (decT (by omega)) ?_
  refine askT (decT hl) ?_
  refine askT (andT (decT (by omega)) (decT (by omega))) ?_
  have c1 : cellI ((bldR xs).p ++ [[D.int (plc (uqs xs) (cellS xs j 0))], [D.int (plc (uqs xs) .empty)]]) xs.length 0 = plc (uqs xs) (cellS xs j 0) := by
    rw [cellI_right (by omega), hpl, Nat.sub_self]
    rfl
  have c2 : cellI ((bldR xs).p ++ [[D.int (plc (uqs xs) (cellS xs j 0))], [D.int (plc (uqs xs) .empty)]]) (xs.length + 1) 0 = 0 := by
    rw [cellI_right (by omega), hpl, show xs.length + 1 - xs.length = 1 by omega]
    obtain ⟨pre, post, -, q2, q3, -⟩ := place_ok (isIn_empty (uqs xs))
    have : plc (uqs xs) .empty = 0 := by rw [q2, q3 rfl]; rfl
    rw [← this]
    rfl
  refine askF (by rw [c1, place_at he hjl]; simp) ?_
  refine askT (andT (decT (by omega)) (decT (by omega))) ?_
  rw [show ((xs.length : Int) + 1).toNat = xs.length + 1 by omega, c2]
  refine askF rfl ?_
  refine runs_once_out xs _ he hql (fun i hi => ?_) xs.length 0 (by omega)
  exact cellI_left (by omega)
theorem con_once (xs : List (List D)) (ag : Int) (hx : Good (.arr [.str]) (.arr xs)) (hw : (Lit.int .i64 ag).wf = true) : Contract Try.prog 4 [.arr [.str] xs, .val (.int .i64 ag)] [] (.val (.bool true), []) := by
  have hg : ag ≤ 9223372036854775807 := by
    have e2 : IntKind.max .i64 = 9223372036854775807 := by decide
    simp only [Lit.wf, e2, Bool.and_eq_true, decide_eq_true_eq] at hw
    exact hw.2
  exact st_con l3_ok Try.func4 (by kernel_rfl) (by kernel_rfl) rfl (by kernel_rfl) (by kernel_rfl) (runs_once xs ag hg)
end Go.Proofs.Ythloggdgdklgmaa.Ev
