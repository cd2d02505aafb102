/- StrtabBack: the plain law. -/
import Derived.Test.YthloggdgdklgmaaStG
namespace Go.Proofs.Ythloggdgdklgmaa.Ev
open Go
set_option linter.unusedVariables false
set_option linter.unusedSimpArgs false
def rowsOfNames (U : List ByteArray) : List (List D) := U.map fun s => [.str s]
theorem namesOf_rows (U : List ByteArray) : namesOf (rowsOfNames U) = U := by
  simp only [namesOf, rowsOfNames, List.map_map]
  have : ((fun e : List D => (e.getD 0 default).toStr) ∘ fun s => [D.str s]) = id := by funext s; rfl
  rw [this, List.map_id]
theorem uqs_facts (xs : List (List D)) : uq [] (uqs xs) = uqs xs ∧ (∀ s ∈ uqs xs, s ∈ namesOf xs) ∧ (uqs xs).length ≤ xs.length := by
  obtain ⟨V, h1, h2, h3, h4, h5⟩ := uq_spec (namesOf xs) []
  simp only [List.nil_append] at h1 h2
  rw [uqs, h1]
  exact ⟨h2, h3, by rw [namesOf_length] at h4; exact h4⟩
theorem bld_self {xs : List (List D)} (h : (bldR xs).e = 0) : (bldR (rowsOfNames (uqs xs))).e = 0 ∧ (bldR (rowsOfNames (uqs xs))).t = tabOf (uqs xs) := by
  obtain ⟨h1, h2, h3, h4⟩ := bld_ok h
  obtain ⟨u1, u2, u3⟩ := uqs_facts xs
  have hu : uqs (rowsOfNames (uqs xs)) = uqs xs := by
    have : uqs (rowsOfNames (uqs xs)) = uq [] (namesOf (rowsOfNames (uqs xs))) := rfl
    rw [this, namesOf_rows, u1]
  have hb : (uqs xs).any bad = false := by
    rw [List.any_eq_false] at h2 ⊢
    exact fun s hs => h2 s (u2 s hs)
  have hl : (rowsOfNames (uqs xs)).length = (uqs xs).length := by simp [rowsOfNames]
  rw [bldR_eq, namesOf_rows, hu, if_neg (by omega), if_neg (by simp [hb]), if_neg (by omega)]
  exact ⟨rfl, rfl⟩
theorem take_snoc {α : Type} (U : List α) (j : Nat) (s : α) (h : U[j]? = some s) : U.take (j + 1) = U.take j ++ [s] := by
  rw [List.take_add_one, h]; rfl
theorem splitAtJ {α : Type} (U : List α) (j : Nat) (s : α) (h : U[j]? = some s) : U = U.take j ++ s :: U.drop (j + 1) := by
  obtain ⟨hj, e⟩ := List.getElem?_eq_some_iff.1 h
  conv => lhs; rw [← List.take_append_drop j U, List.drop_eq_getElem_cons hj, e]
theorem next_name {xs : List (List D)} (he : (bldR xs).e = 0) {j : Nat} {s : ByteArray} (hs : (uqs xs)[j]? = some s) :
    getE (tabOf (uqs xs)) ((tabOf ((uqs xs).take j)).length : Nat) = 0 ∧ getS (tabOf (uqs xs)) ((tabOf ((uqs xs).take j)).length : Nat) = s ∧ (tabOf ((uqs xs).take j)).length + s.size < (tabOf (uqs xs)).length ∧ (tabOf ((uqs xs).take (j + 1))).length = (tabOf ((uqs xs).take j)).length + s.size + 1 := by
  obtain ⟨h1, h2, h3, h4⟩ := bld_ok he
  obtain ⟨u1, u2, u3⟩ := uqs_facts xs
  have hb : bad s = false := by
    have := List.any_eq_false.1 h2 s (u2 s (List.mem_of_getElem? hs))
    simpa using this
  have ht : tabOf (uqs xs) = tabOf ((uqs xs).take j) ++ bytesRow s ++ [[.int 0]] ++ flat ((uqs xs).drop (j + 1)) := by
    conv => lhs; rw [splitAtJ _ _ _ hs]
    rw [tabOf, flat_append, flat_cons, tabOf]; simp
  obtain ⟨g1, g2, g3, -⟩ := get_place ht hb (chk_tab h3)
  refine ⟨g1, g2, g3, ?_⟩
  rw [take_snoc _ _ _ hs, tab_snoc]
  simp [bytesRow_length]; omega
theorem runs_back_3 (xs : List (List D)) (he : (bldR xs).e = 0) : ∀ (d j : Nat), d + j = (uqs xs).length →
    Runs st3 (7, Try.f7, 0) bckk3 (bcks3 true (tabOf (uqs xs)) (rowsOfNames ((uqs xs).take j)) ((tabOf ((uqs xs).take j)).length : Nat)) (Is (.val (.bool true))) := by
  obtain ⟨h1, h2, h3, h4⟩ := bld_ok he
  obtain ⟨u1, u2, u3⟩ := uqs_facts xs
  intro d
  induction d with
  | zero =>
    intro j hd
    have : (uqs xs).take j = uqs xs := List.take_of_length_le (by omega)
    rw [this]
    refine Runs.of (fun n => bckp3 n _ _ _ _) ?_
    refine askF (decF (by omega)) ?_
    obtain ⟨s1, s2⟩ := bld_self he
    refine askT rfl (askT (by rw [s1]; rfl) (isB ?_))
    rw [s2]; simp
  | succ d ih =>
    intro j hd
    obtain ⟨s, hs⟩ : ∃ s, (uqs xs)[j]? = some s := ⟨_, List.getElem?_eq_getElem (by omega)⟩
    obtain ⟨n1, n2, n3, n4⟩ := next_name he hs
    refine Runs.of (fun n => bckp3 n _ _ _ _) ?_
    refine askT (decT (by omega)) ?_
    refine askF (by rw [n1]; rfl) ?_
    rw [n2]
    have hl : (rowsOfNames ((uqs xs).take j)).length ≤ 1024 := by simp [rowsOfNames]; omega
    refine askT (andT (decT (by simp only [List.length_cons, List.length_nil]; omega)) (decT (by simp only [List.length_cons, List.length_nil]; omega))) ?_
    have hw : IntKind.wrap .i64 ((s.size : Int) + 1) = (s.size : Int) + 1 := wrap64 (by omega) (by omega)
    rw [hw]
    have hw2 : IntKind.wrap .i64 (((tabOf ((uqs xs).take j)).length : Nat) + ((s.size : Int) + 1)) = ((tabOf ((uqs xs).take (j + 1))).length : Nat) := by rw [wrap64 (by omega) (by omega), n4]; omega
    rw [hw2]
    have := ih (j + 1) (by omega)
    have hr : rowsOfNames ((uqs xs).take (j + 1)) = rowsOfNames ((uqs xs).take j) ++ [[.str s]] := by rw [take_snoc _ _ _ hs]; simp [rowsOfNames]
    rw [hr] at this
    exact this
theorem runs_back_2 (xs : List (List D)) (he : (bldR xs).e = 0) : Runs st3 (7, Try.f7, 0) bckk2 (bcks2 true (tabOf (uqs xs)) 1) (Is (.val (.bool true))) := by
  obtain ⟨h1, h2, h3, h4⟩ := bld_ok he
  refine Runs.of (fun n => bckp2 n _ _ _) ?_
  by_cases hu : uqs xs = []
  · rw [hu]
    refine askF (decF (by simp [tabOf, flat])) ?_
    refine askT rfl (isB ?_)
    simp [tabOf, flat]
  · have hpos : 0 < (uqs xs).length := List.length_pos_iff.2 hu
    obtain ⟨s, hs⟩ : ∃ s, (uqs xs)[0]? = some s := ⟨_, List.getElem?_eq_getElem hpos⟩
    obtain ⟨n1, n2, n3, n4⟩ := next_name he hs
    have e1 : (((tabOf ((uqs xs).take 0)).length : Nat) : Int) = 1 := by simp [tabOf, flat]
    rw [e1] at n1 n2
    have e1' : (tabOf ((uqs xs).take 0)).length = 1 := by omega
    rw [e1'] at n3 n4
    refine askT (decT (by omega)) ?_
    refine askF (by rw [n1]; rfl) ?_
    rw [n2]
    have hw : IntKind.wrap .i64 ((s.size : Int) + 1) = (s.size : Int) + 1 := wrap64 (by omega) (by omega)
    rw [hw]
    have hw2 : IntKind.wrap .i64 (1 + ((s.size : Int) + 1)) = ((tabOf ((uqs xs).take 1)).length : Nat) := by rw [wrap64 (by omega) (by omega), n4]; omega
    rw [hw2]
    have := runs_back_3 xs he ((uqs xs).length - 1) 1 (by omega)
    have hr : rowsOfNames ((uqs xs).take 1) = [[.str s]] := by rw [take_snoc _ _ _ hs]; simp [rowsOfNames]
    rw [hr] at this
    exact this
theorem runs_back_1 (xs : List (List D)) (he : (bldR xs).e = 0) : ∀ (d i : Nat), d + i = xs.length →
    Runs st3 (7, Try.f7, 0) bckk1 (bcks1 xs true (tabOf (uqs xs)) (bldR xs).p (i : Int)) (Is (.val (.bool true))) := by
  obtain ⟨h1, h2, h3, h4⟩ := bld_ok he
  have hpl := places_length he
  intro d
  induction d with
  | zero =>
    intro i hd
    refine Runs.of (fun n => bckp1 n _ _ _ _ _) ?_
    exact askF (decF (by omega)) (runs_back_2 xs he)
  | succ d ih =>
    intro i hd
    refine Runs.of (fun n => bckp1 n _ _ _ _ _) ?_
    obtain ⟨c1, c2, c3, c4, c5, c6⟩ := bld_get he (name_mem (show i < xs.length by omega)).1
    refine askT (decT (by omega)) ?_
    refine askT (andT (decT (by omega)) (decT (by omega))) ?_
    rw [Int.toNat_natCast, place_at he (show i < xs.length by omega), c4]
    refine askF (by rw [c3]; rfl) ?_
    refine askT (andT (decT (by omega)) (decT (by omega))) ?_
    refine askF (by simp) ?_
    have hw2 : IntKind.wrap .i64 ((i : Int) + 1) = ((i + 1 : Nat) : Int) := by rw [wrap64 (by omega) (by omega)]; omega
    rw [hw2]
    exact ih (i + 1) (by omega)
theorem runs_back (xs : List (List D)) : Runs st3 (7, Try.f7, 0) bckk0 (bcks0 xs) (Is (.val (.bool true))) := by
  refine Runs.of (fun n => bckp0 n xs) ?_
  refine ask (fun h => isB rfl) (fun _ => ?_)
  refine ask (fun he => ?_) (fun he => ?_)
  · have he : (bldR xs).e ≠ 0 := by simpa using he
    obtain ⟨e1, e2⟩ := bld_err he
    rw [e1, e2]
    exact askT rfl (isB rfl)
  have he : (bldR xs).e = 0 := by simpa using he
  obtain ⟨h1, h2, h3, h4⟩ := bld_ok he
  have hpl := places_length he
  refine askF (by rw [hpl]; simp) ?_
  have ht : (bldR xs).t = tabOf (uqs xs) := by rw [h4]
  rw [ht]
  refine askF (by rw [chk_tab h3]; rfl) ?_
  exact runs_back_1 xs he xs.length 0 (by omega)
theorem con_back (xs : List (List D)) (hx : Good (.arr [.str]) (.arr xs)) : Contract Try.prog 7 [.arr [.str] xs] [] (.val (.bool true), []) :=
  st_con l3_ok Try.func7 (by kernel_rfl) (by kernel_rfl) rfl (by kernel_rfl) (by kernel_rfl) (runs_back xs)
end Go.Proofs.Ythloggdgdklgmaa.Ev
