/- What strtab.Build makes, told without its map: the names one behind the other, each once. -/
import Derived.Test.YthloggdgdklgmaaStT
namespace Go.Proofs.Ythloggdgdklgmaa.Ev
open Go
set_option linter.unusedVariables false
set_option linter.unusedSimpArgs false
def flat (U : List ByteArray) : List (List D) := U.flatMap fun s => bytesRow s ++ [[.int 0]]
def tabOf (U : List ByteArray) : List (List D) := [.int 0] :: flat U
def mpGo : Nat → List ByteArray → List (List D)
  | _, [] => []
  | q, s :: U => [.str s, .int q] :: mpGo (q + s.size + 1) U
def mpOf (U : List ByteArray) : List (List D) := [.str .empty, .int 0] :: mpGo 1 U
def isIn (U : List ByteArray) (s : ByteArray) : Bool := hasD .str (.string s) (mpOf U)
def plc (U : List ByteArray) (s : ByteArray) : Int := (lookD .str (.string s) (.int 0) (mpOf U)).toInt
def uq : List ByteArray → List ByteArray → List ByteArray
  | U, [] => U
  | U, s :: r => if isIn U s then uq U r else uq (U ++ [s]) r
theorem flat_append (U V : List ByteArray) : flat (U ++ V) = flat U ++ flat V := by simp [flat]
theorem flat_cons (s : ByteArray) (V : List ByteArray) : flat (s :: V) = bytesRow s ++ [[.int 0]] ++ flat V := by simp [flat]
theorem tab_snoc (U : List ByteArray) (s : ByteArray) : tabOf (U ++ [s]) = tabOf U ++ bytesRow s ++ [[.int 0]] := by
  simp only [tabOf, flat_append, flat_cons]
  simp [flat]
theorem mpGo_append (U V : List ByteArray) : ∀ q, mpGo q (U ++ V) = mpGo q U ++ mpGo (q + (flat U).length) V := by
  induction U with
  | nil => intro q; simp [mpGo, flat]
  | cons s U ih =>
    intro q
    simp only [List.cons_append, mpGo, ih, flat_cons, List.length_append, bytesRow_length]
    congr 3
    simp
    omega
theorem tab_length (U : List ByteArray) : (tabOf U).length = 1 + (flat U).length := by simp [tabOf]; omega
theorem mp_snoc (U : List ByteArray) (s : ByteArray) : mpOf (U ++ [s]) = mpOf U ++ [[.str s, .int ((tabOf U).length : Nat)]] := by
  simp only [mpOf, mpGo_append, mpGo, tab_length]
  rfl
theorem key_str (s : ByteArray) (d : D) : keyIs .str (.string s) d = true ↔ s = d.toStr := by
  show (s == d.toStr) = true ↔ _
  have e : ∀ a b : Array UInt8, ((⟨a⟩ : ByteArray) == ⟨b⟩) = (a == b) := fun a b => rfl
  generalize d.toStr = t
  constructor
  · intro h
    cases s; cases t
    rw [e] at h
    rw [beq_iff_eq.1 h]
  · rintro rfl
    cases s
    rw [e]; simp
theorem findRow_append {k : Value} {kc : CT} {e : List D} : ∀ {A B : List (List D)}, findRow kc k A = some e → findRow kc k (A ++ B) = some e
  | x :: A, B, h => by
    simp only [findRow, List.cons_append] at h ⊢
    split
    · rename_i hk; rw [if_pos hk] at h; exact h
    · rename_i hk; rw [if_neg hk] at h; exact findRow_append h
theorem findRow_append_none {k : Value} {kc : CT} : ∀ {A B : List (List D)}, findRow kc k A = none → findRow kc k (A ++ B) = findRow kc k B
  | [], B, h => rfl
  | x :: A, B, h => by
    simp only [findRow, List.cons_append] at h ⊢
    split
    · rename_i hk; rw [if_pos hk] at h; cases h
    · rename_i hk; rw [if_neg hk] at h; exact findRow_append_none h
theorem setRow_none {k : Value} {kc : CT} {n : List D} : ∀ {A : List (List D)}, findRow kc k A = none → setRow kc k n A = A ++ [n]
  | [], h => rfl
  | x :: A, h => by
    simp only [findRow] at h
    simp only [setRow]
    split
    · rename_i hk; rw [if_pos hk] at h; cases h
    · rename_i hk; rw [if_neg hk] at h; rw [setRow_none h]; rfl
theorem find_mpGo {s : ByteArray} {e : List D} : ∀ {U : List ByteArray} {q : Nat}, findRow .str (.string s) (mpGo q U) = some e → ∃ U1 U2, U = U1 ++ s :: U2 ∧ e = [.str s, .int ((q + (flat U1).length : Nat) : Int)]
  | x :: U, q, h => by
    simp only [mpGo, findRow] at h
    split at h
    · rename_i hk
      have hk := (key_str s _).1 hk
      simp only [List.getD_cons_zero, D.toStr] at hk
      subst hk
      cases h
      exact ⟨[], U, rfl, by simp [flat]⟩
    · obtain ⟨U1, U2, h1, h2⟩ := find_mpGo h
      refine ⟨x :: U1, U2, by rw [h1]; rfl, ?_⟩
      rw [h2, flat_cons]
      simp only [List.length_append, bytesRow_length, List.length_cons, List.length_nil]
      congr 4
      omega
theorem isIn_find {U : List ByteArray} {s : ByteArray} (h : isIn U s = true) : ∃ e, findRow .str (.string s) (mpOf U) = some e := Option.isSome_iff_exists.1 h
theorem isIn_none {U : List ByteArray} {s : ByteArray} (h : isIn U s = false) : findRow .str (.string s) (mpOf U) = none := by
  unfold isIn hasD at h
  simpa using h
/-- A place's name stands there. -/
theorem place_ok {U : List ByteArray} {s : ByteArray} (h : isIn U s = true) : ∃ pre post, tabOf U = pre ++ bytesRow s ++ [[.int 0]] ++ post ∧ plc U s = ((pre.length : Nat) : Int) ∧ (s = .empty → pre = []) ∧ (s ≠ .empty → ∃ U1 U2, U = U1 ++ s :: U2 ∧ pre = tabOf U1) := by
  obtain ⟨e, he⟩ := isIn_find h
  have he0 := he
  simp only [mpOf, findRow] at he
  split at he
  · rename_i hk
    have hk := (key_str s _).1 hk
    simp only [List.getD_cons_zero, D.toStr] at hk
    subst hk
    cases he
    refine ⟨[], flat U, by simp [tabOf, bytesRow], ?_, fun _ => rfl, fun h => absurd rfl h⟩
    simp [plc, lookD, he0, D.toInt]
  · rename_i hk
    obtain ⟨U1, U2, h1, h2⟩ := find_mpGo he
    refine ⟨tabOf U1, flat U2, ?_, ?_, fun hs => ?_, fun _ => ⟨U1, U2, h1, rfl⟩⟩
    · rw [h1, tabOf, flat_append, flat_cons, tabOf]; simp
    · simp only [plc, lookD, he0, h2, D.toInt, tab_length]
      rfl
    · exact absurd ((key_str s _).2 (by simp [D.toStr, hs])) hk
theorem plc_more {U V : List ByteArray} {s : ByteArray} (h : isIn U s = true) : plc (U ++ V) s = plc U s ∧ isIn (U ++ V) s = true := by
  obtain ⟨e, he⟩ := isIn_find h
  have : findRow .str (.string s) (mpOf (U ++ V)) = some e := by
    rw [mpOf, mpGo_append]
    exact findRow_append (A := mpOf U) he
  exact ⟨by simp only [plc, lookD, this, he], by simp [isIn, hasD, this]⟩
theorem plc_new {U : List ByteArray} {s : ByteArray} (h : isIn U s = false) : plc (U ++ [s]) s = ((tabOf U).length : Nat) ∧ isIn (U ++ [s]) s = true := by
  have : findRow .str (.string s) (mpOf (U ++ [s])) = some [.str s, .int ((tabOf U).length : Nat)] := by
    rw [mp_snoc, findRow_append_none (isIn_none h)]
    simp only [findRow]
    rw [if_pos ((key_str s _).2 (by simp [D.toStr]))]
  exact ⟨by simp [plc, lookD, this, D.toInt], by simp [isIn, hasD, this]⟩
theorem uq_append : ∀ (L M U : List ByteArray), uq U (L ++ M) = uq (uq U L) M
  | [], M, U => rfl
  | s :: r, M, U => by
    simp only [List.cons_append, uq]
    split
    · exact uq_append r M U
    · exact uq_append r M _
theorem uq_spec : ∀ (L U : List ByteArray), ∃ V, uq U L = U ++ V ∧ uq U V = U ++ V ∧ (∀ s ∈ V, s ∈ L) ∧ V.length ≤ L.length ∧ ∀ s ∈ L, isIn (U ++ V) s = true
  | [], U => ⟨[], by simp [uq], by simp [uq], by simp, by simp, by simp⟩
  | s :: r, U => by
    cases hs : isIn U s with
    | true =>
      obtain ⟨V, h1, h2, h3, h4, h5⟩ := uq_spec r U
      refine ⟨V, by rw [uq, if_pos hs]; exact h1, h2, fun x hx => List.mem_cons_of_mem _ (h3 x hx), by simp; omega, fun x hx => ?_⟩
      rcases List.mem_cons.1 hx with rfl | hx
      · exact (plc_more hs).2
      · exact h5 x hx
    | false =>
      obtain ⟨V, h1, h2, h3, h4, h5⟩ := uq_spec r (U ++ [s])
      refine ⟨s :: V, ?_, ?_, fun x hx => ?_, by simp; omega, fun x hx => ?_⟩
      · rw [uq, if_neg (by simp [hs]), h1]; simp
      · rw [uq, if_neg (by simp [hs]), h2]; simp
      · rcases List.mem_cons.1 hx with rfl | hx
        · simp
        · exact List.mem_cons_of_mem _ (h3 x hx)
      · rcases List.mem_cons.1 hx with rfl | hx
        · have := (plc_more (V := V) (plc_new hs).2).2
          simpa using this
        · have := h5 x hx
          simpa using this
def bad (s : ByteArray) : Bool := decide (64 < s.size) || decide (0 ≤ ixB s.data.toList 0)
theorem bad_iff (s : ByteArray) : (64 < s.size ∨ 0 ≤ ixB s.data.toList 0) ↔ bad s = true := by simp [bad]
theorem bldGo_bad : ∀ (L : List ByteArray) (t m p : List (List D)), L.any bad = true → bldGo L t m p = ⟨[], [], 3⟩
  | s :: r, t, m, p, h => by
    rw [bldGo]
    by_cases hs : bad s = true
    · rw [if_pos ((bad_iff s).2 hs)]
    · rw [if_neg (fun e => hs ((bad_iff s).1 e))]
      have hr : r.any bad = true := by simpa [hs] using h
      split
      · exact bldGo_bad r _ _ _ hr
      · exact bldGo_bad r _ _ _ hr
theorem bldGo_good : ∀ (L U : List ByteArray) (p : List (List D)), L.any bad = false → bldGo L (tabOf U) (mpOf U) p = if 65536 < (tabOf (uq U L)).length then ⟨[], [], 9⟩ else ⟨tabOf (uq U L), p ++ L.map (fun s => [.int (plc (uq U L) s)]), 0⟩
  | [], U, p, h => by simp [bldGo, uq]
  | s :: r, U, p, h => by
    have hs : bad s = false := by simp at h; simpa using h.1
    have hr : r.any bad = false := by simp at h; simpa using h.2
    rw [bldGo, if_neg (fun e => by rw [(bad_iff s).1 e] at hs; cases hs)]
    cases hi : isIn U s with
    | true =>
      have e : uq U (s :: r) = uq U r := by rw [uq, if_pos hi]
      obtain ⟨V, hv, -⟩ := uq_spec r U
      have hp : (lookD .str (.string s) (.int 0) (mpOf U)).toInt = plc (uq U r) s := by rw [hv, (plc_more hi).1]; rfl
      have hi' : hasD .str (.string s) (mpOf U) = true := hi
      rw [if_pos hi', bldGo_good r U _ hr, e, hp]
      simp
    | false =>
      have e : uq U (s :: r) = uq (U ++ [s]) r := by rw [uq, if_neg (by simp [hi])]
      obtain ⟨V, hv, -⟩ := uq_spec r (U ++ [s])
      have hp : (((tabOf U).length : Nat) : Int) = plc (uq (U ++ [s]) r) s := by rw [hv, (plc_more (plc_new hi).2).1, (plc_new hi).1]
      have hi' : hasD .str (.string s) (mpOf U) = false := hi
      rw [if_neg (by rw [hi']; simp), setRow_none (isIn_none hi), ← mp_snoc, ← tab_snoc, bldGo_good r (U ++ [s]) _ hr, e, hp]
      simp
def uqs (xs : List (List D)) : List ByteArray := uq [] (namesOf xs)
theorem bldR_eq (xs : List (List D)) : bldR xs = if 1024 < xs.length then ⟨[], [], 4⟩ else if (namesOf xs).any bad = true then ⟨[], [], 3⟩ else if 65536 < (tabOf (uqs xs)).length then ⟨[], [], 9⟩ else ⟨tabOf (uqs xs), (namesOf xs).map (fun s => [.int (plc (uqs xs) s)]), 0⟩ := by
  unfold bldR
  split
  · rfl
  · cases h : (namesOf xs).any bad with
    | true => rw [bldGo_bad _ _ _ _ h]; rfl
    | false =>
      have := bldGo_good (namesOf xs) [] [] h
      rw [if_neg (by simp)]
      exact this
theorem bld_ok {xs : List (List D)} (h : (bldR xs).e = 0) : xs.length ≤ 1024 ∧ (namesOf xs).any bad = false ∧ (tabOf (uqs xs)).length ≤ 65536 ∧ bldR xs = ⟨tabOf (uqs xs), (namesOf xs).map (fun s => [.int (plc (uqs xs) s)]), 0⟩ := by
  have e := bldR_eq xs
  split at e
  · rw [e] at h; cases h
  · rename_i h1
    split at e
    · rw [e] at h; cases h
    · rename_i h2
      split at e
      · rw [e] at h; cases h
      · rename_i h3
        exact ⟨by omega, by simpa using h2, by omega, e⟩
theorem bld_err {xs : List (List D)} (h : (bldR xs).e ≠ 0) : (bldR xs).t = [] ∧ (bldR xs).p = [] := by
  have e := bldR_eq xs
  split at e
  · rw [e]; exact ⟨rfl, rfl⟩
  · split at e
    · rw [e]; exact ⟨rfl, rfl⟩
    · split at e
      · rw [e]; exact ⟨rfl, rfl⟩
      · rw [e] at h; exact absurd rfl h
theorem isIn_all {xs : List (List D)} {s : ByteArray} (hs : s ∈ namesOf xs) : isIn (uqs xs) s = true := by
  obtain ⟨V, h1, -, -, -, h5⟩ := uq_spec (namesOf xs) []
  rw [uqs, h1]
  exact h5 s hs
theorem isIn_empty (U : List ByteArray) : isIn U .empty = true := by
  unfold isIn hasD mpOf findRow
  rw [if_pos ((key_str _ _).2 (by simp [D.toStr]))]
  rfl
end Go.Proofs.Ythloggdgdklgmaa.Ev
