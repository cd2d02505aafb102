/- StrtabBuilds: the plain law. -/
import Derived.Test.YthloggdgdklgmaaStF
namespace Go.Proofs.Ythloggdgdklgmaa.Ev
open Go
set_option linter.unusedVariables false
set_option linter.unusedSimpArgs false
theorem runs_rbl_loop (xs : List (List D)) (hl : xs.length ≤ 1024) (hs : ∀ s ∈ namesOf xs, s.size ≤ 281474976710656) : ∀ (d i : Nat), d + i = xs.length → (∀ s ∈ (namesOf xs).take i, bad s = false) →
    Runs st5 (17, Try.f17, 0) rblk1 (rbls1 xs (i : Int)) (Is (.tup [.own u8s (bldR xs).t, .own i64s (bldR xs).p, .val (.int .i64 (bldR xs).e)])) := by
  intro d
  induction d with
  | zero =>
    intro i hd hb
    have hb' : (namesOf xs).any bad = false := by
      rw [List.any_eq_false]
      intro s hs'
      have := hb s (by rw [List.take_of_length_le (by rw [namesOf_length]; omega)]; exact hs')
      simp [this]
    have hsz : (namesOf xs).all (fun s => decide (s.size ≤ 64)) = true := by
      rw [List.all_eq_true]
      intro s hs'
      have := List.any_eq_false.1 hb' s hs'
      exact decT (no_nought (by simpa using this)).1
    refine Runs.of (fun n => rblp1 n _ _) ?_
    refine askF (decF (by omega)) ?_
    have hp : (decide (xs.length ≤ 1024) && (namesOf xs).all (fun s => decide (s.size ≤ 64))) = true := andT (decT hl) hsz
    refine askT hp ?_
    have et : [D.int 0] :: flat (uqs xs) = tabOf (uqs xs) := rfl
    rw [et]
    have e := bldR_eq xs
    rw [if_neg (by omega), if_neg (by rw [hb']; simp)] at e
    refine ask (fun h => bld_nil ?_) (fun h => is_refl ?_)
    · simp only [decide_eq_true_eq] at h
      rw [e, if_pos (by omega)]
    · simp only [decide_eq_false_iff_not] at h
      rw [e, if_neg (by omega)]
  | succ d ih =>
    intro i hd hb
    have hi : i < xs.length := by omega
    obtain ⟨n1, n2⟩ := name_mem hi
    refine Runs.of (fun n => rblp1 n _ _) ?_
    refine askT (decT (by omega)) (askT (inR hi) ?_)
    rw [Int.toNat_natCast]
    have hp : small (cellS xs i 0).size = true := decT (hs _ n1)
    refine askT hp ?_
    refine ask (fun h => bld_nil ?_) (fun h => ?_)
    · have h : bad (cellS xs i 0) = true := by have := notT h; unfold mayR at this; exact notF this
      have hb' : (namesOf xs).any bad = true := List.any_eq_true.2 ⟨_, n1, h⟩
      rw [bldR_eq, if_neg (by omega), if_pos hb']
    · have h : bad (cellS xs i 0) = false := by have := notF h; unfold mayR at this; exact notT this
      rw [wrapS (by omega)]
      refine ih (i + 1) (by omega) (fun s hm => ?_)
      rw [take_snocJ _ _ _ n2] at hm
      rcases List.mem_append.1 hm with hm | hm
      · exact hb s hm
      · simp at hm; rw [hm]; exact h
theorem con_rbl : ∀ vs outs r, eRbld.pre vs outs = true → eRbld.ans vs outs = some r → Contract Try.prog 17 vs outs r := by
  intro vs outs r hp h
  unfold eRbld at h hp
  simp only at h hp
  unfold eBld at h
  split at h
  · rename_i cts xs heq
    split at h
    · rename_i hc
      cases h
      rw [heq] at hp
      simp only [List.all_eq_true, small, decide_eq_true_eq] at hp
      refine Contract.cast (ks := [some [.str]]) ?_
      rw [heq, sameCTs_eq _ _ hc]
      refine st_con l5_ok Try.func17 (by kernel_rfl) (by kernel_rfl) rfl (by kernel_rfl) (by kernel_rfl) ?_
      refine Runs.of (fun n => rblp0 n xs) ?_
      refine ask (fun h => bld_nil ?_) (fun h => ?_)
      · simp only [decide_eq_true_eq] at h
        rw [bldR_eq, if_pos (by omega)]
      · simp only [decide_eq_false_iff_not] at h
        exact runs_rbl_loop xs (by omega) hp xs.length 0 (by omega) (fun s hs => by simp at hs)
    · cases h
  · cases h
theorem l6_ok : ExtAll Try.prog l6 := .cons con_rbl l5_ok
theorem rget_eq {xs : List (List D)} (hx : Good (.arr u8s) (.arr xs)) (at_ : Int) : rgetS xs at_ = getS xs at_ := by
  by_cases h : chkR xs ≠ 0 ∨ at_ < 0 ∨ (xs.length : Int) ≤ at_
  · rw [rgetS, getS, if_pos h, if_pos h]
  · rw [rgetS, if_neg h]
    simp only [not_or, Classical.not_not] at h
    obtain ⟨h1, h2, h3⟩ := h
    obtain ⟨-, k, k1, k2, k3, k4, k5, k6⟩ := get_ok (at_ := at_) h1 (by omega) (by omega)
    obtain ⟨a, rfl⟩ : ∃ a : Nat, at_ = (a : Int) := ⟨at_.toNat, by omega⟩
    rw [Int.toNat_natCast] at k5 k6
    have : txtK xs (a : Int) = some k := by
      rw [txtK, if_neg (by omega), Int.toNat_natCast]
      refine zeroAt_of (by rw [List.length_drop]; omega) ?_ (fun j hj => ?_)
      · rw [drop_cell]; exact (byte_zero hx (by omega)).1 k5
      · rw [drop_cell]; exact fun e => k6 j hj ((byte_zero hx (by omega)).2 e)
    rw [txtS, this, k1]
theorem good_names {xs : List (List D)} (h : Good (.arr [.str]) (.arr xs)) : ∀ s ∈ namesOf xs, s.size ≤ 140737488351232 := by
  cases h with
  | arr _ _ hl hn hg =>
    intro s hs
    obtain ⟨e, he, rfl⟩ := List.mem_map.1 hs
    have := hg e he 0 .str rfl
    generalize e.getD 0 default = d at this
    cases this with
    | str s hs => exact hs
theorem sameR_refl (a : List (List D)) : sameR a a = true := by simp [sameR]
theorem runs_builds (xs ys : List (List D)) (at_ : Int) (hx : Good (.arr [.str]) (.arr xs)) (hy : Good (.arr u8s) (.arr ys)) : Runs st6 (6, Try.f6, 0) bldsk0 (bldss0 xs ys at_) (Is (.val (.bool true))) := by
  refine Runs.of (fun n => bldsp0 n xs ys at_) ?_
  refine ask (fun h => isB rfl) (fun _ => ?_)
  refine ask (fun h => isB rfl) (fun h70 => ?_)
  simp only [decide_eq_false_iff_not] at h70
  refine askT (andT (decT (by omega)) (decT (by omega))) ?_
  have hp : (namesOf xs).all (fun s => small s.size) = true := by
    rw [List.all_eq_true]
    exact fun s hs => decT (by have := good_names hx s hs; omega)
  refine askT hp ?_
  refine askT (by simp) ?_
  have hpl : (bldR xs).p.length ≤ 1024 := by
    by_cases he : (bldR xs).e = 0
    · rw [places_length he]; exact (bld_ok he).1
    · rw [(bld_err he).2]; simp
  have hp2 : small (bldR xs).p.length = true := decT (by omega)
  refine askT hp2 ?_
  refine askT (sameR_refl _) ?_
  refine askT (by simp) ?_
  refine askT (by rw [rget_eq hy]; simp) ?_
  refine askT (by simp) ?_
  refine askT (by simp) (isB (by simp))
theorem con_builds (xs ys : List (List D)) (at_ : Int) (hx : Good (.arr [.str]) (.arr xs)) (hy : Good (.arr u8s) (.arr ys)) (_ : (Lit.int .i64 at_).wf = true) : Contract Try.prog 6 [.arr [.str] xs, .arr u8s ys, .val (.int .i64 at_)] [] (.val (.bool true), []) :=
  st_con l6_ok Try.func6 (by kernel_rfl) (by kernel_rfl) rfl (by kernel_rfl) (by kernel_rfl) (runs_builds xs ys at_ hx hy)
end Go.Proofs.Ythloggdgdklgmaa.Ev
