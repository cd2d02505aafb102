/- ResolveEmpty: that it answers true. -/
import Derived.Test.YtacfehneeanlgaaDoorYeP
namespace Go.Proofs.YtacfehneeanlgaaDoor.Ev
open Go
set_option linter.unusedVariables false
set_option linter.unusedSimpArgs false
theorem yeA (l : List (List D)) (i j : Nat) : cellA l i j = rA (l.getD i []) j := rfl
/-- What stands for itself. -/
theorem bnd_self {l : List (List D)} (hc : chkL l = true) {i k : Nat} (hi : i < l.length) (hk : k < (rA (l.getD i []) 3).length) (h : 0 ≤ (bndOf l i k).1) :
    ∃ a b : Nat, bndOf l i k = ((a : Int), (b : Int)) ∧ a < l.length ∧ b < (rA (l.getD a []) 3).length ∧ bndOf l a b = bndOf l i k := by
  have inv := dAll_inv hc (rN (sy l i k))
  by_cases h1 : rI (sy l i k) 1 ≠ 0 ∧ (dAll (rN (sy l i k)) l l.length).is = true
  · have e : bndOf l i k = ((dAll (rN (sy l i k)) l l.length).ob, (dAll (rN (sy l i k)) l l.length).sy) := by unfold bndOf; rw [if_pos h1]
    obtain ⟨a, b, q1, q2, q3, q4⟩ := inv.at_ h1.2
    refine ⟨a, b, by rw [e, q2, q3], q1.1, q1.2.1, bnd_name h1.1 (fun h0 => ?_) q1.2.2.2⟩
    have := q1.2.2.1
    unfold symDef at this
    rw [h0] at this
    simp at this
  · by_cases h2 : rI (sy l i k) 1 = 0 ∧ goneB (rA (l.getD i []) 6) (rI (sy l i k) 3) = false
    · have e : bndOf l i k = ((i : Int), (k : Int)) := by unfold bndOf; rw [if_neg h1, if_pos h2]
      exact ⟨i, k, e, hi, hk, rfl⟩
    · have e : bndOf l i k = (-1, -1) := by unfold bndOf; rw [if_neg h1, if_neg h2]
      rw [e] at h
      exact absurd h (by decide)
abbrev yeQ : R → Prop := Is (.val (.bool true))
theorem ye_ob {l : List (List D)} {i k : Nat} (hi : i < l.length) (h : k < (rA (l.getD i []) 3).length) : cellI (cellA (bindD l) i 0) k 0 = (bndOf l i k).1 := by rw [bindD_at hi, rowD_ob h]
theorem ye_sy {l : List (List D)} {i k : Nat} (hi : i < l.length) (h : k < (rA (l.getD i []) 3).length) : cellI (cellA (bindD l) i 0) k 1 = (bndOf l i k).2 := by rw [bindD_at hi, rowD_sy h]
/-- The two answers, alike at old objects. -/
structure Like (l m : List (List D)) : Prop where
  len : l.length ≤ m.length
  at_ : ∀ i, i < l.length → m.getD i [] = l.getD i []
  bnd : ∀ i k, i < l.length → bndOf m i k = bndOf l i k
theorem runs_ye13 (l m : List (List D)) (hc : chkL l = true) (hL : Like l m) (i : Nat) (hi : i < l.length)
    (H : Runs lv3i (7, Tryd.f7, 0) empk11 (emps11 l true (bindD l) (bindD m) ((i + 1 : Nat) : Int)) yeQ) :
    ∀ (t : List (List D)) (k : Nat), (rA (l.getD i []) 3).drop k = t → k ≤ (rA (l.getD i []) 3).length → Runs lv3i (7, Tryd.f7, 0) empk13 (emps13 l true (bindD l) (bindD m) (i : Nat) (k : Nat)) yeQ := by
  obtain ⟨r1, r2⟩ := chk_read hc
  have hl := (r2 i hi).1
  have hwi : IntKind.wrap .i64 ((i : Int) + 1) = ((i + 1 : Nat) : Int) := by rw [wrap64 (by omega) (by omega)]; omega
  have el := bindD_length l
  have em := bindD_length m
  have hlm := hL.len
  have ei : (cellA (bindD l) i 0).length = (rA (l.getD i []) 3).length := by rw [bindD_at hi, rowD_length]
  have ej : (cellA (bindD m) i 0).length = (rA (l.getD i []) 3).length := by rw [bindD_at (by omega), rowD_length, hL.at_ i hi]
  intro t
  induction t with
  | nil =>
    intro k ht hk
    have h0 := lsd_nil ht
    refine Runs.of (fun q => empp13 q l true (bindD l) (bindD m) _ _) ?_
    unfold empt13
    simp only [Int.toNat_natCast, el, ei, hwi]
    exact askT (andT (decT (by omega)) (decT (by omega))) (askF (decF (by omega)) H)
  | cons e t ih =>
    intro k ht hk
    obtain ⟨h1, h2, h3⟩ := lsd_cons ht
    have hw : IntKind.wrap .i64 ((k : Int) + 1) = ((k + 1 : Nat) : Int) := by rw [wrap64 (by omega) (by omega)]; omega
    have next := ih (k + 1) h3 (by omega)
    refine Runs.of (fun q => empp13 q l true (bindD l) (bindD m) _ _) ?_
    unfold empt13
    simp only [Int.toNat_natCast, el, ei, hwi]
    refine askT (andT (decT (by omega)) (decT (by omega))) (askT (decT (by omega)) (askT (andT (decT (by omega)) (decT (by omega))) (askT (andT (decT (by omega)) (decT (by omega))) ?_)))
    rw [ye_ob hi h1, ye_sy hi h1]
    refine Runs.of (fun q => empp14 q l true (bindD l) (bindD m) _ _ _ _) ?_
    unfold empt14
    simp only [Int.toNat_natCast, em, ej]
    refine askT (andT (decT (by omega)) (decT (by omega))) (askT (andT (decT (by omega)) (decT (by omega))) (askF ?_ ?_))
    · rw [bindD_at (by omega : i < m.length), rowD_ob (by rw [hL.at_ i hi]; exact h1), rowD_sy (by rw [hL.at_ i hi]; exact h1), hL.bnd i k hi]; simp
    · refine Runs.of (fun q => empp16 q l true (bindD l) (bindD m) _ _ false _ _) ?_
      unfold empt16
      rw [hw]
      refine ask (fun g => ?_) (fun _ => next)
      obtain ⟨a, b, q1, q2, q3, q4⟩ := bnd_self hc hi h1 (of_decide_eq_true g)
      have ea : (cellA (bindD l) a 0).length = (rA (l.getD a []) 3).length := by rw [bindD_at q2, rowD_length]
      rw [q1]
      simp only [Int.toNat_natCast, el, ea]
      refine askF (decF (by omega)) (askT (andT (decT (by omega)) (decT (by omega))) (askF (decF (by omega)) (askT (andT (decT (by omega)) (decT (by omega))) (askT (andT (decT (by omega)) (decT (by omega))) ?_))))
      refine Runs.of (fun q => empp17 q l true (bindD l) (bindD m) _ _ _) ?_
      unfold empt17
      rw [hw]
      refine askF ?_ next
      rw [ye_ob q2 q3, ye_sy q2 q3, q4, q1]; simp
theorem runs_ye11 (l m : List (List D)) (hc : chkL l = true) (hL : Like l m) : ∀ (t : List (List D)) (i : Nat), l.drop i = t → i ≤ l.length → Runs lv3i (7, Tryd.f7, 0) empk11 (emps11 l true (bindD l) (bindD m) (i : Nat)) yeQ := by
  obtain ⟨r1, r2⟩ := chk_read hc
  have el := bindD_length l
  have em := bindD_length m
  have hlm := hL.len
  intro t
  induction t with
  | nil =>
    intro i ht hi
    have h0 := lsd_nil ht
    refine Runs.of (fun q => empp11 q l true (bindD l) (bindD m) _) ?_
    unfold empt11
    rw [el]
    exact askF (decF (by omega)) (is_refl rfl)
  | cons e t ih =>
    intro i ht hi
    obtain ⟨h1, h2, h3⟩ := lsd_cons ht
    have ei : (cellA (bindD l) i 0).length = (rA (l.getD i []) 3).length := by rw [bindD_at h1, rowD_length]
    have ej : (cellA (bindD m) i 0).length = (rA (l.getD i []) 3).length := by rw [bindD_at (by omega), rowD_length, hL.at_ i h1]
    refine Runs.of (fun q => empp11 q l true (bindD l) (bindD m) _) ?_
    unfold empt11
    simp only [Int.toNat_natCast, yeA l, el, em, ei, ej]
    refine askT (decT (by omega)) (askT (andT (decT (by omega)) (decT (by omega))) (askT (andT (decT (by omega)) (decT (by omega))) (askF (by simp) (askT (andT (decT (by omega)) (decT (by omega))) (askT (andT (decT (by omega)) (decT (by omega))) ?_)))))
    refine Runs.of (fun q => empp12 q l true (bindD l) (bindD m) _ _) ?_
    unfold empt12
    exact askF (by simp) (runs_ye13 l m hc hL i h1 (ih (i + 1) h3 (by omega)) _ 0 rfl (by omega))
/-- Lacks' rows. -/
theorem lackD_at {l : List (List D)} {i : Nat} (h : i < (lackN l).length) : (cellS (lackD l) i 0).toList = (lackN l)[i] := by
  rw [cellS, lackD, ByteArray.toList_eq]
  simp [List.getD_eq_getElem?_getD, h, D.toStr]
theorem runs_ye7 (l m : List (List D)) (a b : List (List D)) (hc : chkL l = true) (hL : Like l m) (hml : m.length = l.length + 1) (hlast : rA (m.getD l.length []) 3 = []) (ha : a = if bindE l = 0 then bindD l else []) (hb : b = if bindE l = 0 then bindD m else []) :
    ∀ (d i : Nat), d = (lackN l).length - i → i ≤ (lackN l).length → (lackN l).length ≤ 1048576 → Runs lv3i (7, Tryd.f7, 0) empk7 (emps7 l true a (bindE l) b (lackD l) (lackD l) (i : Nat)) yeQ := by
  obtain ⟨r1, r2⟩ := chk_read hc
  have hlk : (lackD l).length = (lackN l).length := by simp [lackD]
  intro d
  induction d with
  | zero =>
    intro i hd hi h20
    refine Runs.of (fun q => empp7 q l true a (bindE l) b (lackD l) (lackD l) _) ?_
    unfold empt7
    rw [hlk]
    refine askF (decF (by omega)) (ask (fun g1 => askT rfl (ask (fun g2 => ?_) (fun g2 => ask (fun g3 => ?_) (fun g3 => ?_)))) (fun g1 => ?_))
    · refine Runs.of (fun q => empp9 q _) ?_
      unfold empt9
      exact is_refl rfl
    · refine Runs.of (fun q => empp9 q _) ?_
      unfold empt9
      refine is_refl ?_
      have g3' : bindE l = 231 := by simpa using g3
      have : lackN l ≠ [] := fun e => by
        unfold bindE at g3'
        rw [hc, e] at g3'
        simp at g3'
        split at g3' <;> cases g3'
      have h2 : 0 < (lackN l).length := by
        cases hx : lackN l with
        | nil => exact absurd hx this
        | cons _ _ => simp
      rw [decide_eq_true (show ((lackN l).length : Int) > 0 by omega)]
    · exfalso
      have g1' : bindE l ≠ 0 := by simpa using g1
      have g2' : bindE l ≠ 230 := by simpa using g2
      have g3' : bindE l ≠ 231 := by simpa using g3
      unfold bindE at g1' g2' g3'
      rw [hc] at g1' g2' g3'
      simp only [Bool.true_eq_false, if_false] at g1' g2' g3'
      split at g1'
      · rename_i hx; rw [if_pos hx] at g2'; exact g2' rfl
      · rename_i hx
        rw [if_neg hx] at g3'
        split at g1'
        · exact g1' rfl
        · rename_i hy; rw [if_neg hy] at g3'; exact g3' rfl
    · have g1' : bindE l = 0 := by simpa using g1
      have hk0 : lackN l = [] := by
        have h := g1'
        unfold bindE at h
        rw [hc] at h
        simp only [Bool.true_eq_false, if_false] at h
        split at h
        · cases h
        · split at h
          · assumption
          · cases h
      have ea : a = bindD l := by rw [ha, if_pos g1']
      have eb : b = bindD m := by rw [hb, if_pos g1']
      have el := bindD_length l
      have em := bindD_length m
      have hw : IntKind.wrap .i64 ((l.length : Int) + 1) = ((l.length + 1 : Nat) : Int) := by rw [wrap64 (by omega) (by omega)]; omega
      rw [ea, eb, el, em, hw, hml]
      have e0 : (cellA (bindD m) l.length 0).length = 0 := by rw [bindD_at (by omega), rowD_length, hlast]; rfl
      rw [e0, hk0]
      refine askF (by simp) (askF (by simp) (askT (decT (by omega)) (askF (by simp) ?_)))
      refine Runs.of (fun q => empp10 q l true (bindD l) (bindD m) _) ?_
      unfold empt10
      exact askF (by simp) (runs_ye11 l m hc hL _ 0 rfl (by omega))
  | succ d ih =>
    intro i hd hi h20
    have hlt : i < (lackN l).length := by omega
    have hw : IntKind.wrap .i64 ((i : Int) + 1) = ((i + 1 : Nat) : Int) := by rw [wrap64 (by omega) (by omega)]; omega
    have step : ∀ f, f = false → Runs lv3i (7, Tryd.f7, 0) empk8 (emps8 l true a (bindE l) b (lackD l) (lackD l) (i : Nat) f) yeQ := fun f hf => by
      refine Runs.of (fun q => empp8 q l true a (bindE l) b (lackD l) (lackD l) _ f) ?_
      unfold empt8
      rw [hw]
      exact askF hf (ih (i + 1) (by omega) (by omega) h20)
    refine Runs.of (fun q => empp7 q l true a (bindE l) b (lackD l) (lackD l) _) ?_
    unfold empt7
    simp only [Int.toNat_natCast, hlk]
    refine askT (decT (by omega)) (askT (andT (decT (by omega)) (decT (by omega))) (askT (andT (decT (by omega)) (decT (by omega))) (askF (by simp) (ask (fun g => ?_) (fun _ => step _ rfl)))))
    have h0 : 0 < i := by have := of_decide_eq_true g; omega
    have hw1 : IntKind.wrap .i64 ((i : Int) - 1) = ((i - 1 : Nat) : Int) := by rw [wrap64 (by omega) (by omega)]; omega
    rw [hw1]
    simp only [Int.toNat_natCast]
    refine askT (andT (decT (by omega)) (decT (by omega))) (askT (andT (decT (by omega)) (decT (by omega))) (step _ ?_))
    rw [lackD_at (by omega), lackD_at hlt, Go.Proofs.bytesLess_eq]
    have := List.pairwise_iff_getElem.1 (lackN_rise l) (i - 1) i (by omega) hlt (by omega)
    rw [decide_eq_true this]; rfl
theorem con_emp (l : List (List D)) (h : Good (.arr keptC) (.arr l)) : Contract Tryd.prog 7 [.arr keptC l] [] (.val (.bool true), []) := by
  refine el_con lv3_ok Tryd.func7 (by kernel_rfl) (by kernel_rfl) rfl (by kernel_rfl) (by kernel_rfl) (Runs.of (fun q => empp0 q l) ?_)
  unfold empt0
  refine ask (fun _ => is_refl rfl) (fun hgr => askT (pre_of h hgr) (ask (fun h1 => ?_) (fun h1 => ?_)))
  · refine Runs.of (fun q => empp1 q l true true) ?_
    unfold empt1
    exact is_refl rfl
  · have hc : chkL l = true := by
      cases hc : chkL l with
      | true => rfl
      | false => rw [hc] at h1; exact absurd h1 (by decide)
    obtain ⟨g1, g2⟩ := grtL_small hgr
    obtain ⟨r1, r2⟩ := chk_read hc
    have h12 : l.length ≤ 12 := by omega
    rw [List.take_of_length_le (by omega)] at g1
    have hok : l.all okArg = true := List.all_eq_true.2 fun e he => okArg_of (good_kept h he).2.1 (g1 e he)
    obtain ⟨m, hm⟩ : ∃ m, m = l ++ [objN (l.length : Int) (-1)] := ⟨_, rfl⟩
    have hpm : pKck [.arr keptC m] = true := by
      show (decide (m.length ≤ 1048576) && (decide (64 < m.length) || m.all okArg)) = true
      rw [hm, List.all_append, hok]
      refine andT (decT (by rw [app_len]; omega)) ?_
      rw [show ([objN (l.length : Int) (-1)] : List (List D)).all okArg = true from rfl]
      simp
    have hbE : bindE m = bindE l := by rw [hm]; exact nil_bindE _ _ hc (by omega)
    have hcm : chkL m = true := by rw [hm]; exact nil_chk _ _ hc (by omega)
    have hlm : lackD m = lackD l := by unfold lackD; rw [hm, nil_lack]
    have hL : Like l m := ⟨by rw [hm, app_len]; omega, fun i hi => by rw [hm]; exact app_at _ hi, fun i k hi => by rw [hm]; exact nil_bnd _ _ hi⟩
    have hml : m.length = l.length + 1 := by rw [hm, app_len]
    have hlast : rA (m.getD l.length []) 3 = [] := by rw [hm, app_last]; rfl
    have h20 : (lackN l).length ≤ 1048576 := lack_few l hc
    refine Runs.of (fun q => empp2 q l true false) ?_
    unfold empt2
    refine askT (andT (decT (by omega)) (decT (by omega))) (askT (andT (decT (by show (l.length + 1) * 136 ≤ _; omega)) (decT (by show l.length + 1 ≤ _; omega))) (askT (pre_of h hgr) ?_))
    show Runs _ _ _ (emps3 l true (l ++ [objN (l.length : Int) (-1)]) _ _) _
    rw [← hm]
    refine Runs.of (fun q => empp3 q l true m _ _) ?_
    unfold empt3
    refine askT hpm (askT (pre_of h hgr) (askF (decF (by omega)) ?_))
    rw [if_pos hc, if_pos hc, hbE]
    refine Runs.of (fun q => empp5 q l true m _ _ _ _ _ _ false) ?_
    unfold empt5
    rw [if_pos hcm, if_pos hcm, hlm]
    refine askT hpm (askF (by simp) (askF rfl (askF rfl ?_)))
    refine Runs.of (fun q => empp6 q l true _ _ _ _ _ _) ?_
    unfold empt6
    exact askF (by simp) (runs_ye7 l m _ _ hc hL hml hlast rfl rfl _ 0 rfl (by omega) h20)
end Go.Proofs.YtacfehneeanlgaaDoor.Ev
