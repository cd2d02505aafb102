/- resolve.Bind's contract. The laws' own functions compute what RxD says. -/
import Derived.Test.YtacfehneeanlgaaDoorRtG
import Derived.Test.YtacfehneeanlgaaDoorRxD
import Derived.Test.YtacfehneeanlgaaDoorRxP
namespace Go.Proofs.YtacfehneeanlgaaDoor.Ev
open Go Go.RowKit Go.Shelf Go.Maps
set_option linter.unusedVariables false
set_option linter.unusedSimpArgs false
/-- Rows of bounds, as data. -/
theorem rows_drel {W : World} {base : Nat} {v : Value} {L : List (List D)} {xs : List Value} (h : W.ownsRow base 29 1 v L.length xs) (hX : RowsAre base W L xs) {st : Nat → Nat → Prop} (hst : ∀ b, base ≤ b → ∀ o, st b o) :
    DRel st W (.arr [.arr bndC]) (.arr (bindD L)) v := by
  have hl : (D.arr (bindD L)).toArr.length = L.length := by simp [D.toArr, bindD]
  rcases h.2 with ⟨rfl, h0⟩ | ⟨g, cap, cur, rfl, hb, hg, h1, h2, h3, h4⟩
  · exact .nil _ _ _ (List.length_eq_zero_iff.1 (by omega))
  · have hc := h
    have hat : ∀ i, i < L.length → ((D.arr (bindD L)).toArr.getD i []).getD 0 default = .arr (rowD L i) := fun i hi => by simp [D.toArr, bindD, List.getD_eq_getElem?_getD, hi]
    rw [← hl]
    refine .arr [.arr bndC] _ g 0 cap (fun i _ => xs.getD i (.slice none 0 0)) (by omega) h2 (fun i j hi hj => ?_) (fun i j c hi hj => ?_)
    · have hj : j = 0 := by simpa using hj
      subst hj
      rw [hl] at hi
      refine ⟨hst g hb _, ?_⟩
      have := hc.cellAt i (by omega)
      have hx : i < xs.length := by have := hc.1; omega
      simp only [pl, List.length_cons, List.length_nil, Nat.zero_add, Nat.mul_one, Nat.add_zero]
      rw [this, List.getD_eq_getElem?_getD, List.getElem?_eq_getElem hx]; rfl
    · have hj0 : j = 0 := by have := (List.getElem?_eq_some_iff.1 hj).1; simpa using this
      subst hj0
      simp at hj
      subst hj
      rw [hl] at hi
      rw [hat i hi]
      have hx : i < xs.length := by have := hc.1; omega
      refine (hX i (xs.getD i (.slice none 0 0)) (by rw [List.getD_eq_getElem?_getD, List.getElem?_eq_getElem hx]; rfl)).mono fun b o c q1 q2 => ⟨hst b q1.1 o, q2⟩
theorem con_bnd : ∀ vs v, pKck vs = true → gBnd vs = some v → Contract Tryd.prog 10 vs [] (v, []) := by
  intro vs v hp h
  unfold gBnd at h
  split at h <;> cases h
  rename_i l
  simp only [pKck, Bool.and_eq_true, Bool.or_eq_true, decide_eq_true_eq] at hp
  refine contract_walk (by simp [V.back, V.back1]) fun g w cargs hH => ?_
  obtain ⟨p, cap, rfl, hd, hG⟩ := row_arg hH
  refine (bind_calls w hG p cap l hd hp.1 hp.2).mono fun e W' ⟨v, he, hv, hB⟩ => ⟨_, he, .tup _ _ _ rfl (fun i u hu => ?_) (fun i u c hu hc => ?_), hB⟩
  · match i with
    | 0 | 1 => simp at hu; subst hu; trivial
    | i + 2 => simp at hu
  · match i with
    | 0 =>
      simp at hu hc; subst hu; subst hc
      refine .arr _ _ _ _ ?_
      rcases hv with ⟨h1, xs, h2, h3⟩ | ⟨h1, h2⟩
      · rw [if_pos h1]
        refine rows_drel h2 h3 fun b hb o => ?_
        unfold Gh.stable
        rw [hH.fresh b hb]
        trivial
      · rw [if_neg h1]
        rw [h2]
        exact .nil _ _ _ rfl
    | 1 => simp at hu hc; subst hu; subst hc; exact .val _ _
    | i + 2 => simp at hu
end Go.Proofs.YtacfehneeanlgaaDoor.Ev
namespace Go.Proofs.YtacfehneeanlgaaDoor.Ev
open Go
set_option linter.unusedVariables false
set_option linter.unusedSimpArgs false
theorem con_thr : ∀ vs v, pThr vs = true → gThr vs = some v → Contract Tryd.prog 20 vs [] (v, []) := by
  intro vs v hp h
  unfold gThr at h
  split at h <;> cases h
  rename_i i m s y r g b nm bd hd wh va sz
  simp only [pThr, Bool.and_eq_true, decide_eq_true_eq] at hp
  refine el_con ExtAll.nil Tryd.func20 (by kernel_rfl) (by kernel_rfl) rfl (by kernel_rfl) (by kernel_rfl) (Runs.of (fun q => thrp0 q i m s y r g b nm bd hd wh va sz) ?_)
  unfold thrt0
  refine ask (fun h1 => ask (fun h2 => ask (fun h3 => is_refl ?_) (fun h3 => ?_)) (fun h2 => is_refl ?_)) (fun h1 => is_refl ?_)
  · simp only [decide_eq_true_eq] at h3
    have h1' : bd ≠ 0 := by simpa using h1
    have h2' : wh ≠ 0 := by simpa using h2
    simp [thrB, h1', h2', h3]
  · simp only [decide_eq_false_iff_not] at h3
    have h1' : bd ≠ 0 := by simpa using h1
    have h2' : wh ≠ 0 := by simpa using h2
    have hw : IntKind.wrap .i64 (wh - 1) = wh - 1 := wrap64 (by omega) (by omega)
    rw [hw]
    refine askT (andT (decT (by omega)) (decT (by omega))) (is_refl ?_)
    simp [thrB, h1', h2', h3]
  · have h2' : wh = 0 := by simpa using h2
    simp [thrB, h2']
  · have h1' : bd = 0 := by simpa using h1
    simp [thrB, h1']
/-! ### Great lists -/
theorem grl_end (l : List (List D)) (h : (l.take 20).any grtO = false) {I : Info} {fn : Nat × Func × Nat} : Tr.prop I fn (Is (.val (.bool (grtL l)))) (.ask (decide ((↑(List.length l) : Int) > (12 : Int)))
  (.ask (decide ((↑(List.length l) : Int) ≤ (64 : Int)))
  (.ret (.val (.bool (true)), []))
  (.ret (.val (.bool (decide ((↑(List.length l) : Int) > (80 : Int)))), [])))
  (.ret (.val (.bool (decide ((↑(List.length l) : Int) > (80 : Int)))), []))) := by
  have c : ∀ (k : Nat), decide ((l.length : Int) > (k : Int)) = decide (l.length > k) := fun k => by rw [decide_eq_decide]; omega
  refine ask (fun h1 => ask (fun h2 => is_refl ?_) (fun h2 => is_refl ?_)) (fun h1 => is_refl ?_)
  · simp only [decide_eq_true_eq] at h1 h2
    rw [grtL, h, decide_eq_true (show l.length > 12 by omega), decide_eq_true (show l.length ≤ 64 by omega)]; rfl
  · simp only [decide_eq_true_eq, decide_eq_false_iff_not] at h1 h2
    rw [grtL, h, decide_eq_false (show ¬ l.length ≤ 64 by omega), Bool.and_false, ← c 80]; rfl
  · simp only [decide_eq_false_iff_not] at h1
    rw [grtL, h, decide_eq_false (show ¬ l.length > 12 by omega), Bool.false_and, ← c 80]; rfl
theorem runs_grl (l : List (List D)) : ∀ (t : List (List D)) (i : Nat), (l.take 20).drop i = t → i ≤ 20 → i ≤ l.length → (l.take i).any grtO = false → Runs lv0i (9, Tryd.f9, 0) grlk1 (grls1 l (i : Nat)) (Is (.val (.bool (grtL l)))) := by
  intro t
  induction t with
  | nil =>
    intro i ht hi hi2 h0
    refine Runs.of (fun q => grlp1 q l _) ?_
    unfold grlt1
    have h2 := lsd_nil ht
    rw [List.length_take] at h2
    have h3 : (l.take 20).any grtO = false := by
      by_cases e : l.length ≤ 20
      · rw [List.take_of_length_le e]; rw [List.take_of_length_le (by omega)] at h0; exact h0
      · rw [show i = 20 by omega] at h0; exact h0
    refine ask (fun ha => askF (decF (by have := of_decide_eq_true ha; omega)) (grl_end l h3)) (fun ha => grl_end l h3)
  | cons e t ih =>
    intro i ht hi hi2 h0
    obtain ⟨a1, a2, a3, a4⟩ := take_drop_cons ht
    refine Runs.of (fun q => grlp1 q l _) ?_
    unfold grlt1
    have hw : IntKind.wrap .i64 ((i : Int) + 1) = ((i + 1 : Nat) : Int) := by rw [wrap64 (by omega) (by omega)]; omega
    simp only [Int.toNat_natCast, lsA a3, hw]
    have hm : e ∈ l.take 20 := by
      have : e ∈ (l.take 20).drop i := by rw [ht]; exact List.mem_cons_self ..
      exact List.mem_of_mem_drop this
    have hyes : grtO e = true → grtL l = true := fun h => by rw [grtL, List.any_eq_true.2 ⟨e, hm, h⟩]; rfl
    refine askT (decT (by omega)) (askT (decT (by omega)) (askT (andT (decT (by omega)) (decT (by omega))) (ask (fun h1 => is_refl ?_) (fun h1 => askT (andT (decT (by omega)) (decT (by omega))) (ask (fun h2 => is_refl ?_) (fun h2 => ?_))))))
    · rw [hyes (by rw [grtO, h1]; rfl)]
    · simp only [decide_eq_true_eq] at h2
      rw [hyes (by rw [grtO, decide_eq_true (show (rA e 6).length > 40 by omega), Bool.or_true])]
    · simp only [decide_eq_false_iff_not] at h2
      refine ih (i + 1) a4 (by omega) (by omega) ?_
      have e1 : l.take (i + 1) = l.take i ++ [e] := by
        rw [List.take_succ_eq_append_getElem (by omega)]
        congr 2
        rw [← a3, List.getD_eq_getElem?_getD, List.getElem?_eq_getElem a2]; rfl
      rw [e1, List.any_append, h0]
      simp [grtO, h1]; omega
theorem lv0_ok : ExtAll Tryd.prog lv0 := .norm con_grt .nil
theorem con_grl : ∀ vs v, gGrl vs = some v → Contract Tryd.prog 9 vs [] (v, []) := by
  intro vs v h
  unfold gGrl at h
  split at h <;> cases h
  rename_i l
  refine el_con lv0_ok Tryd.func9 (by kernel_rfl) (by kernel_rfl) rfl (by kernel_rfl) (by kernel_rfl) (Runs.of (fun q => grlp0 q l) ?_)
  unfold grlt0
  exact runs_grl l (l.take 20) 0 rfl (by omega) (by omega) (by simp)
theorem lv1_ok : ExtAll Tryd.prog lv1 := .normP con_bnd (.normP con_kck (.normP con_lck (.norm con_grl (.normP con_thr .nil))))
/-! ### Rows of bounds -/
theorem bindD_length (L : List (List D)) : (bindD L).length = L.length := by simp [bindD]
theorem bindD_at {L : List (List D)} {i : Nat} (h : i < L.length) : cellA (bindD L) i 0 = rowD L i := by
  rw [cellA, bindD]
  simp [List.getD_eq_getElem?_getD, h, D.toArr]
theorem rowD_length (L : List (List D)) (i : Nat) : (rowD L i).length = (rA (L.getD i []) 3).length := by simp [rowD]
theorem getD_range {α : Type} {f : Nat → α} {n i : Nat} {d : α} (h : i < n) : ((List.range n).map f).getD i d = f i := by simp [List.getD_eq_getElem?_getD, h]
theorem rowD_ob {L : List (List D)} {i n : Nat} (h : n < (rA (L.getD i []) 3).length) : cellI (rowD L i) n 0 = (bndOf L i n).1 := by
  rw [cellI, rowD, getD_range h]; rfl
theorem rowD_sy {L : List (List D)} {i n : Nat} (h : n < (rA (L.getD i []) 3).length) : cellI (rowD L i) n 1 = (bndOf L i n).2 := by
  rw [cellI, rowD, getD_range h]; rfl
theorem con_std : ∀ vs v, pKck vs = true → gStd vs = some v → Contract Tryd.prog 12 vs [] (v, []) := by
  intro vs v hp h
  unfold gStd at h
  split at h
  case h_2 => cases h
  rename_i l
  refine el_con lv1_ok Tryd.func12 (by kernel_rfl) (by kernel_rfl) rfl (by kernel_rfl) (by kernel_rfl) (Runs.of (fun q => stdp0 q l) ?_)
  unfold stdt0
  refine askT (show pKck [.arr keptC l] = true from hp) (ask (fun h1 => ?_) (fun h1 => ?_))
  · have h1' : bindE l ≠ 0 := by simpa using h1
    rw [if_neg (fun h2 => h1' h2.1)] at h
    cases h
    exact is_refl rfl
  · have h1' : bindE l = 0 := by simpa using h1
    rw [if_pos h1']
    by_cases h2 : 0 < l.length
    · rw [bindD_at h2, bindD_length, rowD_length]
      refine askF (beq_eq_false_iff_ne.2 (by omega)) (askT (decT (by omega)) ?_)
      by_cases h3 : 0 < (rA (l.getD 0 []) 3).length
      · rw [if_pos ⟨h1', h2, h3⟩] at h
        cases h
        rw [rowD_ob h3, rowD_sy h3]
        exact askF (beq_eq_false_iff_ne.2 (by omega)) (askT (decT (by omega)) (askT (decT (by omega)) (is_refl rfl)))
      · rw [if_neg (fun h4 => h3 h4.2.2)] at h
        cases h
        exact askT (beq_iff_eq.2 (by omega)) (is_refl rfl)
    · rw [if_neg (fun h4 => h2 h4.2.1)] at h
      cases h
      rw [bindD_length]
      exact askT (beq_iff_eq.2 (by omega)) (is_refl rfl)
end Go.Proofs.YtacfehneeanlgaaDoor.Ev
