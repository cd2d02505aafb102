/- fits' contract. ResolveRight: that it answers true. -/
import Derived.Test.YtacfehneeanlgaaDoorRyP
import Derived.Test.YtacfehneeanlgaaDoorRyD
namespace Go.Proofs.YtacfehneeanlgaaDoor.Ev
open Go
set_option linter.unusedVariables false
set_option linter.unusedSimpArgs false
theorem fitR (l : List (List D)) (i j : Nat) : cellA l i j = rA (l.getD i []) j := rfl
theorem fitS (l : List (List D)) (i k : Nat) : cellS (rA (l.getD i []) 3) k 0 = rN (sy l i k) := rfl
theorem fitY (l : List (List D)) (i k j : Nat) : cellI (rA (l.getD i []) 3) k j = rI (sy l i k) j := rfl
/-- One symbol's turn. -/
def FitAt (l : List (List D)) (nm : ByteArray) (ob s dw dz : Int) (i k : Nat) : Prop :=
  rN (sy l i k) = nm → thrB (rA (l.getD i []) 6) (rI (sy l i k) 1) (rI (sy l i k) 3) = true →
    0 ≤ ob ∧ (rI (sy l i k) 1 = 1 → rI (sy l i k) 3 ≠ -2 → ob = i ∧ s = k) ∧ (rI (sy l i k) 1 = 2 → dw ≠ -2) ∧ (rI (sy l i k) 3 = -2 → dw = -2 → rI (sy l i k) 5 ≤ dz)
theorem where_may {L : List (List D)} (hc : chkL L = true) {i k : Nat} (hi : i < L.length) (hk : k < (rA (L.getD i []) 3).length) : -2 ≤ rI (sy L i k) 3 := by
  have h := sym_may hc hi hk
  unfold standsB at h
  split at h
  · cases h
  · split at h
    · omega
    · split at h
      · omega
      · split at h
        · omega
        · simp only [inB, Bool.and_eq_true, decide_eq_true_eq] at h; omega
theorem thr_pre {l : List (List D)} (hc : chkL l = true) {i k : Nat} (hi : i < l.length) (hk : k < (rA (l.getD i []) 3).length) : (decide (rI (sy l i k) 3 ≤ ((rA (l.getD i []) 6).length : Nat)) && decide ((rA (l.getD i []) 6).length ≤ 1048576)) = true := by
  obtain ⟨_, r2⟩ := chk_read hc
  obtain ⟨_, h2, h3⟩ := r2 i hi
  exact andT (decT (h3 k hk).2) (decT (by omega))
set_option maxHeartbeats 2000000 in
theorem runs_fit3 (l : List (List D)) (hc : chkL l = true) (hg : KindsOk l) (nm : ByteArray) (bd : Int) (h : Bool) (wh va sz ob s : Int) (d0 : ByteArray) (d1 : Int) (d2 : Bool) (d3 d4 d5 : Int) (i : Nat) (hi : i < l.length) (hF : ∀ k, k < (rA (l.getD i []) 3).length → FitAt l nm ob s d3 d5 i k)
    (H : Runs lv1i (11, Tryd.f11, 0) fitk2 (fits2 l ((i + 1 : Nat) : Int) nm bd h wh va sz ob s d0 d1 d2 d3 d4 d5) (Is (.val (.bool true)))) :
    ∀ (t : List (List D)) (k : Nat), (rA (l.getD i []) 3).drop k = t → k ≤ (rA (l.getD i []) 3).length → Runs lv1i (11, Tryd.f11, 0) fitk3 (fits3 l (i : Nat) (k : Nat) nm bd h wh va sz ob s d0 d1 d2 d3 d4 d5) (Is (.val (.bool true))) := by
  obtain ⟨r1, r2⟩ := chk_read hc
  have hl := (r2 i hi).1
  have hwi : IntKind.wrap .i64 ((i : Int) + 1) = ((i + 1 : Nat) : Int) := by rw [wrap64 (by omega) (by omega)]; omega
  intro t
  induction t with
  | nil =>
    intro k ht hk
    have h0 := lsd_nil ht
    refine Runs.of (fun q => fitp3 q l _ _ nm bd h wh va sz ob s d0 d1 d2 d3 d4 d5) ?_
    unfold fitt3
    simp only [Int.toNat_natCast, fitR, hwi]
    exact askT (andT (decT (by omega)) (decT (by omega))) (askF (decF (by omega)) H)
  | cons e t ih =>
    intro k ht hk
    obtain ⟨h1, h2, h3⟩ := lsd_cons ht
    have hw : IntKind.wrap .i64 ((k : Int) + 1) = ((k + 1 : Nat) : Int) := by rw [wrap64 (by omega) (by omega)]; omega
    have next := ih (k + 1) h3 (by omega)
    have f5 : ∀ b, b = false → Runs lv1i (11, Tryd.f11, 0) fitk5 (fits5 l (i : Nat) (k : Nat) b nm bd h wh va sz ob s d0 d1 d2 d3 d4 d5) (Is (.val (.bool true))) := by
      intro b hb
      refine Runs.of (fun q => fitp5 q l _ _ b nm bd h wh va sz ob s d0 d1 d2 d3 d4 d5) ?_
      unfold fitt5
      rw [hw]
      exact askF hb next
    refine Runs.of (fun q => fitp3 q l _ _ nm bd h wh va sz ob s d0 d1 d2 d3 d4 d5) ?_
    unfold fitt3
    simp only [Int.toNat_natCast, fitR, fitS, fitY, hwi, hw]
    refine askT (andT (decT (by omega)) (decT (by omega))) (askT (decT (by omega)) (askT (andT (decT (by omega)) (decT (by omega))) (askT (andT (decT (by omega)) (decT (by omega))) (ask (fun _ => next) (fun hn => askT (andT (decT (by omega)) (decT (by omega))) (askT (thr_pre hc hi h1) ?_))))))
    have hnm : rN (sy l i k) = nm := by
      rw [bytes_eq] at hn; simpa using hn
    show Runs _ _ _ _ _
    cases ht2 : thrB (rA (l.getD i []) 6) (rI (sy l i k) 1) (rI (sy l i k) 3) with
    | false =>
      refine Runs.of (fun q => fitp4z q l _ _ nm bd h wh va sz ob s d0 d1 d2 d3 d4 d5 _ _ _ _ _ _) ?_
      unfold fitt4z
      rw [hw]
      exact next
    | true =>
      have hF' := hF k h1 hnm ht2
      obtain ⟨b1, b2⟩ := bind_may hc hi h1
      have b0 := hg i k hi h1
      have b3 := where_may hc hi h1
      unfold thrB at ht2
      simp only [Bool.and_eq_true, decide_eq_true_eq] at ht2
      have t1 := ht2.1
      have t2 := ht2.2.1
      clear hF ih hn h2 h3 ht hnm ht2
      generalize rI (sy l i k) 1 = x1 at hF' b1 b2 b0 t1 ⊢
      generalize rI (sy l i k) 3 = x3 at hF' b2 b3 t2 ⊢
      generalize rI (sy l i k) 5 = x5 at hF' ⊢
      clear hl r1 r2 hwi
      obtain ⟨f0, f1, f2, f3⟩ := hF'
      show Runs _ _ _ (fits4 _ _ _ false _ _ _ _ _ _ _ _ _ _ _ _ _ _ _ _ _ _ _ _) _
      have c1 : x1 = 1 ∨ x1 = 2 := by omega
      have c3 : x3 = -2 ∨ x3 = -1 ∨ ∃ w : Nat, x3 = Int.ofNat w := by
        by_cases e : x3 = -2
        · exact .inl e
        · by_cases e2 : x3 = -1
          · exact .inr (.inl e2)
          · exact .inr (.inr ⟨x3.toNat, by show x3 = ((x3.toNat : Nat) : Int); omega⟩)
      rcases c1 with rfl | rfl
      · rcases c3 with rfl | rfl | ⟨w, rfl⟩
        · refine Runs.of (fun q => fitp4a q l _ _ nm bd h wh va sz ob s d0 d1 d2 d3 d4 d5 _ _ _ _) ?_
          unfold fitt4a
          have g3 := f3 rfl
          clear f1 f2 f3 next H hw b0 b1 b2 b3 t1 t2
          repeat' (refine ask (fun _ => ?_) (fun _ => ?_))
          all_goals (try simp only [beq_iff_eq, bne_iff_ne, ne_eq, decide_eq_true_eq, decide_eq_false_iff_not, beq_eq_false_iff_ne, bne_eq_false_iff_eq, Bool.not_eq_true', Bool.not_eq_false', gt_iff_lt] at *)
          all_goals (first | exact f5 _ rfl | exact f5 _ (decF (by omega)) | (exfalso; omega))
        · refine Runs.of (fun q => fitp4b q l _ _ nm bd h wh va sz ob s d0 d1 d2 d3 d4 d5 _ _ _ _) ?_
          unfold fitt4b
          have g1 := f1 rfl (by decide)
          clear f1 f2 f3 next H hw b0 b1 b2 b3 t1 t2
          repeat' (refine ask (fun _ => ?_) (fun _ => ?_))
          all_goals (try simp only [beq_iff_eq, bne_iff_ne, ne_eq, decide_eq_true_eq, decide_eq_false_iff_not, beq_eq_false_iff_ne, bne_eq_false_iff_eq, Bool.not_eq_true', Bool.not_eq_false', gt_iff_lt] at *)
          all_goals (first | exact f5 _ rfl | exact f5 _ (decF (by omega)) | (exfalso; omega))
        · refine Runs.of (fun q => fitp4c q l _ _ nm bd h wh va sz ob s d0 d1 d2 d3 d4 d5 _ _ _ _ w) ?_
          unfold fitt4c
          have g1 := f1 rfl (by intro e; cases e)
          clear f1 f2 f3 next H hw b0 b1 b2 b3 t1 t2
          repeat' (refine ask (fun _ => ?_) (fun _ => ?_))
          all_goals (try simp only [beq_iff_eq, bne_iff_ne, ne_eq, decide_eq_true_eq, decide_eq_false_iff_not, beq_eq_false_iff_ne, bne_eq_false_iff_eq, Bool.not_eq_true', Bool.not_eq_false', gt_iff_lt] at *)
          all_goals (first | exact f5 _ rfl | exact f5 _ (decF (by omega)) | (exfalso; omega))
      · rcases c3 with rfl | rfl | ⟨w, rfl⟩
        · exact absurd (b2 rfl) (by decide)
        · refine Runs.of (fun q => fitp4d q l _ _ nm bd h wh va sz ob s d0 d1 d2 d3 d4 d5 _ _ _ _) ?_
          unfold fitt4d
          have g2 := f2 rfl
          clear f1 f2 f3 next H hw b0 b1 b2 b3 t1 t2
          repeat' (refine ask (fun _ => ?_) (fun _ => ?_))
          all_goals (try simp only [beq_iff_eq, bne_iff_ne, ne_eq, decide_eq_true_eq, decide_eq_false_iff_not, beq_eq_false_iff_ne, bne_eq_false_iff_eq, Bool.not_eq_true', Bool.not_eq_false', gt_iff_lt] at *)
          all_goals (first | exact f5 _ rfl | exact f5 _ (decF (by omega)) | (exfalso; omega))
        · refine Runs.of (fun q => fitp4e q l _ _ nm bd h wh va sz ob s d0 d1 d2 d3 d4 d5 _ _ _ _ w) ?_
          unfold fitt4e
          have g2 := f2 rfl
          clear f1 f2 f3 next H hw b0 b1 b2 b3 t1 t2
          repeat' (refine ask (fun _ => ?_) (fun _ => ?_))
          all_goals (try simp only [beq_iff_eq, bne_iff_ne, ne_eq, decide_eq_true_eq, decide_eq_false_iff_not, beq_eq_false_iff_ne, bne_eq_false_iff_eq, Bool.not_eq_true', Bool.not_eq_false', gt_iff_lt] at *)
          all_goals (first | exact f5 _ rfl | exact f5 _ (decF (by omega)) | (exfalso; omega))
theorem runs_fit2 (l : List (List D)) (hc : chkL l = true) (hg : KindsOk l) (nm : ByteArray) (bd : Int) (h : Bool) (wh va sz ob s : Int) (d0 : ByteArray) (d1 : Int) (d2 : Bool) (d3 d4 d5 : Int) (hF : ∀ i k, i < l.length → k < (rA (l.getD i []) 3).length → FitAt l nm ob s d3 d5 i k) :
    ∀ (t : List (List D)) (i : Nat), l.drop i = t → i ≤ l.length → Runs lv1i (11, Tryd.f11, 0) fitk2 (fits2 l (i : Nat) nm bd h wh va sz ob s d0 d1 d2 d3 d4 d5) (Is (.val (.bool true))) := by
  obtain ⟨r1, r2⟩ := chk_read hc
  intro t
  induction t with
  | nil =>
    intro i ht hi
    have h0 := lsd_nil ht
    refine Runs.of (fun q => fitp2 q l _ nm bd h wh va sz ob s d0 d1 d2 d3 d4 d5) ?_
    unfold fitt2
    exact askF (decF (by omega)) (is_refl rfl)
  | cons e t ih =>
    intro i ht hi
    obtain ⟨h1, h2, h3⟩ := lsd_cons ht
    refine Runs.of (fun q => fitp2 q l _ nm bd h wh va sz ob s d0 d1 d2 d3 d4 d5) ?_
    unfold fitt2
    exact askT (decT (by omega)) (runs_fit3 l hc hg nm bd h wh va sz ob s d0 d1 d2 d3 d4 d5 i h1 (fun k => hF i k h1) (ih (i + 1) h3 (by omega)) _ 0 rfl (by omega))
theorem con_fit : ∀ vs v, pFit vs = true → gFit vs = some v → Contract Tryd.prog 11 vs [] (v, []) := by
  intro vs v hp h
  unfold gFit at h
  split at h <;> cases h
  rename_i l nm bd hd wh va sz ob s
  have hp' : fitOk l nm bd ob s = true := hp
  simp only [fitOk, Bool.and_eq_true, decide_eq_true_eq] at hp'
  obtain ⟨⟨hc, hg⟩, f1, f2, f3⟩ := hp'
  refine el_con lv1_ok Tryd.func11 (by kernel_rfl) (by kernel_rfl) rfl (by kernel_rfl) (by kernel_rfl) (Runs.of (fun q => fitp0 q l nm bd hd wh va sz ob s) ?_)
  unfold fitt0
  simp only [fitR, fitS, fitY]
  by_cases h0 : 0 ≤ ob
  · obtain ⟨g1, g2, g3, g4, g5⟩ := f2 h0
    obtain ⟨a, rfl⟩ : ∃ a : Nat, ob = a := ⟨ob.toNat, by omega⟩
    obtain ⟨b, rfl⟩ : ∃ b : Nat, s = b := ⟨s.toNat, by omega⟩
    simp only [Int.toNat_natCast] at g3 g4 g5 f3 ⊢
    refine askT (decT h0) (askF (decF (by omega)) (askF (decF (by omega)) (askT (andT (decT (by omega)) (decT (by omega))) (askF (decF (by omega)) (askT (andT (decT (by omega)) (decT (by omega))) (askT (andT (decT (by omega)) (decT (by omega))) ?_))))))
    refine Runs.of (fun q => fitp1 q l nm bd hd wh va sz a b _ _ _ _ _ _) ?_
    unfold fitt1
    simp only [Int.toNat_natCast, fitR]
    refine askF ?_ (askT (andT (decT (by omega)) (decT (by omega))) (askT (thr_pre hc (by omega) (by omega)) (askF (by rw [g5]; rfl) ?_)))
    · rw [bytes_eq, g4]; simp
    · exact runs_fit2 l hc hg nm bd hd wh va sz a b _ _ _ _ _ _ (fun i k hi hk hn ht => f3 i k hi hk hn ht) _ 0 rfl (by omega)
  · refine askF (decF h0) (askF (beq_eq_false_iff_ne.2 fun e => h0 (f1 e)) ?_)
    exact runs_fit2 l hc hg nm bd hd wh va sz ob s _ _ _ _ _ _ (fun i k hi hk hn ht => absurd (f3 i k hi hk hn ht).1 h0) _ 0 rfl (by omega)
theorem lv2_ok : ExtAll Tryd.prog lv2 := .normP con_fit (.norm con_all lv1_ok)
end Go.Proofs.YtacfehneeanlgaaDoor.Ev
namespace Go.Proofs.YtacfehneeanlgaaDoor.Ev
open Go
set_option linter.unusedVariables false
set_option linter.unusedSimpArgs false
theorem rows_at (l : List (List D)) {i : Nat} (hi : i < l.length) : (cellA (bindD l) i 0).length = (rA (l.getD i []) 3).length := by rw [bindD_at hi, rowD_length]
theorem bnd_ob {l : List (List D)} {i k : Nat} (hi : i < l.length) (h : k < (rA (l.getD i []) 3).length) : cellI (cellA (bindD l) i 0) k 0 = (bndOf l i k).1 := by rw [bindD_at hi, rowD_ob h]
theorem bnd_sy {l : List (List D)} {i k : Nat} (hi : i < l.length) (h : k < (rA (l.getD i []) 3).length) : cellI (cellA (bindD l) i 0) k 1 = (bndOf l i k).2 := by rw [bindD_at hi, rowD_sy h]
abbrev okQ : R → Prop := Is (.val (.bool true))
/-- One symbol against all. -/
theorem runs_rg9 (l : List (List D)) (hc : chkL l = true) (i k : Nat) (hi : i < l.length) (hki : k < (rA (l.getD i []) 3).length) (b1 : Int) (b2 : Bool) (b3 b4 b5 : Int) (hb : rI (sy l i k) 1 ≠ 0) (n : Nat) (hn : n < l.length)
    (H : Runs lv2i (3, Tryd.f3, 0) rgtk8 (rgts8 l true (bindD l) (i : Nat) (k : Nat) ((n + 1 : Nat) : Int) (rN (sy l i k)) b1 b2 b3 b4 b5) okQ) :
    ∀ (t : List (List D)) (m : Nat), (rA (l.getD n []) 3).drop m = t → m ≤ (rA (l.getD n []) 3).length → Runs lv2i (3, Tryd.f3, 0) rgtk9 (rgts9 l true (bindD l) (i : Nat) (k : Nat) (n : Nat) (m : Nat) (rN (sy l i k)) b1 b2 b3 b4 b5) okQ := by
  obtain ⟨r1, r2⟩ := chk_read hc
  have hl := (r2 n hn).1
  have hwn : IntKind.wrap .i64 ((n : Int) + 1) = ((n + 1 : Nat) : Int) := by rw [wrap64 (by omega) (by omega)]; omega
  have el := bindD_length l
  have ei := rows_at l hi
  have en := rows_at l hn
  intro t
  induction t with
  | nil =>
    intro m ht hm
    have h0 := lsd_nil ht
    refine Runs.of (fun q => rgtp9 q l true (bindD l) _ _ _ _ _ b1 b2 b3 b4 b5) ?_
    unfold rgtt9
    simp only [Int.toNat_natCast, fitR l, hwn, el]
    exact askT (andT (decT (by omega)) (decT (by omega))) (askF (decF (by omega)) H)
  | cons e t ih =>
    intro m ht hm
    obtain ⟨h1, h2, h3⟩ := lsd_cons ht
    have hw : IntKind.wrap .i64 ((m : Int) + 1) = ((m + 1 : Nat) : Int) := by rw [wrap64 (by omega) (by omega)]; omega
    have next := ih (m + 1) h3 (by omega)
    refine Runs.of (fun q => rgtp9 q l true (bindD l) _ _ _ _ _ b1 b2 b3 b4 b5) ?_
    unfold rgtt9
    simp only [Int.toNat_natCast, fitR l, el]
    refine askT (andT (decT (by omega)) (decT (by omega))) (askT (decT (by omega)) (askT (andT (decT (by omega)) (decT (by omega))) ?_))
    refine Runs.of (fun q => rgtp10 q l true (bindD l) _ _ _ _ _ _ b1 b2 b3 b4 b5) ?_
    unfold rgtt10
    simp only [Int.toNat_natCast, fitR l, fitS, fitY, el, hwn]
    refine askT (decT (by omega)) (askT (andT (decT (by omega)) (decT (by omega))) (askT (andT (decT (by omega)) (decT (by omega))) ?_))
    refine Runs.of (fun q => rgtp11 q l true (bindD l) _ _ _ _ _ b1 b2 b3 b4 b5 _ _ _ _ _ _) ?_
    unfold rgtt11
    simp only [Int.toNat_natCast, el, hw]
    refine ask (fun g1 => ask (fun g2 => ?_) (fun _ => next)) (fun _ => next)
    refine askT (andT (decT (by omega)) (decT (by omega))) (askT (andT (decT (by omega)) (decT (by omega))) (askT (andT (decT (by omega)) (decT (by omega))) (askT (andT (decT (by omega)) (decT (by omega))) ?_)))
    refine Runs.of (fun q => rgtp12 q l true (bindD l) _ _ _ _ _ _ b1 b2 b3 b4 b5) ?_
    unfold rgtt12
    rw [hw]
    refine askF ?_ next
    rw [bytes_eq] at g2
    have e1 : bndOf l n m = bndOf l i k := bnd_name hb (by simpa using g1) (of_decide_eq_true g2)
    rw [bnd_ob hn h1, bnd_sy hn h1, bnd_ob hi hki, bnd_sy hi hki, e1]
    simp
theorem runs_rg8 (l : List (List D)) (hc : chkL l = true) (i k : Nat) (hi : i < l.length) (hki : k < (rA (l.getD i []) 3).length) (b1 : Int) (b2 : Bool) (b3 b4 b5 : Int) (hb : rI (sy l i k) 1 ≠ 0)
    (H : Runs lv2i (3, Tryd.f3, 0) rgtk5 (rgts5 l true (bindD l) (i : Nat) ((k + 1 : Nat) : Int)) okQ) :
    ∀ (t : List (List D)) (n : Nat), l.drop n = t → n ≤ l.length → Runs lv2i (3, Tryd.f3, 0) rgtk8 (rgts8 l true (bindD l) (i : Nat) (k : Nat) (n : Nat) (rN (sy l i k)) b1 b2 b3 b4 b5) okQ := by
  obtain ⟨r1, r2⟩ := chk_read hc
  have hl := (r2 i hi).1
  have hwk : IntKind.wrap .i64 ((k : Int) + 1) = ((k + 1 : Nat) : Int) := by rw [wrap64 (by omega) (by omega)]; omega
  intro t
  induction t with
  | nil =>
    intro n ht hn
    have h0 := lsd_nil ht
    refine Runs.of (fun q => rgtp8 q l true (bindD l) _ _ _ _ b1 b2 b3 b4 b5) ?_
    unfold rgtt8
    rw [hwk]
    exact askF (decF (by omega)) H
  | cons e t ih =>
    intro n ht hn
    obtain ⟨h1, h2, h3⟩ := lsd_cons ht
    refine Runs.of (fun q => rgtp8 q l true (bindD l) _ _ _ _ b1 b2 b3 b4 b5) ?_
    unfold rgtt8
    exact askT (decT (by omega)) (runs_rg9 l hc i k hi hki b1 b2 b3 b4 b5 hb n h1 (ih (n + 1) h3 (by omega)) _ 0 rfl (by omega))
theorem runs_rg5 (l : List (List D)) (hc : chkL l = true) (hg : KindsOk l) (hd : doubleB l = false) (hk : lackN l = []) (i : Nat) (hi : i < l.length)
    (H : Runs lv2i (3, Tryd.f3, 0) rgtk3 (rgts3 l true (bindD l) ((i + 1 : Nat) : Int)) okQ) :
    ∀ (t : List (List D)) (k : Nat), (rA (l.getD i []) 3).drop k = t → k ≤ (rA (l.getD i []) 3).length → Runs lv2i (3, Tryd.f3, 0) rgtk5 (rgts5 l true (bindD l) (i : Nat) (k : Nat)) okQ := by
  obtain ⟨r1, r2⟩ := chk_read hc
  have hl := (r2 i hi).1
  have hwi : IntKind.wrap .i64 ((i : Int) + 1) = ((i + 1 : Nat) : Int) := by rw [wrap64 (by omega) (by omega)]; omega
  have el := bindD_length l
  have ei := rows_at l hi
  intro t
  induction t with
  | nil =>
    intro k ht hk'
    have h0 := lsd_nil ht
    refine Runs.of (fun q => rgtp5 q l true (bindD l) _ _) ?_
    unfold rgtt5
    simp only [Int.toNat_natCast, fitR l, hwi, el, ei]
    exact askT (andT (decT (by omega)) (decT (by omega))) (askF (decF (by omega)) H)
  | cons e t ih =>
    intro k ht hk'
    obtain ⟨h1, h2, h3⟩ := lsd_cons ht
    have hw : IntKind.wrap .i64 ((k : Int) + 1) = ((k + 1 : Nat) : Int) := by rw [wrap64 (by omega) (by omega)]; omega
    have next := ih (k + 1) h3 (by omega)
    refine Runs.of (fun q => rgtp5 q l true (bindD l) _ _) ?_
    unfold rgtt5
    simp only [Int.toNat_natCast, fitR l, fitS, fitY, el, ei]
    refine askT (andT (decT (by omega)) (decT (by omega))) (askT (decT (by omega)) (askT (andT (decT (by omega)) (decT (by omega))) (askT (andT (decT (by omega)) (decT (by omega))) ?_)))
    refine Runs.of (fun q => rgtp6 q l true (bindD l) _ _ _ _ _ _ _ _) ?_
    unfold rgtt6
    simp only [Int.toNat_natCast, el, ei, hw]
    refine ask (fun _ => next) (fun g1 => ?_)
    have hb : rI (sy l i k) 1 ≠ 0 := by simpa using g1
    refine askT (andT (decT (by omega)) (decT (by omega))) (askT (andT (decT (by omega)) (decT (by omega))) (askT ?_ ?_))
    · show fitOk l (rN (sy l i k)) (rI (sy l i k) 1) (cellI (cellA (bindD l) i 0) k 0) (cellI (cellA (bindD l) i 0) k 1) = true
      rw [bnd_ob hi h1, bnd_sy hi h1]
      simp only [fitOk, Bool.and_eq_true, decide_eq_true_eq]
      exact ⟨⟨hc, hg⟩, fit_right hc hd hk hi h1 hb⟩
    · refine Runs.of (fun q => rgtp7 q l true (bindD l) _ _ false _ _ _ _ _ _) ?_
      unfold rgtt7
      exact askF rfl (runs_rg8 l hc i k hi h1 _ _ _ _ _ hb next _ 0 rfl (by omega))
theorem runs_rg3 (l : List (List D)) (hc : chkL l = true) (hg : KindsOk l) (hd : doubleB l = false) (hk : lackN l = []) : ∀ (t : List (List D)) (i : Nat), l.drop i = t → i ≤ l.length → Runs lv2i (3, Tryd.f3, 0) rgtk3 (rgts3 l true (bindD l) (i : Nat)) okQ := by
  obtain ⟨r1, r2⟩ := chk_read hc
  have el := bindD_length l
  intro t
  induction t with
  | nil =>
    intro i ht hi
    have h0 := lsd_nil ht
    refine Runs.of (fun q => rgtp3 q l true (bindD l) _) ?_
    unfold rgtt3
    exact askF (decF (by omega)) (is_refl rfl)
  | cons e t ih =>
    intro i ht hi
    obtain ⟨h1, h2, h3⟩ := lsd_cons ht
    have ei := rows_at l h1
    refine Runs.of (fun q => rgtp3 q l true (bindD l) _) ?_
    unfold rgtt3
    simp only [Int.toNat_natCast, fitR l, el, ei]
    refine askT (decT (by omega)) (askT (andT (decT (by omega)) (decT (by omega))) (askT (andT (decT (by omega)) (decT (by omega))) ?_))
    refine Runs.of (fun q => rgtp4 q l true (bindD l) _ _) ?_
    unfold rgtt4
    exact askF (by simp) (runs_rg5 l hc hg hd hk i h1 (ih (i + 1) h3 (by omega)) _ 0 rfl (by omega))
theorem kinds_of {l : List (List D)} (h : Good (.arr keptC) (.arr l)) : KindsOk l := fun i k hi hk => by
  have h1 := (good_kept h (getDm hi)).2.1.y
  obtain ⟨s, b, hd, w, v, z, e, hb, _⟩ := good_sym h1 (getDm hk)
  show 0 ≤ rI ((rA (l.getD i []) 3).getD k []) 1
  rw [e]; exact hb
theorem bindE_zero {l : List (List D)} (h : bindE l = 0) : chkL l = true ∧ doubleB l = false ∧ lackN l = [] := by
  unfold bindE at h
  split at h
  · cases h
  · rename_i h1
    split at h
    · cases h
    · rename_i h2
      split at h
      · rename_i h3
        exact ⟨by simpa using h1, by simpa using h2, h3⟩
      · cases h
theorem con_rgt (l : List (List D)) (h : Good (.arr keptC) (.arr l)) : Contract Tryd.prog 3 [.arr keptC l] [] (.val (.bool true), []) := by
  refine el_con lv2_ok Tryd.func3 (by kernel_rfl) (by kernel_rfl) rfl (by kernel_rfl) (by kernel_rfl) (Runs.of (fun q => rgtp0 q l) ?_)
  unfold rgtt0
  refine ask (fun _ => is_refl rfl) (fun hgr => askT (pre_of h hgr) (ask (fun h1 => ?_) (fun h1 => ?_)))
  · have hb : bindE l ≠ 0 := by simpa using h1
    rw [if_neg hb]
    refine Runs.of (fun q => rgtp1 q l true [] true) ?_
    unfold rgtt1
    exact askT rfl (is_refl rfl)
  · have hb : bindE l = 0 := by simpa using h1
    obtain ⟨hc, hd, hk⟩ := bindE_zero hb
    rw [if_pos hb]
    refine Runs.of (fun q => rgtp2 q l true (bindD l) false) ?_
    unfold rgtt2
    exact askF (by rw [bindD_length]; simp) (runs_rg3 l hc (kinds_of h) hd hk _ 0 rfl (by omega))
end Go.Proofs.YtacfehneeanlgaaDoor.Ev
