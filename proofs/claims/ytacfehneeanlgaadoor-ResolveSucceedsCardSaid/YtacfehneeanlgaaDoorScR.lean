/- ResolveSucceeds: that it answers true. -/
import Derived.Test.YtacfehneeanlgaaDoorScP
namespace Go.Proofs.YtacfehneeanlgaaDoor.Ev
open Go
set_option linter.unusedVariables false
set_option linter.unusedSimpArgs false
theorem scA (l : List (List D)) (i j : Nat) : cellA l i j = rA (l.getD i []) j := rfl
theorem scN (l : List (List D)) (i k : Nat) : cellS (rA (l.getD i []) 3) k 0 = rN (sy l i k) := rfl
theorem scY (l : List (List D)) (i k j : Nat) : cellI (rA (l.getD i []) 3) k j = rI (sy l i k) j := rfl
theorem sc_pre {l : List (List D)} (hc : chkL l = true) {i k : Nat} (hi : i < l.length) (hk : k < (rA (l.getD i []) 3).length) : (decide (rI (sy l i k) 3 ≤ ((rA (l.getD i []) 6).length : Nat)) && decide ((rA (l.getD i []) 6).length ≤ 1048576)) = true := by
  obtain ⟨_, r2⟩ := chk_read hc
  obtain ⟨_, h2, h3⟩ := r2 i hi
  exact andT (decT (h3 k hk).2) (decT (by omega))
theorem sc_kinds {l : List (List D)} (h : Good (.arr keptC) (.arr l)) : KindsOk l := fun i k hi hk => by
  have h1 := (good_kept h (getDm hi)).2.1.y
  obtain ⟨s, b, hd, w, v, z, e, hb, _⟩ := good_sym h1 (getDm hk)
  show 0 ≤ rI ((rA (l.getD i []) 3).getD k []) 1
  rw [e]; exact hb
def Dbl (l : List (List D)) : Prop := ∃ i k, i < l.length ∧ k < (rA (l.getD i []) 3).length ∧ Twice l i k
def No3 (l : List (List D)) (i : Nat) : Prop := ∀ i', i' < i → ∀ k, k < (rA (l.getD i' []) 3).length → ¬ Twice l i' k
def No4 (l : List (List D)) (i k : Nat) : Prop := No3 l i ∧ ∀ k', k' < k → ¬ Twice l i k'
def No9 (l : List (List D)) (i k n : Nat) : Prop := No4 l i k ∧ ∀ n', n' < n → ∀ m, m < (rA (l.getD n' []) 3).length → rN (sy l n' m) = rN (sy l i k) → ¬ Solid l n' m
def No10 (l : List (List D)) (i k n m : Nat) : Prop := No9 l i k n ∧ ∀ m', m' < m → rN (sy l n m') = rN (sy l i k) → ¬ Solid l n m'
/-- What the mark says. -/
def Mark (l : List (List D)) (b : Bool) (X : Prop) : Prop := (b = true → Dbl l) ∧ (b = false → X)
theorem Mark.imp {l : List (List D)} {b : Bool} {X Y : Prop} (h : Mark l b X) (f : X → Y) : Mark l b Y := ⟨h.1, fun e => f (h.2 e)⟩
theorem no10_9 {l : List (List D)} {i k n m : Nat} (hm : (rA (l.getD n []) 3).length ≤ m) (h : No10 l i k n m) : No9 l i k (n + 1) := ⟨h.1.1, fun n' h1 m' h2 => by
  by_cases e : n' < n
  · exact h.1.2 n' e m' h2
  · have e2 : n' = n := by omega
    subst e2
    exact h.2 m' (by omega)⟩
theorem no9_4 {l : List (List D)} {i k : Nat} (h : No9 l i k i) : No4 l i (k + 1) := ⟨h.1.1, fun k' h1 => by
  by_cases e : k' < k
  · exact h.1.2 k' e
  · have e2 : k' = k := by omega
    subst e2
    rintro ⟨_, n, m, hn, hm, he, hs⟩
    exact h.2 n hn m hm he hs⟩
theorem no4_skip {l : List (List D)} {i k : Nat} (h : No4 l i k) (hs : ¬ Solid l i k) : No4 l i (k + 1) := ⟨h.1, fun k' h1 => by
  by_cases e : k' < k
  · exact h.2 k' e
  · have e2 : k' = k := by omega
    subst e2
    exact fun h2 => hs h2.1⟩
theorem no4_3 {l : List (List D)} {i k : Nat} (hk : (rA (l.getD i []) 3).length ≤ k) (h : No4 l i k) : No3 l (i + 1) := fun i' h1 k' h2 => by
  by_cases e : i' < i
  · exact h.1 i' e k' h2
  · have e2 : i' = i := by omega
    subst e2
    exact h.2 k' (by omega)
abbrev scQ : R → Prop := Is (.val (.bool true))
theorem runs_sc10 (l : List (List D)) (hc : chkL l = true) (bE : Int) (lk : List (List D)) (z : Int) (i k : Nat) (hi : i < l.length) (hki : k < (rA (l.getD i []) 3).length) (hs : Solid l i k) (b1 : Int) (b2 : Bool) (b3 b4 b5 : Int) (n : Nat) (hn : n < i)
    (H : ∀ b, Mark l b (No9 l i k (n + 1)) → Runs lv3i (6, Tryd.f6, 0) suck9 (sucs9 l true bE lk z b (i : Nat) (k : Nat) ((n + 1 : Nat) : Int) (rN (sy l i k)) b1 b2 b3 b4 b5) scQ) :
    ∀ (t : List (List D)) (m : Nat) (b : Bool), (rA (l.getD n []) 3).drop m = t → m ≤ (rA (l.getD n []) 3).length → Mark l b (No10 l i k n m) → Runs lv3i (6, Tryd.f6, 0) suck10 (sucs10 l true bE lk z b (i : Nat) (k : Nat) (n : Nat) (m : Nat) (rN (sy l i k)) b1 b2 b3 b4 b5) scQ := by
  obtain ⟨r1, r2⟩ := chk_read hc
  have hl := (r2 n (by omega)).1
  have hwn : IntKind.wrap .i64 ((n : Int) + 1) = ((n + 1 : Nat) : Int) := by rw [wrap64 (by omega) (by omega)]; omega
  intro t
  induction t with
  | nil =>
    intro m b ht hm hM
    have h0 := lsd_nil ht
    refine Runs.of (fun q => sucp10 q l true bE lk z b _ _ _ _ _ b1 b2 b3 b4 b5) ?_
    unfold suct10
    simp only [Int.toNat_natCast, scA, hwn]
    exact askT (andT (decT (by omega)) (decT (by omega))) (askF (decF (by omega)) (H b (hM.imp (no10_9 h0))))
  | cons e t ih =>
    intro m b ht hm hM
    obtain ⟨h1, h2, h3⟩ := lsd_cons ht
    have hw : IntKind.wrap .i64 ((m : Int) + 1) = ((m + 1 : Nat) : Int) := by rw [wrap64 (by omega) (by omega)]; omega
    have next := fun b' => ih (m + 1) b' h3 (by omega)
    refine Runs.of (fun q => sucp10 q l true bE lk z b _ _ _ _ _ b1 b2 b3 b4 b5) ?_
    unfold suct10
    simp only [Int.toNat_natCast, scA, scN, scY, hwn]
    refine askT (andT (decT (by omega)) (decT (by omega))) (askT (decT (by omega)) (askT (andT (decT (by omega)) (decT (by omega))) (askT (andT (decT (by omega)) (decT (by omega))) ?_)))
    refine Runs.of (fun q => sucp11 q l true bE lk z b _ _ _ _ _ b1 b2 b3 b4 b5 _ _ _ _ _ _) ?_
    unfold suct11
    simp only [Int.toNat_natCast, scA, hw]
    have skip : b = false → ¬ (rN (sy l n m) = rN (sy l i k) ∧ Solid l n m) → Mark l false (No10 l i k n (m + 1)) := fun hb hx => ⟨fun e => (by cases e), fun _ => ⟨(hM.2 hb).1, fun m' hm' he => by
      by_cases e : m' < m
      · exact (hM.2 hb).2 m' e he
      · have e2 : m' = m := by omega
        subst e2
        exact fun h4 => hx ⟨he, h4⟩⟩⟩
    refine ask (fun hb => ?_) (fun hb => ask (fun he => askT (andT (decT (by omega)) (decT (by omega))) (askT (sc_pre hc (by omega) h1) (ask (fun ht2 => ask (fun h4 => ?_) (fun h4 => ?_)) (fun ht2 => ?_)))) (fun he => ?_))
    · exact next true ⟨fun _ => hM.1 hb, fun e => (by cases e)⟩
    · refine Runs.of (fun q => sucp12 q l true bE lk z _ _ _ _ _ _ b1 b2 b3 b4 b5) ?_
      unfold suct12
      rw [hw]
      have h4' : rI (sy l n m) 1 = 1 := by simpa using h4
      rw [bytes_eq] at he
      cases hx : (rI (sy l n m) 3 != (-2 : Int)) with
      | true =>
        exact next true ⟨fun _ => ⟨i, k, hi, hki, hs, n, m, hn, h1, of_decide_eq_true he, ht2, h4', by simpa using hx⟩, fun e => (by cases e)⟩
      | false =>
        exact next false (skip hb fun h5 => h5.2.2.2 (by simpa using hx))
    · refine Runs.of (fun q => sucp12 q l true bE lk z _ _ _ _ _ _ b1 b2 b3 b4 b5) ?_
      unfold suct12
      rw [hw]
      exact next false (skip hb fun h5 => by rw [h5.2.2.1] at h4; cases h4)
    · refine Runs.of (fun q => sucp12 q l true bE lk z _ _ _ _ _ _ b1 b2 b3 b4 b5) ?_
      unfold suct12
      rw [hw]
      exact next false (skip hb fun h5 => by rw [h5.2.1] at ht2; cases ht2)
    · rw [bytes_eq] at he
      exact next false (skip hb fun h5 => of_decide_eq_false he h5.1)
theorem runs_sc9 (l : List (List D)) (hc : chkL l = true) (bE : Int) (lk : List (List D)) (z : Int) (i k : Nat) (hi : i < l.length) (hki : k < (rA (l.getD i []) 3).length) (hs : Solid l i k) (b1 : Int) (b2 : Bool) (b3 b4 b5 : Int)
    (H : ∀ b, Mark l b (No4 l i (k + 1)) → Runs lv3i (6, Tryd.f6, 0) suck4 (sucs4 l true bE lk z b (i : Nat) ((k + 1 : Nat) : Int)) scQ) :
    ∀ (d n : Nat) (b : Bool), d = i - n → n ≤ i → Mark l b (No9 l i k n) → Runs lv3i (6, Tryd.f6, 0) suck9 (sucs9 l true bE lk z b (i : Nat) (k : Nat) (n : Nat) (rN (sy l i k)) b1 b2 b3 b4 b5) scQ := by
  obtain ⟨r1, r2⟩ := chk_read hc
  have hl := (r2 i hi).1
  have hwk : IntKind.wrap .i64 ((k : Int) + 1) = ((k + 1 : Nat) : Int) := by rw [wrap64 (by omega) (by omega)]; omega
  intro d
  induction d with
  | zero =>
    intro n b hd hn hM
    obtain rfl : n = i := by omega
    refine Runs.of (fun q => sucp9 q l true bE lk z b _ _ _ _ b1 b2 b3 b4 b5) ?_
    unfold suct9
    rw [hwk]
    exact askF (decF (by omega)) (H b (hM.imp no9_4))
  | succ d ih =>
    intro n b hd hn hM
    refine Runs.of (fun q => sucp9 q l true bE lk z b _ _ _ _ b1 b2 b3 b4 b5) ?_
    unfold suct9
    refine askT (decT (by omega)) ?_
    exact runs_sc10 l hc bE lk z i k hi hki hs b1 b2 b3 b4 b5 n (by omega) (fun b' h' => ih (n + 1) b' (by omega) (by omega) h') _ 0 b rfl (by omega) (hM.imp fun h => ⟨h, fun m' h => absurd h (by omega)⟩)
theorem runs_sc4 (l : List (List D)) (hc : chkL l = true) (bE : Int) (lk : List (List D)) (z : Int) (i : Nat) (hi : i < l.length)
    (H : ∀ b, Mark l b (No3 l (i + 1)) → Runs lv3i (6, Tryd.f6, 0) suck3 (sucs3 l true bE lk z b ((i + 1 : Nat) : Int)) scQ) :
    ∀ (t : List (List D)) (k : Nat) (b : Bool), (rA (l.getD i []) 3).drop k = t → k ≤ (rA (l.getD i []) 3).length → Mark l b (No4 l i k) → Runs lv3i (6, Tryd.f6, 0) suck4 (sucs4 l true bE lk z b (i : Nat) (k : Nat)) scQ := by
  obtain ⟨r1, r2⟩ := chk_read hc
  have hl := (r2 i hi).1
  have hwi : IntKind.wrap .i64 ((i : Int) + 1) = ((i + 1 : Nat) : Int) := by rw [wrap64 (by omega) (by omega)]; omega
  intro t
  induction t with
  | nil =>
    intro k b ht hk hM
    have h0 := lsd_nil ht
    refine Runs.of (fun q => sucp4 q l true bE lk z b _ _) ?_
    unfold suct4
    simp only [Int.toNat_natCast, scA, hwi]
    exact askT (andT (decT (by omega)) (decT (by omega))) (askF (decF (by omega)) (H b (hM.imp (no4_3 h0))))
  | cons e t ih =>
    intro k b ht hk hM
    obtain ⟨h1, h2, h3⟩ := lsd_cons ht
    have hw : IntKind.wrap .i64 ((k : Int) + 1) = ((k + 1 : Nat) : Int) := by rw [wrap64 (by omega) (by omega)]; omega
    have next := fun b' => ih (k + 1) b' h3 (by omega)
    have skip : ¬ Solid l i k → ∀ b1 b2 b3 b4 b5 b6, Runs lv3i (6, Tryd.f6, 0) suck8 (sucs8 l true bE lk z b (i : Nat) (k : Nat) true b1 b2 b3 b4 b5 b6) scQ := fun hx b1 b2 b3 b4 b5 b6 => by
      refine Runs.of (fun q => sucp8 q l true bE lk z b _ _ true b1 b2 b3 b4 b5 b6) ?_
      unfold suct8
      rw [hw]
      exact askT rfl (next b (hM.imp fun h => no4_skip h hx))
    refine Runs.of (fun q => sucp4 q l true bE lk z b _ _) ?_
    unfold suct4
    simp only [Int.toNat_natCast, scA, scN, scY, hwi]
    refine askT (andT (decT (by omega)) (decT (by omega))) (askT (decT (by omega)) (askT (andT (decT (by omega)) (decT (by omega))) (askT (andT (decT (by omega)) (decT (by omega))) ?_)))
    refine Runs.of (fun q => sucp7 q l true bE lk z b _ _ _ _ _ _ _ _) ?_
    unfold suct7
    simp only [Int.toNat_natCast, scA]
    refine askT (andT (decT (by omega)) (decT (by omega))) (askT (sc_pre hc hi h1) (ask (fun g1 => skip (fun h5 => by rw [h5.1] at g1; cases g1) _ _ _ _ _ _) (fun g1 => ask (fun g2 => skip (fun h5 => by rw [h5.2.1] at g2; cases g2) _ _ _ _ _ _) (fun g2 => ?_))))
    cases g3 : (rI (sy l i k) 3 == (-2 : Int)) with
    | true => exact skip (fun h5 => h5.2.2 (by simpa using g3)) _ _ _ _ _ _
    | false =>
      have hs : Solid l i k := ⟨by simpa using g1, by simpa using g2, by simpa using g3⟩
      refine Runs.of (fun q => sucp8 q l true bE lk z b _ _ false _ _ _ _ _ _) ?_
      unfold suct8
      exact askF rfl (runs_sc9 l hc bE lk z i k hi h1 hs _ _ _ _ _ next i 0 b rfl (by omega) (hM.imp fun h => ⟨h, fun n' h => absurd h (by omega)⟩))
theorem runs_sc3 (l : List (List D)) (hc : chkL l = true) (hg : KindsOk l) : ∀ (t : List (List D)) (i : Nat) (b : Bool), l.drop i = t → i ≤ l.length → Mark l b (No3 l i) → Runs lv3i (6, Tryd.f6, 0) suck3 (sucs3 l true (bindE l) (lackD l) 0 b (i : Nat)) scQ := by
  intro t
  induction t with
  | nil =>
    intro i b ht hi hM
    have h0 := lsd_nil ht
    have hb : b = doubleB l := by
      cases b with
      | true => exact ((double_iff hc hg).2 (hM.1 rfl)).symm
      | false =>
        cases hd : doubleB l with
        | false => rfl
        | true =>
          obtain ⟨i', k', q1, q2, q3⟩ := (double_iff hc hg).1 hd
          exact absurd q3 (hM.2 rfl i' (by omega) k' q2)
    have hlk : (lackD l).length = (lackN l).length := by simp [lackD]
    refine Runs.of (fun q => sucp3 q l true (bindE l) (lackD l) 0 b _) ?_
    unfold suct3
    refine askF (decF (by omega)) (ask (fun g1 => ask (fun g2 => ?_) (fun g2 => ?_)) (fun g1 => ask (fun g2 => ?_) (fun g2 => ?_)))
    · refine Runs.of (fun q => sucp5 q true (bindE l) 0 _ _) ?_
      unfold suct5
      refine askT rfl (askT rfl (is_refl ?_))
      have : bindE l = 230 := by rw [bindE, if_neg (by rw [hc]; simp), if_pos (by rw [← hb]; exact g2)]
      rw [this]; rfl
    · refine Runs.of (fun q => sucp6 q true (bindE l) 0 _ _) ?_
      unfold suct6
      refine askT rfl (askT rfl (is_refl ?_))
      have g3 : lackN l ≠ [] := fun e => by rw [e] at hlk; rw [hlk] at g1; simp at g1
      have : bindE l = 231 := by rw [bindE, if_neg (by rw [hc]; simp), if_neg (by rw [← hb, g2]; simp), if_neg g3]
      rw [this]; rfl
    · refine Runs.of (fun q => sucp5 q true (bindE l) 0 _ _) ?_
      unfold suct5
      refine askT rfl (askT rfl (is_refl ?_))
      have : bindE l = 230 := by rw [bindE, if_neg (by rw [hc]; simp), if_pos (by rw [← hb]; exact g2)]
      rw [this]; rfl
    · refine Runs.of (fun q => sucp6 q true (bindE l) 0 _ _) ?_
      unfold suct6
      refine askT rfl (askT rfl (is_refl ?_))
      have g3 : lackN l = [] := by
        refine List.length_eq_zero_iff.1 ?_
        have := of_decide_eq_false g1
        omega
      have : bindE l = 0 := by rw [bindE, if_neg (by rw [hc]; simp), if_neg (by rw [← hb, g2]; simp), if_pos g3]
      rw [this]; rfl
  | cons e t ih =>
    intro i b ht hi hM
    obtain ⟨h1, h2, h3⟩ := lsd_cons ht
    refine Runs.of (fun q => sucp3 q l true (bindE l) (lackD l) 0 b _) ?_
    unfold suct3
    exact askT (decT (by omega)) (runs_sc4 l hc (bindE l) (lackD l) 0 i h1 (fun b' h' => ih (i + 1) b' h3 (by omega) h') _ 0 b rfl (by omega) (hM.imp fun h => ⟨h, fun k' h => absurd h (by omega)⟩))
theorem con_suc (l : List (List D)) (h : Good (.arr keptC) (.arr l)) : Contract Tryd.prog 6 [.arr keptC l] [] (.val (.bool true), []) := by
  refine el_con lv3_ok Tryd.func6 (by kernel_rfl) (by kernel_rfl) rfl (by kernel_rfl) (by kernel_rfl) (Runs.of (fun q => sucp0 q l) ?_)
  unfold suct0
  refine ask (fun _ => is_refl rfl) (fun hgr => askT (pre_of h hgr) (ask (fun h1 => ?_) (fun h1 => ?_)))
  · refine Runs.of (fun q => sucp1 q l true true) ?_
    unfold suct1
    exact is_refl rfl
  · have hc : chkL l = true := by
      cases hc : chkL l with
      | true => rfl
      | false => rw [hc] at h1; exact absurd h1 (by decide)
    refine Runs.of (fun q => sucp2 q l true false) ?_
    unfold suct2
    rw [if_pos hc, if_pos hc]
    exact askT (pre_of h hgr) (askT (pre_of h hgr) (runs_sc3 l hc (sc_kinds h) _ 0 false rfl (by omega) ⟨fun e => (by cases e), fun _ i' h => absurd h (by omega)⟩))
end Go.Proofs.YtacfehneeanlgaaDoor.Ev
