/- Being the same, twins, great objects: that the functions compute what XLsD says. -/
import Derived.Test.YtacfehneeanlgaaDoorLsP
import Derived.Test.YtacfehneeanlgaaDoorEmC
namespace Go.Proofs.YtacfehneeanlgaaDoor.Ev
open Go
set_option linter.unusedVariables false
set_option linter.unusedSimpArgs false
theorem lsd_cons {xs t : List (List D)} {e : List D} {i : Nat} (h : xs.drop i = e :: t) : i < xs.length ∧ xs.getD i [] = e ∧ xs.drop (i + 1) = t := by
  have hl : i < xs.length := by
    rcases Nat.lt_or_ge i xs.length with h' | h'
    · exact h'
    · rw [List.drop_eq_nil_of_le h'] at h; cases h
  rw [List.drop_eq_getElem_cons hl] at h
  obtain ⟨h1, h2⟩ := List.cons.inj h
  exact ⟨hl, by rw [List.getD_eq_getElem?_getD, List.getElem?_eq_getElem hl]; exact h1, h2⟩
theorem lsd_nil {xs : List (List D)} {i : Nat} (h : xs.drop i = []) : xs.length ≤ i := by
  have := congrArg List.length h
  rw [List.length_drop] at this
  simp only [List.length_nil] at this
  omega
theorem lsI {xs : List (List D)} {e : List D} {i : Nat} (h : xs.getD i [] = e) (j : Nat) : cellI xs i j = rI e j := by rw [cellI, h]; rfl
theorem lsS {xs : List (List D)} {e : List D} {i : Nat} (h : xs.getD i [] = e) (j : Nat) : cellS xs i j = rS e j := by rw [cellS, h]; rfl
theorem lsB {xs : List (List D)} {e : List D} {i : Nat} (h : xs.getD i [] = e) (j : Nat) : cellB xs i j = rB e j := by rw [cellB, h]; rfl
theorem lsA {xs : List (List D)} {e : List D} {i : Nat} (h : xs.getD i [] = e) (j : Nat) : cellA xs i j = rA e j := by rw [cellA, h]; rfl
theorem eqAll_ne {p : List D → List D → Bool} : ∀ {x y : List (List D)}, x.length ≠ y.length → eqAll p x y = false
  | [], [], h => absurd rfl h
  | [], _ :: _, _ => rfl
  | _ :: _, [], _ => rfl
  | a :: s, b :: t, h => by
    rw [eqAll, eqAll_ne (x := s) (y := t) (by simpa using h), Bool.and_false]
theorem drop_same {x y : List (List D)} {i : Nat} (hl : x.length = y.length) (hi : i < x.length) : y.drop i = y.getD i [] :: y.drop (i + 1) := by
  have hy : i < y.length := by omega
  rw [List.drop_eq_getElem_cons hy, List.getD_eq_getElem?_getD, List.getElem?_eq_getElem hy]; rfl
/-! ### Great -/
theorem min5_in (n : Int) (h : 0 ≤ n) : 0 ≤ min5 n ∧ min5 n ≤ 100000 := by
  unfold min5; split <;> omega
theorem min5_eq (n : Int) : (if (100000 : Int) < n then (100000 : Int) else n) = min5 n := by
  unfold min5; split <;> split <;> omega
theorem take_drop_cons {x t : List (List D)} {e : List D} {i n : Nat} (h : (x.take n).drop i = e :: t) : i < n ∧ i < x.length ∧ x.getD i [] = e ∧ (x.take n).drop (i + 1) = t := by
  obtain ⟨h1, h2, h3⟩ := lsd_cons h
  rw [List.length_take] at h1
  refine ⟨by omega, by omega, ?_, h3⟩
  rw [← h2, List.getD_eq_getElem?_getD, List.getD_eq_getElem?_getD, List.getElem?_take_of_lt (by omega)]
def grEnd (n : Int) (S Y L G : List (List D)) : Bool := decide (n > 80000) || decide (S.length > 30) || decide (Y.length > 100) || decide (L.length > 300) || decide (G.length > 30)
theorem grt_end (n : Int) (S Y L G : List (List D)) {I : Info} {fn : Nat × Func × Nat} : Tr.prop I fn (Is (.val (.bool (grEnd n S Y L G)))) (.ask (decide (n > (80000 : Int)))
  (.ret (.val (.bool (true)), []))
  (.ask (decide ((S.length : Int) > (30 : Int)))
  (.ret (.val (.bool (true)), []))
  (.ask (decide ((Y.length : Int) > (100 : Int)))
  (.ret (.val (.bool (true)), []))
  (.ask (decide ((L.length : Int) > (300 : Int)))
  (.ret (.val (.bool (true)), []))
  (.ret (.val (.bool (decide ((G.length : Int) > (30 : Int)))), [])))))) := by
  have c : ∀ (x : List (List D)) (k : Nat), decide ((x.length : Int) > (k : Int)) = decide (x.length > k) := fun x k => by
    rw [decide_eq_decide]; omega
  refine ask (fun h => is_refl ?_) (fun h1 => ask (fun h => is_refl ?_) (fun h2 => ask (fun h => is_refl ?_) (fun h3 => ask (fun h => is_refl ?_) (fun h4 => is_refl ?_))))
  · rw [grEnd, h]; rfl
  · rw [grEnd, ← c S 30, show decide ((S.length : Int) > ((30 : Nat) : Int)) = true from h]; simp
  · rw [grEnd, ← c Y 100, show decide ((Y.length : Int) > ((100 : Nat) : Int)) = true from h]; simp
  · rw [grEnd, ← c L 300, show decide ((L.length : Int) > ((300 : Nat) : Int)) = true from h]; simp
  · rw [grEnd, h1, ← c S 30, show decide ((S.length : Int) > ((30 : Nat) : Int)) = false from h2, ← c Y 100, show decide ((Y.length : Int) > ((100 : Nat) : Int)) = false from h3, ← c L 300, show decide ((L.length : Int) > ((300 : Nat) : Int)) = false from h4, ← c G 30]; rfl
theorem runs_gt3 (S Y L G : List (List D)) : ∀ (t : List (List D)) (i : Nat) (n : Int), (G.take 40).drop i = t → i ≤ 40 → i ≤ G.length → 0 ≤ n → n ≤ 100000000 + 200000 * i → Runs ld0i (21, Tryd.f21, 0) grtk3 (grts3 n (i : Nat) S Y L G) (Is (.val (.bool (grEnd (grG t n) S Y L G)))) := by
  intro t
  induction t with
  | nil =>
    intro i n ht hi hi2 h0 h1
    refine Runs.of (fun q => grtp3 q n _ S Y L G) ?_
    unfold grtt3
    have h2 := lsd_nil ht
    rw [List.length_take] at h2
    refine ask (fun ha => askF (decF (by have := of_decide_eq_true ha; omega)) (grt_end n S Y L G)) (fun ha => grt_end n S Y L G)
  | cons e t ih =>
    intro i n ht hi hi2 h0 h1
    obtain ⟨a1, a2, a3, a4⟩ := take_drop_cons ht
    refine Runs.of (fun q => grtp3 q n _ S Y L G) ?_
    unfold grtt3
    have hw : IntKind.wrap .i64 ((i : Int) + 1) = ((i + 1 : Nat) : Int) := by rw [wrap64 (by omega) (by omega)]; omega
    simp only [Int.toNat_natCast, lsS a3, lsA a3, hw, min5_eq]
    have m1 := min5_in ((rS e 0).size : Nat) (by omega)
    have m2 := min5_in ((rA e 1).length : Nat) (by omega)
    have w1 : IntKind.wrap .i64 (n + min5 ((rS e 0).size : Nat)) = n + min5 ((rS e 0).size : Nat) := wrap64 (by omega) (by omega)
    have w2 : IntKind.wrap .i64 (n + min5 ((rS e 0).size : Nat) + min5 ((rA e 1).length : Nat)) = n + min5 ((rS e 0).size : Nat) + min5 ((rA e 1).length : Nat) := wrap64 (by omega) (by omega)
    rw [w1, w2]
    refine askT (decT (by omega)) (askT (decT (by omega)) (askT (andT (decT (by omega)) (decT (by omega))) (askT (andT (decT (by omega)) (decT (by omega))) ?_)))
    exact ih (i + 1) _ a4 (by omega) (by omega) (by omega) (by omega)
theorem grY_in : ∀ (t : List (List D)) (n : Int), 0 ≤ n → 0 ≤ grY t n ∧ grY t n ≤ n + 100000 * t.length
  | [], n, h => ⟨h, by simp [grY]⟩
  | e :: t, n, h => by
    have m1 := min5_in ((rS e 0).size : Nat) (by omega)
    have := grY_in t (n + min5 ((rS e 0).size : Nat)) (by omega)
    rw [grY, List.length_cons]; omega
theorem runs_gt2 (S Y L G : List (List D)) : ∀ (t : List (List D)) (i : Nat) (n : Int), (Y.take 200).drop i = t → i ≤ 200 → i ≤ Y.length → 0 ≤ n → n ≤ 10000000 + 100000 * i → Runs ld0i (21, Tryd.f21, 0) grtk2 (grts2 n (i : Nat) S Y L G) (Is (.val (.bool (grEnd (grG (G.take 40) (grY t n)) S Y L G)))) := by
  intro t
  induction t with
  | nil =>
    intro i n ht hi hi2 h0 h1
    refine Runs.of (fun q => grtp2 q n _ S Y L G) ?_
    unfold grtt2
    have h2 := lsd_nil ht
    rw [List.length_take] at h2
    refine ask (fun ha => askF (decF (by have := of_decide_eq_true ha; omega)) (runs_gt3 S Y L G _ 0 n rfl (by omega) (by omega) h0 (by omega))) (fun ha => runs_gt3 S Y L G _ 0 n rfl (by omega) (by omega) h0 (by omega))
  | cons e t ih =>
    intro i n ht hi hi2 h0 h1
    obtain ⟨a1, a2, a3, a4⟩ := take_drop_cons ht
    refine Runs.of (fun q => grtp2 q n _ S Y L G) ?_
    unfold grtt2
    have hw : IntKind.wrap .i64 ((i : Int) + 1) = ((i + 1 : Nat) : Int) := by rw [wrap64 (by omega) (by omega)]; omega
    simp only [Int.toNat_natCast, lsS a3, lsA a3, hw, min5_eq]
    have m1 := min5_in ((rS e 0).size : Nat) (by omega)
    have w1 : IntKind.wrap .i64 (n + min5 ((rS e 0).size : Nat)) = n + min5 ((rS e 0).size : Nat) := wrap64 (by omega) (by omega)
    rw [w1]
    refine askT (decT (by omega)) (askT (decT (by omega)) (askT (andT (decT (by omega)) (decT (by omega))) ?_))
    exact ih (i + 1) _ a4 (by omega) (by omega) (by omega) (by omega)
theorem runs_gt1 (S Y L G : List (List D)) : ∀ (t : List (List D)) (i : Nat) (n : Int), (S.take 40).drop i = t → i ≤ 40 → i ≤ S.length → 0 ≤ n → n ≤ 200000 * i → Runs ld0i (21, Tryd.f21, 0) grtk1 (grts1 n (i : Nat) S Y L G) (Is (.val (.bool (grEnd (grG (G.take 40) (grY (Y.take 200) (grS t n))) S Y L G)))) := by
  intro t
  induction t with
  | nil =>
    intro i n ht hi hi2 h0 h1
    refine Runs.of (fun q => grtp1 q n _ S Y L G) ?_
    unfold grtt1
    have h2 := lsd_nil ht
    rw [List.length_take] at h2
    refine ask (fun ha => askF (decF (by have := of_decide_eq_true ha; omega)) (runs_gt2 S Y L G _ 0 n rfl (by omega) (by omega) h0 (by omega))) (fun ha => runs_gt2 S Y L G _ 0 n rfl (by omega) (by omega) h0 (by omega))
  | cons e t ih =>
    intro i n ht hi hi2 h0 h1
    obtain ⟨a1, a2, a3, a4⟩ := take_drop_cons ht
    refine Runs.of (fun q => grtp1 q n _ S Y L G) ?_
    unfold grtt1
    have hw : IntKind.wrap .i64 ((i : Int) + 1) = ((i + 1 : Nat) : Int) := by rw [wrap64 (by omega) (by omega)]; omega
    simp only [Int.toNat_natCast, lsS a3, lsA a3, hw, min5_eq]
    have m1 := min5_in ((rS e 0).size : Nat) (by omega)
    have m2 := min5_in ((rA e 2).length : Nat) (by omega)
    have w1 : IntKind.wrap .i64 (n + min5 ((rA e 2).length : Nat)) = n + min5 ((rA e 2).length : Nat) := wrap64 (by omega) (by omega)
    have w2 : IntKind.wrap .i64 (n + min5 ((rA e 2).length : Nat) + min5 ((rS e 0).size : Nat)) = n + min5 ((rA e 2).length : Nat) + min5 ((rS e 0).size : Nat) := wrap64 (by omega) (by omega)
    rw [w1, w2]
    refine askT (decT (by omega)) (askT (decT (by omega)) (askT (andT (decT (by omega)) (decT (by omega))) (askT (andT (decT (by omega)) (decT (by omega))) ?_)))
    exact ih (i + 1) _ a4 (by omega) (by omega) (by omega) (by omega)
theorem con_grt : ∀ vs v, gGrt vs = some v → Contract Tryd.prog 21 vs [] (v, []) := by
  intro vs v h
  unfold gGrt at h
  split at h <;> cases h
  rename_i S Y L G
  refine el_con ExtAll.nil Tryd.func21 (by kernel_rfl) (by kernel_rfl) rfl (by kernel_rfl) (by kernel_rfl) (Runs.of (fun q => grtp0 q S Y L G) ?_)
  unfold grtt0
  exact runs_gt1 S Y L G (S.take 40) 0 0 rfl (by omega) (by omega) (by omega) (by omega)
theorem ld1_ok : ExtAll Tryd.prog ld1 := .norm con_grt ExtAll.nil

end Go.Proofs.YtacfehneeanlgaaDoor.Ev
