/- Being the same, twins, great objects: that the functions compute what XLsD says. -/
import Derived.Test.YtkcopbnaleiocaaLsP
import Derived.Test.YtkcopbnaleiocaaEmC
namespace Go.Proofs.Ytkcopbnaleiocaa.Ev
open Go
set_option linter.unusedVariables false
set_option linter.unusedSimpArgs false
theorem lsd_cons {xs t : List (List D)} {e : List D} {i : Nat} (h : xs.drop i = e :: t) : i < xs.length ∧ xs.getD i [] = e ∧ xs.drop (i + 1) = t := by
  have hl : i < xs.length := by
    rcases Nat.lt_or_ge i xs.length with h' | h'
    · exact h'
    · rw [List.drop_eq_nil_of_le h'] at h; cases h
  rw [List.drop_eq_getElem_cons hl] at h
  obtain ⟨h1, h2⟩ := List.cons.inj h
  exact ⟨hl, by rw [List.getD_eq_getElem?_getD, List.getElem?_eq_getElem hl]; exact h1, h2⟩
theorem lsd_nil {xs : List (List D)} {i : Nat} (h : xs.drop i = []) : xs.length ≤ i := by
  have := congrArg List.length h
  rw [List.length_drop] at this
  simp only [List.length_nil] at this
  omega
theorem lsI {xs : List (List D)} {e : List D} {i : Nat} (h : xs.getD i [] = e) (j : Nat) : cellI xs i j = rI e j := by rw [cellI, h]; rfl
theorem lsS {xs : List (List D)} {e : List D} {i : Nat} (h : xs.getD i [] = e) (j : Nat) : cellS xs i j = rS e j := by rw [cellS, h]; rfl
theorem lsB {xs : List (List D)} {e : List D} {i : Nat} (h : xs.getD i [] = e) (j : Nat) : cellB xs i j = rB e j := by rw [cellB, h]; rfl
theorem lsA {xs : List (List D)} {e : List D} {i : Nat} (h : xs.getD i [] = e) (j : Nat) : cellA xs i j = rA e j := by rw [cellA, h]; rfl
theorem eqAll_ne {p : List D → List D → Bool} : ∀ {x y : List (List D)}, x.length ≠ y.length → eqAll p x y = false
  | [], [], h => absurd rfl h
  | [], _ :: _, _ => rfl
  | _ :: _, [], _ => rfl
  | a :: s, b :: t, h => by
    rw [eqAll, eqAll_ne (x := s) (y := t) (by simpa using h), Bool.and_false]
theorem drop_same {x y : List (List D)} {i : Nat} (hl : x.length = y.length) (hi : i < x.length) : y.drop i = y.getD i [] :: y.drop (i + 1) := by
  have hy : i < y.length := by omega
  rw [List.drop_eq_getElem_cons hy, List.getD_eq_getElem?_getD, List.getElem?_eq_getElem hy]; rfl
theorem runs_eqy (x y : List (List D)) (hl : x.length = y.length) (hx : x.length ≤ 70368744177664) : ∀ (t : List (List D)) (i : Nat), x.drop i = t → i ≤ x.length → eqAll sameSym t (y.drop i) = eqAll sameSym x y → Runs ld0i (71, Try.f71, 0) eqyk1 (eqys1 x y (x.length : Nat) (i : Nat)) (Is (.val (.bool (eqAll sameSym x y)))) := by
  intro t
  induction t with
  | nil =>
    intro i ht hi he
    refine Runs.of (fun q => eqyp1 q x y _ _) ?_
    unfold eqyt1
    have := lsd_nil ht
    have hy : y.drop i = [] := List.drop_eq_nil_of_le (by omega)
    rw [hy] at he
    exact askF (decF (by omega)) (is_refl (congrArg (fun b => V.val (.bool b)) he))
  | cons e t ih =>
    intro i ht hi he
    obtain ⟨h1, h2, h3⟩ := lsd_cons ht
    refine Runs.of (fun q => eqyp1 q x y _ _) ?_
    unfold eqyt1
    have hw : IntKind.wrap .i64 ((i : Int) + 1) = ((i + 1 : Nat) : Int) := by rw [wrap64 (by omega) (by omega)]; omega
    refine askT (decT (by omega)) (askT (andT (decT (by omega)) (decT (by omega))) (askT (andT (decT (by omega)) (decT (by omega))) ?_))
    simp only [Int.toNat_natCast, lsI h2, lsS h2, lsB h2, lsA h2, lsI (xs := y) (i := i) rfl, lsS (xs := y) (i := i) rfl, lsB (xs := y) (i := i) rfl, lsA (xs := y) (i := i) rfl, hw]
    rw [drop_same hl h1, eqAll] at he
    refine ask (fun h => is_refl ?_) (fun h => ?_)
    · rw [← he, show sameSym e (y.getD i []) = false from notT h, Bool.false_and]
    · rw [show sameSym e (y.getD i []) = true from notF h, Bool.true_and] at he
      exact ih (i + 1) h3 (by omega) he
theorem runs_eql (x y : List (List D)) (hl : x.length = y.length) (hx : x.length ≤ 70368744177664) : ∀ (t : List (List D)) (i : Nat), x.drop i = t → i ≤ x.length → eqAll sameRel t (y.drop i) = eqAll sameRel x y → Runs ld0i (72, Try.f72, 0) eqlk1 (eqls1 x y (x.length : Nat) (i : Nat)) (Is (.val (.bool (eqAll sameRel x y)))) := by
  intro t
  induction t with
  | nil =>
    intro i ht hi he
    refine Runs.of (fun q => eqlp1 q x y _ _) ?_
    unfold eqlt1
    have := lsd_nil ht
    have hy : y.drop i = [] := List.drop_eq_nil_of_le (by omega)
    rw [hy] at he
    exact askF (decF (by omega)) (is_refl (congrArg (fun b => V.val (.bool b)) he))
  | cons e t ih =>
    intro i ht hi he
    obtain ⟨h1, h2, h3⟩ := lsd_cons ht
    refine Runs.of (fun q => eqlp1 q x y _ _) ?_
    unfold eqlt1
    have hw : IntKind.wrap .i64 ((i : Int) + 1) = ((i + 1 : Nat) : Int) := by rw [wrap64 (by omega) (by omega)]; omega
    refine askT (decT (by omega)) (askT (andT (decT (by omega)) (decT (by omega))) (askT (andT (decT (by omega)) (decT (by omega))) ?_))
    simp only [Int.toNat_natCast, lsI h2, lsS h2, lsB h2, lsA h2, lsI (xs := y) (i := i) rfl, lsS (xs := y) (i := i) rfl, lsB (xs := y) (i := i) rfl, lsA (xs := y) (i := i) rfl, hw]
    rw [drop_same hl h1, eqAll] at he
    refine ask (fun h => is_refl ?_) (fun h => ?_)
    · rw [← he, show sameRel e (y.getD i []) = false from notT h, Bool.false_and]
    · rw [show sameRel e (y.getD i []) = true from notF h, Bool.true_and] at he
      exact ih (i + 1) h3 (by omega) he
theorem runs_eqi (x y : List (List D)) (hl : x.length = y.length) (hx : x.length ≤ 70368744177664) : ∀ (t : List (List D)) (i : Nat), x.drop i = t → i ≤ x.length → eqAll sameInt t (y.drop i) = eqAll sameInt x y → Runs ld0i (75, Try.f75, 0) eqik1 (eqis1 x y (x.length : Nat) (i : Nat)) (Is (.val (.bool (eqAll sameInt x y)))) := by
  intro t
  induction t with
  | nil =>
    intro i ht hi he
    refine Runs.of (fun q => eqip1 q x y _ _) ?_
    unfold eqit1
    have := lsd_nil ht
    have hy : y.drop i = [] := List.drop_eq_nil_of_le (by omega)
    rw [hy] at he
    exact askF (decF (by omega)) (is_refl (congrArg (fun b => V.val (.bool b)) he))
  | cons e t ih =>
    intro i ht hi he
    obtain ⟨h1, h2, h3⟩ := lsd_cons ht
    refine Runs.of (fun q => eqip1 q x y _ _) ?_
    unfold eqit1
    have hw : IntKind.wrap .i64 ((i : Int) + 1) = ((i + 1 : Nat) : Int) := by rw [wrap64 (by omega) (by omega)]; omega
    refine askT (decT (by omega)) (askT (andT (decT (by omega)) (decT (by omega))) (askT (andT (decT (by omega)) (decT (by omega))) ?_))
    simp only [Int.toNat_natCast, lsI h2, lsS h2, lsB h2, lsA h2, lsI (xs := y) (i := i) rfl, lsS (xs := y) (i := i) rfl, lsB (xs := y) (i := i) rfl, lsA (xs := y) (i := i) rfl, hw]
    rw [drop_same hl h1, eqAll] at he
    refine ask (fun h => is_refl ?_) (fun h => ?_)
    · rw [← he, show sameInt e (y.getD i []) = false from by simpa [bne, sameInt] using h, Bool.false_and]
    · rw [show sameInt e (y.getD i []) = true from by simpa [bne, sameInt] using h, Bool.true_and] at he
      exact ih (i + 1) h3 (by omega) he
theorem con_eqy : ∀ vs v, pEq vs = true → gEqY vs = some v → Contract Try.prog 71 vs [] (v, []) := by
  intro vs v hp h
  unfold gEqY at h
  split at h <;> cases h
  rename_i x y
  simp only [pEq, decide_eq_true_eq] at hp
  refine el_con ExtAll.nil Try.func71 (by kernel_rfl) (by kernel_rfl) rfl (by kernel_rfl) (by kernel_rfl) (Runs.of (fun q => eqyp0 q x y) ?_)
  unfold eqyt0
  refine ask (fun h => is_refl ?_) (fun h => ?_)
  · rw [eqAll_ne (by have : ((x.length : Nat) : Int) ≠ (y.length : Nat) := by simpa [bne] using h
                     omega)]
  · have hl : x.length = y.length := by
      have : ((x.length : Nat) : Int) = (y.length : Nat) := by simpa [bne] using h
      omega
    exact runs_eqy x y hl (by omega) x 0 rfl (by omega) rfl
theorem con_eql : ∀ vs v, pEq vs = true → gEqL vs = some v → Contract Try.prog 72 vs [] (v, []) := by
  intro vs v hp h
  unfold gEqL at h
  split at h <;> cases h
  rename_i x y
  simp only [pEq, decide_eq_true_eq] at hp
  refine el_con ExtAll.nil Try.func72 (by kernel_rfl) (by kernel_rfl) rfl (by kernel_rfl) (by kernel_rfl) (Runs.of (fun q => eqlp0 q x y) ?_)
  unfold eqlt0
  refine ask (fun h => is_refl ?_) (fun h => ?_)
  · rw [eqAll_ne (by have : ((x.length : Nat) : Int) ≠ (y.length : Nat) := by simpa [bne] using h
                     omega)]
  · have hl : x.length = y.length := by
      have : ((x.length : Nat) : Int) = (y.length : Nat) := by simpa [bne] using h
      omega
    exact runs_eql x y hl (by omega) x 0 rfl (by omega) rfl
theorem con_eqi : ∀ vs v, pEq vs = true → gEqI vs = some v → Contract Try.prog 75 vs [] (v, []) := by
  intro vs v hp h
  unfold gEqI at h
  split at h <;> cases h
  rename_i x y
  simp only [pEq, decide_eq_true_eq] at hp
  refine el_con ExtAll.nil Try.func75 (by kernel_rfl) (by kernel_rfl) rfl (by kernel_rfl) (by kernel_rfl) (Runs.of (fun q => eqip0 q x y) ?_)
  unfold eqit0
  refine ask (fun h => is_refl ?_) (fun h => ?_)
  · rw [eqAll_ne (by have : ((x.length : Nat) : Int) ≠ (y.length : Nat) := by simpa [bne] using h
                     omega)]
  · have hl : x.length = y.length := by
      have : ((x.length : Nat) : Int) = (y.length : Nat) := by simpa [bne] using h
      omega
    exact runs_eqi x y hl (by omega) x 0 rfl (by omega) rfl
theorem con_ssm : ∀ vs v, gSsm vs = some v → Contract Try.prog 70 vs [] (v, []) := by
  intro vs v h
  unfold gSsm at h
  split at h <;> cases h
  rename_i s a d z s' a' d' z'
  refine el_con ExtAll.nil Try.func70 (by kernel_rfl) (by kernel_rfl) rfl (by kernel_rfl) (by kernel_rfl) (Runs.of (fun q => ssmp0 q s a d z s' a' d' z') ?_)
  unfold ssmt0
  have c0 : sameSec [.str s, .int a, .arr d, .int z] [.str s', .int a', .arr d', .int z'] = (s.toList == s'.toList && (a == a' && ((rowBytes d).toList == (rowBytes d').toList && z == z'))) := rfl
  rw [c0]
  refine ask (fun h1 => ask (fun h2 => ask (fun h3 => is_refl ?_) (fun h3 => is_refl ?_)) (fun h2 => is_refl ?_)) (fun h1 => is_refl ?_)
  · rw [h1, h2, h3]; rfl
  · rw [h1, h2, h3]; rfl
  · rw [h1, h2]; rfl
  · rw [h1]; rfl
theorem con_tsc : ∀ vs v, pTsc vs = true → gTsc vs = some v → Contract Try.prog 78 vs [] (v, []) := by
  intro vs v hp h
  unfold gTsc at h
  split at h <;> cases h
  rename_i s a d z
  simp only [pTsc, decide_eq_true_eq] at hp
  refine el_con ExtAll.nil Try.func78 (by kernel_rfl) (by kernel_rfl) rfl (by kernel_rfl) (by kernel_rfl) (Runs.of (fun q => tscp0 q s a d z) ?_)
  unfold tsct0
  exact askT (andT (decT (by omega)) (decT (by omega))) (is_refl rfl)
theorem con_cly : ∀ vs v, pCln vs = true → gClY vs = some v → Contract Try.prog 76 vs [] (v, []) := by
  intro vs v hp h
  unfold gClY at h
  split at h <;> cases h
  rename_i x
  simp only [pCln, decide_eq_true_eq] at hp
  by_cases h0 : x.length = 0
  · have : x = [] := List.eq_nil_of_length_eq_zero h0
    subst this
    refine contract_empty ?_ (fun p c => ?_)
    · refine el_con ExtAll.nil Try.func76 (by kernel_rfl) (by kernel_rfl) rfl (by kernel_rfl) (by kernel_rfl) (Runs.of (fun q => cynp0 q) ?_)
      unfold cynt0
      exact is_one (.one (.nilOwn _))
    · refine el_con ExtAll.nil Try.func76 (by kernel_rfl) (by kernel_rfl) rfl (by kernel_rfl) (by kernel_rfl) (Runs.of (fun q => cysp0 q p c) ?_)
      unfold cyst0
      exact is_refl rfl
  · refine el_con ExtAll.nil Try.func76 (by kernel_rfl) (by kernel_rfl) rfl (by kernel_rfl) (by kernel_rfl) (Runs.of (fun q => clyp0 q x) ?_)
    unfold clyt0
    exact askT (decT (by omega)) (askT (andT (decT (by omega)) (decT (by omega))) (is_refl rfl))
theorem con_cll : ∀ vs v, pCln vs = true → gClL vs = some v → Contract Try.prog 77 vs [] (v, []) := by
  intro vs v hp h
  unfold gClL at h
  split at h <;> cases h
  rename_i x
  simp only [pCln, decide_eq_true_eq] at hp
  by_cases h0 : x.length = 0
  · have : x = [] := List.eq_nil_of_length_eq_zero h0
    subst this
    refine contract_empty ?_ (fun p c => ?_)
    · refine el_con ExtAll.nil Try.func77 (by kernel_rfl) (by kernel_rfl) rfl (by kernel_rfl) (by kernel_rfl) (Runs.of (fun q => cznp0 q) ?_)
      unfold cznt0
      exact is_one (.one (.nilOwn _))
    · refine el_con ExtAll.nil Try.func77 (by kernel_rfl) (by kernel_rfl) rfl (by kernel_rfl) (by kernel_rfl) (Runs.of (fun q => czsp0 q p c) ?_)
      unfold czst0
      exact is_refl rfl
  · refine el_con ExtAll.nil Try.func77 (by kernel_rfl) (by kernel_rfl) rfl (by kernel_rfl) (by kernel_rfl) (Runs.of (fun q => cllp0 q x) ?_)
    unfold cllt0
    exact askT (decT (by omega)) (askT (andT (decT (by omega)) (decT (by omega))) (is_refl rfl))
theorem con_cli : ∀ vs v, pCln vs = true → gClI vs = some v → Contract Try.prog 79 vs [] (v, []) := by
  intro vs v hp h
  unfold gClI at h
  split at h <;> cases h
  rename_i x
  simp only [pCln, decide_eq_true_eq] at hp
  by_cases h0 : x.length = 0
  · have : x = [] := List.eq_nil_of_length_eq_zero h0
    subst this
    refine contract_empty ?_ (fun p c => ?_)
    · refine el_con ExtAll.nil Try.func79 (by kernel_rfl) (by kernel_rfl) rfl (by kernel_rfl) (by kernel_rfl) (Runs.of (fun q => cinp0 q) ?_)
      unfold cint0
      exact is_one (.one (.nilOwn _))
    · refine el_con ExtAll.nil Try.func79 (by kernel_rfl) (by kernel_rfl) rfl (by kernel_rfl) (by kernel_rfl) (Runs.of (fun q => cisp0 q p c) ?_)
      unfold cist0
      exact is_refl rfl
  · refine el_con ExtAll.nil Try.func79 (by kernel_rfl) (by kernel_rfl) rfl (by kernel_rfl) (by kernel_rfl) (Runs.of (fun q => clip0 q x) ?_)
    unfold clit0
    exact askT (decT (by omega)) (askT (andT (decT (by omega)) (decT (by omega))) (is_refl rfl))
/-! ### Great -/
theorem min5_in (n : Int) (h : 0 ≤ n) : 0 ≤ min5 n ∧ min5 n ≤ 100000 := by
  unfold min5; split <;> omega
theorem min5_eq (n : Int) : (if (100000 : Int) < n then (100000 : Int) else n) = min5 n := by
  unfold min5; split <;> split <;> omega
theorem take_drop_cons {x t : List (List D)} {e : List D} {i n : Nat} (h : (x.take n).drop i = e :: t) : i < n ∧ i < x.length ∧ x.getD i [] = e ∧ (x.take n).drop (i + 1) = t := by
  obtain ⟨h1, h2, h3⟩ := lsd_cons h
  rw [List.length_take] at h1
  refine ⟨by omega, by omega, ?_, h3⟩
  rw [← h2, List.getD_eq_getElem?_getD, List.getD_eq_getElem?_getD, List.getElem?_take_of_lt (by omega)]
def grEnd (n : Int) (S Y L G : List (List D)) : Bool := decide (n > 80000) || decide (S.length > 30) || decide (Y.length > 100) || decide (L.length > 300) || decide (G.length > 30)
theorem grt_end (n : Int) (S Y L G : List (List D)) {I : Info} {fn : Nat × Func × Nat} : Tr.prop I fn (Is (.val (.bool (grEnd n S Y L G)))) (.ask (decide (n > (80000 : Int)))
  (.ret (.val (.bool (true)), []))
  (.ask (decide ((S.length : Int) > (30 : Int)))
  (.ret (.val (.bool (true)), []))
  (.ask (decide ((Y.length : Int) > (100 : Int)))
  (.ret (.val (.bool (true)), []))
  (.ask (decide ((L.length : Int) > (300 : Int)))
  (.ret (.val (.bool (true)), []))
  (.ret (.val (.bool (decide ((G.length : Int) > (30 : Int)))), [])))))) := by
  have c : ∀ (x : List (List D)) (k : Nat), decide ((x.length : Int) > (k : Int)) = decide (x.length > k) := fun x k => by
    rw [decide_eq_decide]; omega
  refine ask (fun h => is_refl ?_) (fun h1 => ask (fun h => is_refl ?_) (fun h2 => ask (fun h => is_refl ?_) (fun h3 => ask (fun h => is_refl ?_) (fun h4 => is_refl ?_))))
  · rw [grEnd, h]; rfl
  · rw [grEnd, ← c S 30, show decide ((S.length : Int) > ((30 : Nat) : Int)) = true from h]; simp
  · rw [grEnd, ← c Y 100, show decide ((Y.length : Int) > ((100 : Nat) : Int)) = true from h]; simp
  · rw [grEnd, ← c L 300, show decide ((L.length : Int) > ((300 : Nat) : Int)) = true from h]; simp
  · rw [grEnd, h1, ← c S 30, show decide ((S.length : Int) > ((30 : Nat) : Int)) = false from h2, ← c Y 100, show decide ((Y.length : Int) > ((100 : Nat) : Int)) = false from h3, ← c L 300, show decide ((L.length : Int) > ((300 : Nat) : Int)) = false from h4, ← c G 30]; rfl
theorem runs_gt3 (S Y L G : List (List D)) : ∀ (t : List (List D)) (i : Nat) (n : Int), (G.take 40).drop i = t → i ≤ 40 → i ≤ G.length → 0 ≤ n → n ≤ 100000000 + 200000 * i → Runs ld0i (26, Try.f26, 0) grtk3 (grts3 n (i : Nat) S Y L G) (Is (.val (.bool (grEnd (grG t n) S Y L G)))) := by
  intro t
  induction t with
  | nil =>
    intro i n ht hi hi2 h0 h1
    refine Runs.of (fun q => grtp3 q n _ S Y L G) ?_
    unfold grtt3
    have h2 := lsd_nil ht
    rw [List.length_take] at h2
    refine ask (fun ha => askF (decF (by have := of_decide_eq_true ha; omega)) (grt_end n S Y L G)) (fun ha => grt_end n S Y L G)
  | cons e t ih =>
    intro i n ht hi hi2 h0 h1
    obtain ⟨a1, a2, a3, a4⟩ := take_drop_cons ht
    refine Runs.of (fun q => grtp3 q n _ S Y L G) ?_
    unfold grtt3
    have hw : IntKind.wrap .i64 ((i : Int) + 1) = ((i + 1 : Nat) : Int) := by rw [wrap64 (by omega) (by omega)]; omega
    simp only [Int.toNat_natCast, lsS a3, lsA a3, hw, min5_eq]
    have m1 := min5_in ((rS e 0).size : Nat) (by omega)
    have m2 := min5_in ((rA e 1).length : Nat) (by omega)
    have w1 : IntKind.wrap .i64 (n + min5 ((rS e 0).size : Nat)) = n + min5 ((rS e 0).size : Nat) := wrap64 (by omega) (by omega)
    have w2 : IntKind.wrap .i64 (n + min5 ((rS e 0).size : Nat) + min5 ((rA e 1).length : Nat)) = n + min5 ((rS e 0).size : Nat) + min5 ((rA e 1).length : Nat) := wrap64 (by omega) (by omega)
    rw [w1, w2]
    refine askT (decT (by omega)) (askT (decT (by omega)) (askT (andT (decT (by omega)) (decT (by omega))) (askT (andT (decT (by omega)) (decT (by omega))) ?_)))
    exact ih (i + 1) _ a4 (by omega) (by omega) (by omega) (by omega)
theorem grY_in : ∀ (t : List (List D)) (n : Int), 0 ≤ n → 0 ≤ grY t n ∧ grY t n ≤ n + 100000 * t.length
  | [], n, h => ⟨h, by simp [grY]⟩
  | e :: t, n, h => by
    have m1 := min5_in ((rS e 0).size : Nat) (by omega)
    have := grY_in t (n + min5 ((rS e 0).size : Nat)) (by omega)
    rw [grY, List.length_cons]; omega
theorem runs_gt2 (S Y L G : List (List D)) : ∀ (t : List (List D)) (i : Nat) (n : Int), (Y.take 200).drop i = t → i ≤ 200 → i ≤ Y.length → 0 ≤ n → n ≤ 10000000 + 100000 * i → Runs ld0i (26, Try.f26, 0) grtk2 (grts2 n (i : Nat) S Y L G) (Is (.val (.bool (grEnd (grG (G.take 40) (grY t n)) S Y L G)))) := by
  intro t
  induction t with
  | nil =>
    intro i n ht hi hi2 h0 h1
    refine Runs.of (fun q => grtp2 q n _ S Y L G) ?_
    unfold grtt2
    have h2 := lsd_nil ht
    rw [List.length_take] at h2
    refine ask (fun ha => askF (decF (by have := of_decide_eq_true ha; omega)) (runs_gt3 S Y L G _ 0 n rfl (by omega) (by omega) h0 (by omega))) (fun ha => runs_gt3 S Y L G _ 0 n rfl (by omega) (by omega) h0 (by omega))
  | cons e t ih =>
    intro i n ht hi hi2 h0 h1
    obtain ⟨a1, a2, a3, a4⟩ := take_drop_cons ht
    refine Runs.of (fun q => grtp2 q n _ S Y L G) ?_
    unfold grtt2
    have hw : IntKind.wrap .i64 ((i : Int) + 1) = ((i + 1 : Nat) : Int) := by rw [wrap64 (by omega) (by omega)]; omega
    simp only [Int.toNat_natCast, lsS a3, lsA a3, hw, min5_eq]
    have m1 := min5_in ((rS e 0).size : Nat) (by omega)
    have w1 : IntKind.wrap .i64 (n + min5 ((rS e 0).size : Nat)) = n + min5 ((rS e 0).size : Nat) := wrap64 (by omega) (by omega)
    rw [w1]
    refine askT (decT (by omega)) (askT (decT (by omega)) (askT (andT (decT (by omega)) (decT (by omega))) ?_))
    exact ih (i + 1) _ a4 (by omega) (by omega) (by omega) (by omega)
theorem runs_gt1 (S Y L G : List (List D)) : ∀ (t : List (List D)) (i : Nat) (n : Int), (S.take 40).drop i = t → i ≤ 40 → i ≤ S.length → 0 ≤ n → n ≤ 200000 * i → Runs ld0i (26, Try.f26, 0) grtk1 (grts1 n (i : Nat) S Y L G) (Is (.val (.bool (grEnd (grG (G.take 40) (grY (Y.take 200) (grS t n))) S Y L G)))) := by
  intro t
  induction t with
  | nil =>
    intro i n ht hi hi2 h0 h1
    refine Runs.of (fun q => grtp1 q n _ S Y L G) ?_
    unfold grtt1
    have h2 := lsd_nil ht
    rw [List.length_take] at h2
    refine ask (fun ha => askF (decF (by have := of_decide_eq_true ha; omega)) (runs_gt2 S Y L G _ 0 n rfl (by omega) (by omega) h0 (by omega))) (fun ha => runs_gt2 S Y L G _ 0 n rfl (by omega) (by omega) h0 (by omega))
  | cons e t ih =>
    intro i n ht hi hi2 h0 h1
    obtain ⟨a1, a2, a3, a4⟩ := take_drop_cons ht
    refine Runs.of (fun q => grtp1 q n _ S Y L G) ?_
    unfold grtt1
    have hw : IntKind.wrap .i64 ((i : Int) + 1) = ((i + 1 : Nat) : Int) := by rw [wrap64 (by omega) (by omega)]; omega
    simp only [Int.toNat_natCast, lsS a3, lsA a3, hw, min5_eq]
    have m1 := min5_in ((rS e 0).size : Nat) (by omega)
    have m2 := min5_in ((rA e 2).length : Nat) (by omega)
    have w1 : IntKind.wrap .i64 (n + min5 ((rA e 2).length : Nat)) = n + min5 ((rA e 2).length : Nat) := wrap64 (by omega) (by omega)
    have w2 : IntKind.wrap .i64 (n + min5 ((rA e 2).length : Nat) + min5 ((rS e 0).size : Nat)) = n + min5 ((rA e 2).length : Nat) + min5 ((rS e 0).size : Nat) := wrap64 (by omega) (by omega)
    rw [w1, w2]
    refine askT (decT (by omega)) (askT (decT (by omega)) (askT (andT (decT (by omega)) (decT (by omega))) (askT (andT (decT (by omega)) (decT (by omega))) ?_)))
    exact ih (i + 1) _ a4 (by omega) (by omega) (by omega) (by omega)
theorem con_grt : ∀ vs v, gGrt vs = some v → Contract Try.prog 26 vs [] (v, []) := by
  intro vs v h
  unfold gGrt at h
  split at h <;> cases h
  rename_i S Y L G
  refine el_con ExtAll.nil Try.func26 (by kernel_rfl) (by kernel_rfl) rfl (by kernel_rfl) (by kernel_rfl) (Runs.of (fun q => grtp0 q S Y L G) ?_)
  unfold grtt0
  exact runs_gt1 S Y L G (S.take 40) 0 0 rfl (by omega) (by omega) (by omega) (by omega)
theorem ld1_ok : ExtAll Try.prog ld1 := .norm con_ssm (.normP con_eqy (.normP con_eql (.normP con_eqi (.norm con_grt (.normP con_tsc (.normP con_cly (.normP con_cll (.normP con_cli ExtAll.nil))))))))
end Go.Proofs.Ytkcopbnaleiocaa.Ev
