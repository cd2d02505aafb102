/- A part of the proof: what the statement needs, and nothing else. -/
import Derived.Test.YtkcopbnaleiocaaZb25
namespace Go.Proofs.Ytkcopbnaleiocaa.Ev
open Go
set_option linter.unusedVariables false
set_option linter.unusedSimpArgs false
theorem lsd_cons {xs t : List (List D)} {e : List D} {i : Nat} (h : xs.drop i = e :: t) : i < xs.length ∧ xs.getD i [] = e ∧ xs.drop (i + 1) = t := by
  have hl : i < xs.length := by
    rcases Nat.lt_or_ge i xs.length with h' | h'
    · exact h'
    · rw [List.drop_eq_nil_of_le h'] at h; cases h
  rw [List.drop_eq_getElem_cons hl] at h
  obtain ⟨h1, h2⟩ := List.cons.inj h
  exact ⟨hl, by rw [List.getD_eq_getElem?_getD, List.getElem?_eq_getElem hl]; exact h1, h2⟩
theorem lsd_nil {xs : List (List D)} {i : Nat} (h : xs.drop i = []) : xs.length ≤ i := by
  have := congrArg List.length h
  rw [List.length_drop] at this
  simp only [List.length_nil] at this
  omega
theorem lsI {xs : List (List D)} {e : List D} {i : Nat} (h : xs.getD i [] = e) (j : Nat) : cellI xs i j = rI e j := by rw [cellI, h]; rfl
theorem lsS {xs : List (List D)} {e : List D} {i : Nat} (h : xs.getD i [] = e) (j : Nat) : cellS xs i j = rS e j := by rw [cellS, h]; rfl
theorem lsB {xs : List (List D)} {e : List D} {i : Nat} (h : xs.getD i [] = e) (j : Nat) : cellB xs i j = rB e j := by rw [cellB, h]; rfl
theorem lsA {xs : List (List D)} {e : List D} {i : Nat} (h : xs.getD i [] = e) (j : Nat) : cellA xs i j = rA e j := by rw [cellA, h]; rfl
theorem eqAll_ne {p : List D → List D → Bool} : ∀ {x y : List (List D)}, x.length ≠ y.length → eqAll p x y = false
  | [], [], h => absurd rfl h
  | [], _ :: _, _ => rfl
  | _ :: _, [], _ => rfl
  | a :: s, b :: t, h => by
    rw [eqAll, eqAll_ne (x := s) (y := t) (by simpa using h), Bool.and_false]
theorem drop_same {x y : List (List D)} {i : Nat} (hl : x.length = y.length) (hi : i < x.length) : y.drop i = y.getD i [] :: y.drop (i + 1) := by
  have hy : i < y.length := by omega
  rw [List.drop_eq_getElem_cons hy, List.getD_eq_getElem?_getD, List.getElem?_eq_getElem hy]; rfl
theorem runs_eqy (x y : List (List D)) (hl : x.length = y.length) (hx : x.length ≤ 70368744177664) : ∀ (t : List (List D)) (i : Nat), x.drop i = t → i ≤ x.length → eqAll sameSym t (y.drop i) = eqAll sameSym x y → Runs ld0i (71, Try.f71, 0) eqyk1 (eqys1 x y (x.length : Nat) (i : Nat)) (Is (.val (.bool (eqAll sameSym x y)))) := by
  intro t
  induction t with
  | nil =>
    intro i ht hi he
    refine Runs.of (fun q => eqyp1 q x y _ _) ?_
    unfold eqyt1
    have := lsd_nil ht
    have hy : y.drop i = [] := List.drop_eq_nil_of_le (by omega)
    rw [hy] at he
    exact askF (decF (by omega)) (is_refl (congrArg (fun b => V.val (.bool b)) he))
  | cons e t ih =>
    intro i ht hi he
    obtain ⟨h1, h2, h3⟩ := lsd_cons ht
    refine Runs.of (fun q => eqyp1 q x y _ _) ?_
    unfold eqyt1
    have hw : IntKind.wrap .i64 ((i : Int) + 1) = ((i + 1 : Nat) : Int) := by rw [wrap64 (by omega) (by omega)]; omega
    refine askT (decT (by omega)) (askT (andT (decT (by omega)) (decT (by omega))) (askT (andT (decT (by omega)) (decT (by omega))) ?_))
    simp only [Int.toNat_natCast, lsI h2, lsS h2, lsB h2, lsA h2, lsI (xs := y) (i := i) rfl, lsS (xs := y) (i := i) rfl, lsB (xs := y) (i := i) rfl, lsA (xs := y) (i := i) rfl, hw]
    rw [drop_same hl h1, eqAll] at he
    refine ask (fun h => is_refl ?_) (fun h => ?_)
    · rw [← he, show sameSym e (y.getD i []) = false from notT h, Bool.false_and]
    · rw [show sameSym e (y.getD i []) = true from notF h, Bool.true_and] at he
      exact ih (i + 1) h3 (by omega) he
theorem runs_eql (x y : List (List D)) (hl : x.length = y.length) (hx : x.length ≤ 70368744177664) : ∀ (t : List (List D)) (i : Nat), x.drop i = t → i ≤ x.length → eqAll sameRel t (y.drop i) = eqAll sameRel x y → Runs ld0i (72, Try.f72, 0) eqlk1 (eqls1 x y (x.length : Nat) (i : Nat)) (Is (.val (.bool (eqAll sameRel x y)))) := by
  intro t
  induction t with
  | nil =>
    intro i ht hi he
    refine Runs.of (fun q => eqlp1 q x y _ _) ?_
    unfold eqlt1
    have := lsd_nil ht
    have hy : y.drop i = [] := List.drop_eq_nil_of_le (by omega)
    rw [hy] at he
    exact askF (decF (by omega)) (is_refl (congrArg (fun b => V.val (.bool b)) he))
  | cons e t ih =>
    intro i ht hi he
    obtain ⟨h1, h2, h3⟩ := lsd_cons ht
    refine Runs.of (fun q => eqlp1 q x y _ _) ?_
    unfold eqlt1
    have hw : IntKind.wrap .i64 ((i : Int) + 1) = ((i + 1 : Nat) : Int) := by rw [wrap64 (by omega) (by omega)]; omega
    refine askT (decT (by omega)) (askT (andT (decT (by omega)) (decT (by omega))) (askT (andT (decT (by omega)) (decT (by omega))) ?_))
    simp only [Int.toNat_natCast, lsI h2, lsS h2, lsB h2, lsA h2, lsI (xs := y) (i := i) rfl, lsS (xs := y) (i := i) rfl, lsB (xs := y) (i := i) rfl, lsA (xs := y) (i := i) rfl, hw]
    rw [drop_same hl h1, eqAll] at he
    refine ask (fun h => is_refl ?_) (fun h => ?_)
    · rw [← he, show sameRel e (y.getD i []) = false from notT h, Bool.false_and]
    · rw [show sameRel e (y.getD i []) = true from notF h, Bool.true_and] at he
      exact ih (i + 1) h3 (by omega) he
theorem runs_eqi (x y : List (List D)) (hl : x.length = y.length) (hx : x.length ≤ 70368744177664) : ∀ (t : List (List D)) (i : Nat), x.drop i = t → i ≤ x.length → eqAll sameInt t (y.drop i) = eqAll sameInt x y → Runs ld0i (75, Try.f75, 0) eqik1 (eqis1 x y (x.length : Nat) (i : Nat)) (Is (.val (.bool (eqAll sameInt x y)))) := by
  intro t
  induction t with
  | nil =>
    intro i ht hi he
    refine Runs.of (fun q => eqip1 q x y _ _) ?_
    unfold eqit1
    have := lsd_nil ht
    have hy : y.drop i = [] := List.drop_eq_nil_of_le (by omega)
    rw [hy] at he
    exact askF (decF (by omega)) (is_refl (congrArg (fun b => V.val (.bool b)) he))
  | cons e t ih =>
    intro i ht hi he
    obtain ⟨h1, h2, h3⟩ := lsd_cons ht
    refine Runs.of (fun q => eqip1 q x y _ _) ?_
    unfold eqit1
    have hw : IntKind.wrap .i64 ((i : Int) + 1) = ((i + 1 : Nat) : Int) := by rw [wrap64 (by omega) (by omega)]; omega
    refine askT (decT (by omega)) (askT (andT (decT (by omega)) (decT (by omega))) (askT (andT (decT (by omega)) (decT (by omega))) ?_))
    simp only [Int.toNat_natCast, lsI h2, lsS h2, lsB h2, lsA h2, lsI (xs := y) (i := i) rfl, lsS (xs := y) (i := i) rfl, lsB (xs := y) (i := i) rfl, lsA (xs := y) (i := i) rfl, hw]
    rw [drop_same hl h1, eqAll] at he
    refine ask (fun h => is_refl ?_) (fun h => ?_)
    · rw [← he, show sameInt e (y.getD i []) = false from by simpa [bne, sameInt] using h, Bool.false_and]
    · rw [show sameInt e (y.getD i []) = true from by simpa [bne, sameInt] using h, Bool.true_and] at he
      exact ih (i + 1) h3 (by omega) he
theorem con_eqy : ∀ vs v, pEq vs = true → gEqY vs = some v → Contract Try.prog 71 vs [] (v, []) := by
  intro vs v hp h
  unfold gEqY at h
  split at h <;> cases h
  rename_i x y
  simp only [pEq, decide_eq_true_eq] at hp
  refine el_con ExtAll.nil Try.func71 (by kernel_rfl) (by kernel_rfl) rfl (by kernel_rfl) (by kernel_rfl) (Runs.of (fun q => eqyp0 q x y) ?_)
  unfold eqyt0
  refine ask (fun h => is_refl ?_) (fun h => ?_)
  · rw [eqAll_ne (by have : ((x.length : Nat) : Int) ≠ (y.length : Nat) := by simpa [bne] using h
                     omega)]
  · have hl : x.length = y.length := by
      have : ((x.length : Nat) : Int) = (y.length : Nat) := by simpa [bne] using h
      omega
    exact runs_eqy x y hl (by omega) x 0 rfl (by omega) rfl
theorem con_eql : ∀ vs v, pEq vs = true → gEqL vs = some v → Contract Try.prog 72 vs [] (v, []) := by
  intro vs v hp h
  unfold gEqL at h
  split at h <;> cases h
  rename_i x y
  simp only [pEq, decide_eq_true_eq] at hp
  refine el_con ExtAll.nil Try.func72 (by kernel_rfl) (by kernel_rfl) rfl (by kernel_rfl) (by kernel_rfl) (Runs.of (fun q => eqlp0 q x y) ?_)
  unfold eqlt0
  refine ask (fun h => is_refl ?_) (fun h => ?_)
  · rw [eqAll_ne (by have : ((x.length : Nat) : Int) ≠ (y.length : Nat) := by simpa [bne] using h
                     omega)]
  · have hl : x.length = y.length := by
      have : ((x.length : Nat) : Int) = (y.length : Nat) := by simpa [bne] using h
      omega
    exact runs_eql x y hl (by omega) x 0 rfl (by omega) rfl
theorem con_eqi : ∀ vs v, pEq vs = true → gEqI vs = some v → Contract Try.prog 75 vs [] (v, []) := by
  intro vs v hp h
  unfold gEqI at h
  split at h <;> cases h
  rename_i x y
  simp only [pEq, decide_eq_true_eq] at hp
  refine el_con ExtAll.nil Try.func75 (by kernel_rfl) (by kernel_rfl) rfl (by kernel_rfl) (by kernel_rfl) (Runs.of (fun q => eqip0 q x y) ?_)
  unfold eqit0
  refine ask (fun h => is_refl ?_) (fun h => ?_)
  · rw [eqAll_ne (by have : ((x.length : Nat) : Int) ≠ (y.length : Nat) := by simpa [bne] using h
                     omega)]
  · have hl : x.length = y.length := by
      have : ((x.length : Nat) : Int) = (y.length : Nat) := by simpa [bne] using h
      omega
    exact runs_eqi x y hl (by omega) x 0 rfl (by omega) rfl
theorem con_ssm : ∀ vs v, gSsm vs = some v → Contract Try.prog 70 vs [] (v, []) := by
  intro vs v h
  unfold gSsm at h
  split at h <;> cases h
  rename_i s a d z s' a' d' z'
  refine el_con ExtAll.nil Try.func70 (by kernel_rfl) (by kernel_rfl) rfl (by kernel_rfl) (by kernel_rfl) (Runs.of (fun q => ssmp0 q s a d z s' a' d' z') ?_)
  unfold ssmt0
  have c0 : sameSec [.str s, .int a, .arr d, .int z] [.str s', .int a', .arr d', .int z'] = (s.toList == s'.toList && (a == a' && ((rowBytes d).toList == (rowBytes d').toList && z == z'))) := rfl
  rw [c0]
  refine ask (fun h1 => ask (fun h2 => ask (fun h3 => is_refl ?_) (fun h3 => is_refl ?_)) (fun h2 => is_refl ?_)) (fun h1 => is_refl ?_)
  · rw [h1, h2, h3]; rfl
  · rw [h1, h2, h3]; rfl
  · rw [h1, h2]; rfl
  · rw [h1]; rfl
theorem con_tsc : ∀ vs v, pTsc vs = true → gTsc vs = some v → Contract Try.prog 78 vs [] (v, []) := by
  intro vs v hp h
  unfold gTsc at h
  split at h <;> cases h
  rename_i s a d z
  simp only [pTsc, decide_eq_true_eq] at hp
  refine el_con ExtAll.nil Try.func78 (by kernel_rfl) (by kernel_rfl) rfl (by kernel_rfl) (by kernel_rfl) (Runs.of (fun q => tscp0 q s a d z) ?_)
  unfold tsct0
  exact askT (andT (decT (by omega)) (decT (by omega))) (is_refl rfl)
theorem con_cly : ∀ vs v, pCln vs = true → gClY vs = some v → Contract Try.prog 76 vs [] (v, []) := by
  intro vs v hp h
  unfold gClY at h
  split at h <;> cases h
  rename_i x
  simp only [pCln, decide_eq_true_eq] at hp
  by_cases h0 : x.length = 0
  · have : x = [] := List.eq_nil_of_length_eq_zero h0
    subst this
    refine contract_empty ?_ (fun p c => ?_)
    · refine el_con ExtAll.nil Try.func76 (by kernel_rfl) (by kernel_rfl) rfl (by kernel_rfl) (by kernel_rfl) (Runs.of (fun q => cynp0 q) ?_)
      unfold cynt0
      exact is_one (.one (.nilOwn _))
    · refine el_con ExtAll.nil Try.func76 (by kernel_rfl) (by kernel_rfl) rfl (by kernel_rfl) (by kernel_rfl) (Runs.of (fun q => cysp0 q p c) ?_)
      unfold cyst0
      exact is_refl rfl
  · refine el_con ExtAll.nil Try.func76 (by kernel_rfl) (by kernel_rfl) rfl (by kernel_rfl) (by kernel_rfl) (Runs.of (fun q => clyp0 q x) ?_)
    unfold clyt0
    exact askT (decT (by omega)) (askT (andT (decT (by omega)) (decT (by omega))) (is_refl rfl))
theorem con_cll : ∀ vs v, pCln vs = true → gClL vs = some v → Contract Try.prog 77 vs [] (v, []) := by
  intro vs v hp h
  unfold gClL at h
  split at h <;> cases h
  rename_i x
  simp only [pCln, decide_eq_true_eq] at hp
  by_cases h0 : x.length = 0
  · have : x = [] := List.eq_nil_of_length_eq_zero h0
    subst this
    refine contract_empty ?_ (fun p c => ?_)
    · refine el_con ExtAll.nil Try.func77 (by kernel_rfl) (by kernel_rfl) rfl (by kernel_rfl) (by kernel_rfl) (Runs.of (fun q => cznp0 q) ?_)
      unfold cznt0
      exact is_one (.one (.nilOwn _))
    · refine el_con ExtAll.nil Try.func77 (by kernel_rfl) (by kernel_rfl) rfl (by kernel_rfl) (by kernel_rfl) (Runs.of (fun q => czsp0 q p c) ?_)
      unfold czst0
      exact is_refl rfl
  · refine el_con ExtAll.nil Try.func77 (by kernel_rfl) (by kernel_rfl) rfl (by kernel_rfl) (by kernel_rfl) (Runs.of (fun q => cllp0 q x) ?_)
    unfold cllt0
    exact askT (decT (by omega)) (askT (andT (decT (by omega)) (decT (by omega))) (is_refl rfl))
theorem con_cli : ∀ vs v, pCln vs = true → gClI vs = some v → Contract Try.prog 79 vs [] (v, []) := by
  intro vs v hp h
  unfold gClI at h
  split at h <;> cases h
  rename_i x
  simp only [pCln, decide_eq_true_eq] at hp
  by_cases h0 : x.length = 0
  · have : x = [] := List.eq_nil_of_length_eq_zero h0
    subst this
    refine contract_empty ?_ (fun p c => ?_)
    · refine el_con ExtAll.nil Try.func79 (by kernel_rfl) (by kernel_rfl) rfl (by kernel_rfl) (by kernel_rfl) (Runs.of (fun q => cinp0 q) ?_)
      unfold cint0
      exact is_one (.one (.nilOwn _))
    · refine el_con ExtAll.nil Try.func79 (by kernel_rfl) (by kernel_rfl) rfl (by kernel_rfl) (by kernel_rfl) (Runs.of (fun q => cisp0 q p c) ?_)
      unfold cist0
      exact is_refl rfl
  · refine el_con ExtAll.nil Try.func79 (by kernel_rfl) (by kernel_rfl) rfl (by kernel_rfl) (by kernel_rfl) (Runs.of (fun q => clip0 q x) ?_)
    unfold clit0
    exact askT (decT (by omega)) (askT (andT (decT (by omega)) (decT (by omega))) (is_refl rfl))
theorem min5_in (n : Int) (h : 0 ≤ n) : 0 ≤ min5 n ∧ min5 n ≤ 100000 := by
  unfold min5; split <;> omega
theorem min5_eq (n : Int) : (if (100000 : Int) < n then (100000 : Int) else n) = min5 n := by
  unfold min5; split <;> split <;> omega
theorem take_drop_cons {x t : List (List D)} {e : List D} {i n : Nat} (h : (x.take n).drop i = e :: t) : i < n ∧ i < x.length ∧ x.getD i [] = e ∧ (x.take n).drop (i + 1) = t := by
  obtain ⟨h1, h2, h3⟩ := lsd_cons h
  rw [List.length_take] at h1
  refine ⟨by omega, by omega, ?_, h3⟩
  rw [← h2, List.getD_eq_getElem?_getD, List.getD_eq_getElem?_getD, List.getElem?_take_of_lt (by omega)]
def grEnd (n : Int) (S Y L G : List (List D)) : Bool := decide (n > 80000) || decide (S.length > 30) || decide (Y.length > 100) || decide (L.length > 300) || decide (G.length > 30)
theorem grt_end (n : Int) (S Y L G : List (List D)) {I : Info} {fn : Nat × Func × Nat} : Tr.prop I fn (Is (.val (.bool (grEnd n S Y L G)))) (.ask (decide (n > (80000 : Int)))
  (.ret (.val (.bool (true)), []))
  (.ask (decide ((S.length : Int) > (30 : Int)))
  (.ret (.val (.bool (true)), []))
  (.ask (decide ((Y.length : Int) > (100 : Int)))
  (.ret (.val (.bool (true)), []))
  (.ask (decide ((L.length : Int) > (300 : Int)))
  (.ret (.val (.bool (true)), []))
  (.ret (.val (.bool (decide ((G.length : Int) > (30 : Int)))), [])))))) := by
  have c : ∀ (x : List (List D)) (k : Nat), decide ((x.length : Int) > (k : Int)) = decide (x.length > k) := fun x k => by
    rw [decide_eq_decide]; omega
  refine ask (fun h => is_refl ?_) (fun h1 => ask (fun h => is_refl ?_) (fun h2 => ask (fun h => is_refl ?_) (fun h3 => ask (fun h => is_refl ?_) (fun h4 => is_refl ?_))))
  · rw [grEnd, h]; rfl
  · rw [grEnd, ← c S 30, show decide ((S.length : Int) > ((30 : Nat) : Int)) = true from h]; simp
  · rw [grEnd, ← c Y 100, show decide ((Y.length : Int) > ((100 : Nat) : Int)) = true from h]; simp
  · rw [grEnd, ← c L 300, show decide ((L.length : Int) > ((300 : Nat) : Int)) = true from h]; simp
  · rw [grEnd, h1, ← c S 30, show decide ((S.length : Int) > ((30 : Nat) : Int)) = false from h2, ← c Y 100, show decide ((Y.length : Int) > ((100 : Nat) : Int)) = false from h3, ← c L 300, show decide ((L.length : Int) > ((300 : Nat) : Int)) = false from h4, ← c G 30]; rfl
theorem runs_gt3 (S Y L G : List (List D)) : ∀ (t : List (List D)) (i : Nat) (n : Int), (G.take 40).drop i = t → i ≤ 40 → i ≤ G.length → 0 ≤ n → n ≤ 100000000 + 200000 * i → Runs ld0i (26, Try.f26, 0) grtk3 (grts3 n (i : Nat) S Y L G) (Is (.val (.bool (grEnd (grG t n) S Y L G)))) := by
  intro t
  induction t with
  | nil =>
    intro i n ht hi hi2 h0 h1
    refine Runs.of (fun q => grtp3 q n _ S Y L G) ?_
    unfold grtt3
    have h2 := lsd_nil ht
    rw [List.length_take] at h2
    refine ask (fun ha => askF (decF (by have := of_decide_eq_true ha; omega)) (grt_end n S Y L G)) (fun ha => grt_end n S Y L G)
  | cons e t ih =>
    intro i n ht hi hi2 h0 h1
    obtain ⟨a1, a2, a3, a4⟩ := take_drop_cons ht
    refine Runs.of (fun q => grtp3 q n _ S Y L G) ?_
    unfold grtt3
    have hw : IntKind.wrap .i64 ((i : Int) + 1) = ((i + 1 : Nat) : Int) := by rw [wrap64 (by omega) (by omega)]; omega
    simp only [Int.toNat_natCast, lsS a3, lsA a3, hw, min5_eq]
    have m1 := min5_in ((rS e 0).size : Nat) (by omega)
    have m2 := min5_in ((rA e 1).length : Nat) (by omega)
    have w1 : IntKind.wrap .i64 (n + min5 ((rS e 0).size : Nat)) = n + min5 ((rS e 0).size : Nat) := wrap64 (by omega) (by omega)
    have w2 : IntKind.wrap .i64 (n + min5 ((rS e 0).size : Nat) + min5 ((rA e 1).length : Nat)) = n + min5 ((rS e 0).size : Nat) + min5 ((rA e 1).length : Nat) := wrap64 (by omega) (by omega)
    rw [w1, w2]
    refine askT (decT (by omega)) (askT (decT (by omega)) (askT (andT (decT (by omega)) (decT (by omega))) (askT (andT (decT (by omega)) (decT (by omega))) ?_)))
    exact ih (i + 1) _ a4 (by omega) (by omega) (by omega) (by omega)
theorem runs_gt2 (S Y L G : List (List D)) : ∀ (t : List (List D)) (i : Nat) (n : Int), (Y.take 200).drop i = t → i ≤ 200 → i ≤ Y.length → 0 ≤ n → n ≤ 10000000 + 100000 * i → Runs ld0i (26, Try.f26, 0) grtk2 (grts2 n (i : Nat) S Y L G) (Is (.val (.bool (grEnd (grG (G.take 40) (grY t n)) S Y L G)))) := by
  intro t
  induction t with
  | nil =>
    intro i n ht hi hi2 h0 h1
    refine Runs.of (fun q => grtp2 q n _ S Y L G) ?_
    unfold grtt2
    have h2 := lsd_nil ht
    rw [List.length_take] at h2
    refine ask (fun ha => askF (decF (by have := of_decide_eq_true ha; omega)) (runs_gt3 S Y L G _ 0 n rfl (by omega) (by omega) h0 (by omega))) (fun ha => runs_gt3 S Y L G _ 0 n rfl (by omega) (by omega) h0 (by omega))
  | cons e t ih =>
    intro i n ht hi hi2 h0 h1
    obtain ⟨a1, a2, a3, a4⟩ := take_drop_cons ht
    refine Runs.of (fun q => grtp2 q n _ S Y L G) ?_
    unfold grtt2
    have hw : IntKind.wrap .i64 ((i : Int) + 1) = ((i + 1 : Nat) : Int) := by rw [wrap64 (by omega) (by omega)]; omega
    simp only [Int.toNat_natCast, lsS a3, lsA a3, hw, min5_eq]
    have m1 := min5_in ((rS e 0).size : Nat) (by omega)
    have w1 : IntKind.wrap .i64 (n + min5 ((rS e 0).size : Nat)) = n + min5 ((rS e 0).size : Nat) := wrap64 (by omega) (by omega)
    rw [w1]
    refine askT (decT (by omega)) (askT (decT (by omega)) (askT (andT (decT (by omega)) (decT (by omega))) ?_))
    exact ih (i + 1) _ a4 (by omega) (by omega) (by omega) (by omega)
theorem runs_gt1 (S Y L G : List (List D)) : ∀ (t : List (List D)) (i : Nat) (n : Int), (S.take 40).drop i = t → i ≤ 40 → i ≤ S.length → 0 ≤ n → n ≤ 200000 * i → Runs ld0i (26, Try.f26, 0) grtk1 (grts1 n (i : Nat) S Y L G) (Is (.val (.bool (grEnd (grG (G.take 40) (grY (Y.take 200) (grS t n))) S Y L G)))) := by
  intro t
  induction t with
  | nil =>
    intro i n ht hi hi2 h0 h1
    refine Runs.of (fun q => grtp1 q n _ S Y L G) ?_
    unfold grtt1
    have h2 := lsd_nil ht
    rw [List.length_take] at h2
    refine ask (fun ha => askF (decF (by have := of_decide_eq_true ha; omega)) (runs_gt2 S Y L G _ 0 n rfl (by omega) (by omega) h0 (by omega))) (fun ha => runs_gt2 S Y L G _ 0 n rfl (by omega) (by omega) h0 (by omega))
  | cons e t ih =>
    intro i n ht hi hi2 h0 h1
    obtain ⟨a1, a2, a3, a4⟩ := take_drop_cons ht
    refine Runs.of (fun q => grtp1 q n _ S Y L G) ?_
    unfold grtt1
    have hw : IntKind.wrap .i64 ((i : Int) + 1) = ((i + 1 : Nat) : Int) := by rw [wrap64 (by omega) (by omega)]; omega
    simp only [Int.toNat_natCast, lsS a3, lsA a3, hw, min5_eq]
    have m1 := min5_in ((rS e 0).size : Nat) (by omega)
    have m2 := min5_in ((rA e 2).length : Nat) (by omega)
    have w1 : IntKind.wrap .i64 (n + min5 ((rA e 2).length : Nat)) = n + min5 ((rA e 2).length : Nat) := wrap64 (by omega) (by omega)
    have w2 : IntKind.wrap .i64 (n + min5 ((rA e 2).length : Nat) + min5 ((rS e 0).size : Nat)) = n + min5 ((rA e 2).length : Nat) + min5 ((rS e 0).size : Nat) := wrap64 (by omega) (by omega)
    rw [w1, w2]
    refine askT (decT (by omega)) (askT (decT (by omega)) (askT (andT (decT (by omega)) (decT (by omega))) (askT (andT (decT (by omega)) (decT (by omega))) ?_)))
    exact ih (i + 1) _ a4 (by omega) (by omega) (by omega) (by omega)
theorem con_grt : ∀ vs v, gGrt vs = some v → Contract Try.prog 26 vs [] (v, []) := by
  intro vs v h
  unfold gGrt at h
  split at h <;> cases h
  rename_i S Y L G
  refine el_con ExtAll.nil Try.func26 (by kernel_rfl) (by kernel_rfl) rfl (by kernel_rfl) (by kernel_rfl) (Runs.of (fun q => grtp0 q S Y L G) ?_)
  unfold grtt0
  exact runs_gt1 S Y L G (S.take 40) 0 0 rfl (by omega) (by omega) (by omega) (by omega)
theorem ld1_ok : ExtAll Try.prog ld1 := .norm con_ssm (.normP con_eqy (.normP con_eql (.normP con_eqi (.norm con_grt (.normP con_tsc (.normP con_cly (.normP con_cll (.normP con_cli ExtAll.nil))))))))
end Go.Proofs.Ytkcopbnaleiocaa.Ev
namespace Go.Proofs.Ytkcopbnaleiocaa.Ev
open Go
set_option linter.unusedVariables false
set_option linter.unusedSimpArgs false
theorem con_sg1 : ∀ vs v, pSg1 vs = true → gSg1 vs = some v → Contract Try.prog 74 vs [] (v, []) := by
  intro vs v hp h
  unfold gSg1 at h
  split at h <;> cases h
  rename_i s x s' x'
  refine el_con ld1_ok Try.func74 (by kernel_rfl) (by kernel_rfl) rfl (by kernel_rfl) (by kernel_rfl) (Runs.of (fun q => sg1p0 q s x s' x') ?_)
  unfold sg1t0
  have c0 : sameGrp [.str s, .arr x] [.str s', .arr x'] = (s.toList == s'.toList && eqAll sameInt x x') := rfl
  rw [c0]
  simp only [pSg1, decide_eq_true_eq] at hp
  refine ask (fun h1 => askT (show decide (x.length ≤ 1048576) = true from decT hp) (is_refl ?_)) (fun h1 => is_refl ?_)
  · rw [h1]; rfl
  · rw [h1]; rfl
theorem runs_eqs (x y : List (List D)) (hl : x.length = y.length) (hx : x.length ≤ 70368744177664) : ∀ (t : List (List D)) (i : Nat), x.drop i = t → i ≤ x.length → eqAll sameSec t (y.drop i) = eqAll sameSec x y → Runs ld1i (69, Try.f69, 0) eqsk1 (eqss1 y x (x.length : Nat) (i : Nat)) (Is (.val (.bool (eqAll sameSec x y)))) := by
  intro t
  induction t with
  | nil =>
    intro i ht hi he
    refine Runs.of (fun q => eqsp1 q y x _ _) ?_
    unfold eqst1
    have := lsd_nil ht
    have hy : y.drop i = [] := List.drop_eq_nil_of_le (by omega)
    rw [hy] at he
    exact askF (decF (by omega)) (is_refl (congrArg (fun b => V.val (.bool b)) he))
  | cons e t ih =>
    intro i ht hi he
    obtain ⟨h1, h2, h3⟩ := lsd_cons ht
    refine Runs.of (fun q => eqsp1 q y x _ _) ?_
    unfold eqst1
    have hw : IntKind.wrap .i64 ((i : Int) + 1) = ((i + 1 : Nat) : Int) := by rw [wrap64 (by omega) (by omega)]; omega
    refine askT (decT (by omega)) (askT (andT (decT (by omega)) (decT (by omega))) (askT (andT (decT (by omega)) (decT (by omega))) ?_))
    simp only [Int.toNat_natCast, lsI h2, lsS h2, lsB h2, lsA h2, lsI (xs := y) (i := i) rfl, lsS (xs := y) (i := i) rfl, lsB (xs := y) (i := i) rfl, lsA (xs := y) (i := i) rfl, hw]
    rw [drop_same hl h1, eqAll] at he
    refine ask (fun h => is_refl ?_) (fun h => ?_)
    · rw [← he, show sameSec e (y.getD i []) = false from notT h, Bool.false_and]
    · rw [show sameSec e (y.getD i []) = true from notF h, Bool.true_and] at he
      exact ih (i + 1) h3 (by omega) he
theorem con_eqs : ∀ vs v, pEq vs = true → gEqS vs = some v → Contract Try.prog 69 vs [] (v, []) := by
  intro vs v hp h
  unfold gEqS at h
  split at h <;> cases h
  rename_i x y
  simp only [pEq, Bool.and_eq_true, decide_eq_true_eq] at hp
  refine el_con ld1_ok Try.func69 (by kernel_rfl) (by kernel_rfl) rfl (by kernel_rfl) (by kernel_rfl) (Runs.of (fun q => eqsp0 q x y) ?_)
  unfold eqst0
  refine ask (fun h => is_refl ?_) (fun h => ?_)
  · rw [eqAll_ne (by have : ((x.length : Nat) : Int) ≠ (y.length : Nat) := by simpa [bne] using h
                     omega)]
  · have hl : x.length = y.length := by
      have : ((x.length : Nat) : Int) = (y.length : Nat) := by simpa [bne] using h
      omega
    exact runs_eqs x y hl (by omega) x 0 rfl (by omega) rfl
theorem is_agg4 {a b c d a' b' c' d' : V} (h1 : Rx1 a a') (h2 : Rx1 b b') (h3 : Rx1 c c') (h4 : Rx1 d d') : Is (.agg [a', b', c', d']) (.agg [a, b, c, d], []) := by
  refine ⟨.agg rfl fun i v v' hv hv' => ?_, rfl⟩
  match i with
  | 0 => simp at hv hv'; subst hv; subst hv'; exact h1
  | 1 => simp at hv hv'; subst hv; subst hv'; exact h2
  | 2 => simp at hv hv'; subst hv; subst hv'; exact h3
  | 3 => simp at hv hv'; subst hv; subst hv'; exact h4
  | i + 4 => simp at hv
theorem lensOk_get' {j n : Nat} {G : List (List D)} (h : lensOk j n G = true) {e : List D} (he : e ∈ G) : (rA e j).length ≤ n := by
  have := List.all_eq_true.1 h e he
  simpa using this
theorem mem_drop' {xs t : List (List D)} {e : List D} {i : Nat} (h : xs.drop i = e :: t) : e ∈ xs :=
  List.mem_of_mem_drop (by rw [h]; exact List.mem_cons_self)
def twG (a : V) (Y L G : List (List D)) : V := .agg [a, .arr symC Y, .arr relC L, .arr grpC (G.map twGrp)]
theorem runs_tw5 (A Y L G : List (List D)) (hG : G.length ≤ 1024) (hg : lensOk 1 1048576 G = true) : ∀ (t : List (List D)) (i : Nat) (B : List (List D)), G.drop i = t → i ≤ G.length → B ++ t.map twGrp = G.map twGrp → B.length = i → Runs ld1i (30, Try.f30, 0) twnk5 (twns5 G (G.length : Nat) (i : Nat) Y L B) (Is (twG (V.arr secC []) Y L G)) := by
  intro t
  induction t with
  | nil =>
    intro i B ht hi he hB
    refine Runs.of (fun q => twnp5 q G _ _ Y L B) ?_
    unfold twnt5
    have := lsd_nil ht
    have he : B = G.map twGrp := by rw [← he]; simp
    rw [he]
    exact askF (decF (by omega)) (is_agg4 (.nilArr _) (.refl _) (.refl _) (.refl _))
  | cons e t ih =>
    intro i B ht hi he hB
    obtain ⟨h1, h2, h3⟩ := lsd_cons ht
    have hm := mem_drop' ht
    refine Runs.of (fun q => twnp5 q G _ _ Y L B) ?_
    unfold twnt5
    have hw : IntKind.wrap .i64 ((i : Int) + 1) = ((i + 1 : Nat) : Int) := by rw [wrap64 (by omega) (by omega)]; omega
    refine askT (decT (by omega)) (askT (andT (decT (by omega)) (decT (by omega))) ?_)
    simp only [Int.toNat_natCast, lsS h2, lsA h2, hw]
    have hl := lensOk_get' hg hm
    refine askT (show decide ((rA e 1).length ≤ 1048576) = true from decT hl) (askT (andT (decT (by simp only [List.length_cons, List.length_nil]; omega)) (decT (by simp only [List.length_cons, List.length_nil]; omega))) ?_)
    exact ih (i + 1) (B ++ [twGrp e]) h3 (by omega) (by rw [← he]; simp) (by rw [List.length_append]; simp only [List.length_cons, List.length_nil]; omega)
theorem runs_tw6 (A Y L G : List (List D)) (hG : G.length ≤ 1024) (hg : lensOk 1 1048576 G = true) : ∀ (t : List (List D)) (i : Nat) (B : List (List D)), G.drop i = t → i ≤ G.length → B ++ t.map twGrp = G.map twGrp → B.length = i → Runs ld1i (30, Try.f30, 0) twnk6 (twns6 G (G.length : Nat) (i : Nat) A Y L B) (Is (twG (V.arr secC A) Y L G)) := by
  intro t
  induction t with
  | nil =>
    intro i B ht hi he hB
    refine Runs.of (fun q => twnp6 q G _ _ A Y L B) ?_
    unfold twnt6
    have := lsd_nil ht
    have he : B = G.map twGrp := by rw [← he]; simp
    rw [he]
    exact askF (decF (by omega)) (is_agg4 (.refl _) (.refl _) (.refl _) (.refl _))
  | cons e t ih =>
    intro i B ht hi he hB
    obtain ⟨h1, h2, h3⟩ := lsd_cons ht
    have hm := mem_drop' ht
    refine Runs.of (fun q => twnp6 q G _ _ A Y L B) ?_
    unfold twnt6
    have hw : IntKind.wrap .i64 ((i : Int) + 1) = ((i + 1 : Nat) : Int) := by rw [wrap64 (by omega) (by omega)]; omega
    refine askT (decT (by omega)) (askT (andT (decT (by omega)) (decT (by omega))) ?_)
    simp only [Int.toNat_natCast, lsS h2, lsA h2, hw]
    have hl := lensOk_get' hg hm
    refine askT (show decide ((rA e 1).length ≤ 1048576) = true from decT hl) (askT (andT (decT (by simp only [List.length_cons, List.length_nil]; omega)) (decT (by simp only [List.length_cons, List.length_nil]; omega))) ?_)
    exact ih (i + 1) (B ++ [twGrp e]) h3 (by omega) (by rw [← he]; simp) (by rw [List.length_append]; simp only [List.length_cons, List.length_nil]; omega)
theorem runs_tw3 (A Y L G : List (List D)) (hG : G.length ≤ 1024) (hg : lensOk 1 1048576 G = true) : Runs ld1i (30, Try.f30, 0) twnk3 (twns3 G (G.length : Nat) 0 Y L) (Is (twG (V.arr secC []) Y L G)) := by
  refine Runs.of (fun q => twnp3 q G _ _ Y L) ?_
  unfold twnt3
  cases hG0 : G with
  | nil => exact askF rfl (is_agg4 (.nilArr _) (.refl _) (.refl _) (.nilArr _))
  | cons e t =>
    have h0 : G.drop 0 = e :: t := by rw [hG0]; rfl
    obtain ⟨h1, h2, h3⟩ := lsd_cons h0
    have hm := mem_drop' h0
    rw [← hG0]
    have hw : IntKind.wrap .i64 ((0 : Int) + 1) = ((1 : Nat) : Int) := by rw [wrap64 (by omega) (by omega)]; rfl
    refine askT (decT (by omega)) (askT (andT (decT (by omega)) (decT (by omega))) ?_)
    have z : Int.toNat 0 = 0 := rfl
    simp only [z, lsS h2, lsA h2, hw]
    have hl := lensOk_get' hg hm
    refine askT (show decide ((rA e 1).length ≤ 1048576) = true from decT hl) ?_
    exact runs_tw5 A Y L G hG hg t 1 [twGrp e] h3 (by omega) (by rw [hG0]; rfl) rfl
theorem runs_tw4 (A Y L G : List (List D)) (hG : G.length ≤ 1024) (hg : lensOk 1 1048576 G = true) : Runs ld1i (30, Try.f30, 0) twnk4 (twns4 G (G.length : Nat) 0 A Y L) (Is (twG (V.arr secC A) Y L G)) := by
  refine Runs.of (fun q => twnp4 q G _ _ A Y L) ?_
  unfold twnt4
  cases hG0 : G with
  | nil => exact askF rfl (is_agg4 (.refl _) (.refl _) (.refl _) (.nilArr _))
  | cons e t =>
    have h0 : G.drop 0 = e :: t := by rw [hG0]; rfl
    obtain ⟨h1, h2, h3⟩ := lsd_cons h0
    have hm := mem_drop' h0
    rw [← hG0]
    have hw : IntKind.wrap .i64 ((0 : Int) + 1) = ((1 : Nat) : Int) := by rw [wrap64 (by omega) (by omega)]; rfl
    refine askT (decT (by omega)) (askT (andT (decT (by omega)) (decT (by omega))) ?_)
    have z : Int.toNat 0 = 0 := rfl
    simp only [z, lsS h2, lsA h2, hw]
    have hl := lensOk_get' hg hm
    refine askT (show decide ((rA e 1).length ≤ 1048576) = true from decT hl) ?_
    exact runs_tw6 A Y L G hG hg t 1 [twGrp e] h3 (by omega) (by rw [hG0]; rfl) rfl
theorem runs_tw2 (S Y L G : List (List D)) (hS : S.length ≤ 1024) (hs : lensOk 2 1048576 S = true) (hG : G.length ≤ 1024) (hg : lensOk 1 1048576 G = true) : ∀ (t : List (List D)) (i : Nat) (A : List (List D)), S.drop i = t → i ≤ S.length → A ++ t.map twSec = S.map twSec → A.length = i → Runs ld1i (30, Try.f30, 0) twnk2 (twns2 S (S.length : Nat) (i : Nat) S Y L G A Y L) (Is (twG (.arr secC (S.map twSec)) Y L G)) := by
  intro t
  induction t with
  | nil =>
    intro i A ht hi he hA
    refine Runs.of (fun q => twnp2 q S _ _ S Y L G A Y L) ?_
    unfold twnt2
    have := lsd_nil ht
    have he : A = S.map twSec := by rw [← he]; simp
    rw [he]
    exact askF (decF (by omega)) (runs_tw4 _ Y L G hG hg)
  | cons e t ih =>
    intro i A ht hi he hA
    obtain ⟨h1, h2, h3⟩ := lsd_cons ht
    have hm := mem_drop' ht
    refine Runs.of (fun q => twnp2 q S _ _ S Y L G A Y L) ?_
    unfold twnt2
    have hw : IntKind.wrap .i64 ((i : Int) + 1) = ((i + 1 : Nat) : Int) := by rw [wrap64 (by omega) (by omega)]; omega
    refine askT (decT (by omega)) (askT (andT (decT (by omega)) (decT (by omega))) ?_)
    simp only [Int.toNat_natCast, lsS h2, lsA h2, lsI h2, hw]
    have hl := lensOk_get' hs hm
    refine askT (show decide ((rA e 2).length ≤ 1048576) = true from decT hl) (askT (andT (decT (by simp only [List.length_cons, List.length_nil]; omega)) (decT (by simp only [List.length_cons, List.length_nil]; omega))) ?_)
    exact ih (i + 1) (A ++ [twSec e]) h3 (by omega) (by rw [← he]; simp) (by rw [List.length_append]; simp only [List.length_cons, List.length_nil]; omega)
theorem con_twn : ∀ vs v, pTwn vs = true → gTwn vs = some v → Contract Try.prog 30 vs [] (v, []) := by
  intro vs v hp h
  unfold gTwn at h
  split at h <;> cases h
  rename_i S Y L G
  simp only [pTwn, Bool.and_eq_true, decide_eq_true_eq] at hp
  obtain ⟨⟨⟨⟨⟨p1, p2⟩, p3⟩, p4⟩, p5⟩, p6⟩ := hp
  refine el_con ld1_ok Try.func30 (by kernel_rfl) (by kernel_rfl) rfl (by kernel_rfl) (by kernel_rfl) (Runs.of (fun q => twnp0 q S Y L G) ?_)
  unfold twnt0
  refine askT (show decide (Y.length ≤ 1048576) = true from decT (by omega)) (askT (show decide (L.length ≤ 1048576) = true from decT (by omega)) (Runs.of (fun q => twnp1 q S _ _ S Y L G Y L) ?_))
  unfold twnt1
  cases hS0 : S with
  | nil => exact askF rfl (runs_tw3 [] Y L G p4 p6)
  | cons e t =>
    have h0 : S.drop 0 = e :: t := by rw [hS0]; rfl
    obtain ⟨h1, h2, h3⟩ := lsd_cons h0
    have hm := mem_drop' h0
    rw [← hS0]
    have hw : IntKind.wrap .i64 ((0 : Int) + 1) = ((1 : Nat) : Int) := by rw [wrap64 (by omega) (by omega)]; rfl
    refine askT (decT (by omega)) (askT (andT (decT (by omega)) (decT (by omega))) ?_)
    have z : Int.toNat 0 = 0 := rfl
    simp only [z, lsS h2, lsA h2, lsI h2, hw]
    have hl := lensOk_get' p5 hm
    refine askT (show decide ((rA e 2).length ≤ 1048576) = true from decT hl) ?_
    exact runs_tw2 S Y L G p1 p5 p4 p6 t 1 [twSec e] h3 (by omega) (by rw [hS0]; rfl) rfl
theorem ld2_ok : ExtAll Try.prog ld2 := .normP con_sg1 (.normP con_eqs (.normP con_twn ld1_ok))
theorem runs_eqg (x y : List (List D)) (hl : x.length = y.length) (hx : x.length ≤ 70368744177664) (hx2 : lensOk 1 1048576 x = true) : ∀ (t : List (List D)) (i : Nat), x.drop i = t → i ≤ x.length → eqAll sameGrp t (y.drop i) = eqAll sameGrp x y → Runs ld2i (73, Try.f73, 0) eqgk1 (eqgs1 y x (x.length : Nat) (i : Nat)) (Is (.val (.bool (eqAll sameGrp x y)))) := by
  intro t
  induction t with
  | nil =>
    intro i ht hi he
    refine Runs.of (fun q => eqgp1 q y x _ _) ?_
    unfold eqgt1
    have := lsd_nil ht
    have hy : y.drop i = [] := List.drop_eq_nil_of_le (by omega)
    rw [hy] at he
    exact askF (decF (by omega)) (is_refl (congrArg (fun b => V.val (.bool b)) he))
  | cons e t ih =>
    intro i ht hi he
    obtain ⟨h1, h2, h3⟩ := lsd_cons ht
    refine Runs.of (fun q => eqgp1 q y x _ _) ?_
    unfold eqgt1
    have hw : IntKind.wrap .i64 ((i : Int) + 1) = ((i + 1 : Nat) : Int) := by rw [wrap64 (by omega) (by omega)]; omega
    refine askT (decT (by omega)) (askT (andT (decT (by omega)) (decT (by omega))) (askT (andT (decT (by omega)) (decT (by omega))) ?_))
    simp only [Int.toNat_natCast, lsI h2, lsS h2, lsB h2, lsA h2, lsI (xs := y) (i := i) rfl, lsS (xs := y) (i := i) rfl, lsB (xs := y) (i := i) rfl, lsA (xs := y) (i := i) rfl, hw]
    rw [drop_same hl h1, eqAll] at he
    refine askT (show decide ((rA e 1).length ≤ 1048576) = true from decT (lensOk_get' hx2 (mem_drop' ht))) ?_
    refine ask (fun h => is_refl ?_) (fun h => ?_)
    · rw [← he, show sameGrp e (y.getD i []) = false from notT h, Bool.false_and]
    · rw [show sameGrp e (y.getD i []) = true from notF h, Bool.true_and] at he
      exact ih (i + 1) h3 (by omega) he
theorem con_eqg : ∀ vs v, pEqG vs = true → gEqG vs = some v → Contract Try.prog 73 vs [] (v, []) := by
  intro vs v hp h
  unfold gEqG at h
  split at h <;> cases h
  rename_i x y
  simp only [pEqG, Bool.and_eq_true, decide_eq_true_eq] at hp
  refine el_con ld2_ok Try.func73 (by kernel_rfl) (by kernel_rfl) rfl (by kernel_rfl) (by kernel_rfl) (Runs.of (fun q => eqgp0 q x y) ?_)
  unfold eqgt0
  refine ask (fun h => is_refl ?_) (fun h => ?_)
  · rw [eqAll_ne (by have : ((x.length : Nat) : Int) ≠ (y.length : Nat) := by simpa [bne] using h
                     omega)]
  · have hl : x.length = y.length := by
      have : ((x.length : Nat) : Int) = (y.length : Nat) := by simpa [bne] using h
      omega
    exact runs_eqg x y hl (by omega) hp.2 x 0 rfl (by omega) rfl
theorem ld3_ok : ExtAll Try.prog ld3 := .normP con_eqg ld2_ok
theorem con_sam : ∀ vs v, pSame vs = true → gSame vs = some v → Contract Try.prog 29 vs [] (v, []) := by
  intro vs v hp h
  unfold gSame at h
  split at h <;> cases h
  rename_i S Y L G S' Y' L' G'
  simp only [pSame, Bool.and_eq_true, decide_eq_true_eq] at hp
  obtain ⟨⟨⟨p1, p2⟩, p3⟩, p4, p5⟩ := hp
  refine el_con ld3_ok Try.func29 (by kernel_rfl) (by kernel_rfl) rfl (by kernel_rfl) (by kernel_rfl) (Runs.of (fun q => samp0 q S Y L G S' Y' L' G') ?_)
  unfold samt0
  refine askT (show decide (S.length ≤ 1048576) = true from decT p1) (ask (fun h1 => askT (show decide (Y.length ≤ 1048576) = true from decT p2) (ask (fun h2 => askT (show decide (L.length ≤ 1048576) = true from decT p3) (ask (fun h3 => askT (show (decide (G.length ≤ 1048576) && lensOk 1 1048576 G) = true from andT (decT p4) p5) (is_refl ?_)) (fun h3 => is_refl ?_))) (fun h2 => is_refl ?_))) (fun h1 => is_refl ?_))
  · rw [sameO, h1, h2, h3]; rfl
  · rw [sameO, h1, h2, h3]; rfl
  · rw [sameO, h1, h2]; rfl
  · rw [sameO, h1]; rfl
end Go.Proofs.Ytkcopbnaleiocaa.Ev
namespace Go.Proofs.Ytkcopbnaleiocaa.Ev
open Go
set_option linter.unusedVariables false
set_option linter.unusedSimpArgs false
theorem u8_wf {n : Int} (h : (Lit.int .u8 n).wf = true) : 0 ≤ n ∧ n < 256 := by
  have h1 : IntKind.u8.min = 0 := rfl
  have h2 : IntKind.u8.max = 255 := rfl
  simp only [Lit.wf, Bool.and_eq_true, decide_eq_true_eq] at h
  omega
theorem good_int {k : IntKind} {d : D} (h : Good (.int k) d) : ∃ n, d = .int n ∧ (Lit.int k n).wf = true := by cases h; exact ⟨_, rfl, by assumption⟩
theorem good_bool {d : D} (h : Good .bool d) : ∃ b, d = .bool b := by cases h; exact ⟨_, rfl⟩
theorem good_str {d : D} (h : Good .str d) : ∃ s, d = .str s := by cases h; exact ⟨_, rfl⟩
theorem good_arr {cs : List CT} {d : D} (h : Good (.arr cs) d) : ∃ xs, d = .arr xs ∧ Good (.arr cs) (.arr xs) := by
  cases h with
  | arr _ xs hl hn h => exact ⟨xs, rfl, .arr _ xs hl hn h⟩
theorem good_row {cs : List CT} {xs : List (List D)} (h : Good (.arr cs) (.arr xs)) {e : List D} (he : e ∈ xs) : e.length = cs.length ∧ ∀ (j : Nat) (c : CT), cs[j]? = some c → Good c (e.getD j default) := by
  cases h with
  | arr _ _ hl hn h => exact ⟨hn e he, fun j c hc => h e he j c hc⟩
theorem row1 {e : List D} (h : e.length = 1) : e = [e.getD 0 default] := by
  match e, h with
  | [a], _ => rfl
theorem row2 {e : List D} (h : e.length = 2) : e = [e.getD 0 default, e.getD 1 default] := by
  match e, h with
  | [a, b], _ => rfl
theorem row4 {e : List D} (h : e.length = 4) : e = [e.getD 0 default, e.getD 1 default, e.getD 2 default, e.getD 3 default] := by
  match e, h with
  | [a, b, c, d], _ => rfl
theorem row5 {e : List D} (h : e.length = 5) : e = [e.getD 0 default, e.getD 1 default, e.getD 2 default, e.getD 3 default, e.getD 4 default] := by
  match e, h with
  | [a, b, c, d, f], _ => rfl
theorem row6 {e : List D} (h : e.length = 6) : e = [e.getD 0 default, e.getD 1 default, e.getD 2 default, e.getD 3 default, e.getD 4 default, e.getD 5 default] := by
  match e, h with
  | [a, b, c, d, f, g], _ => rfl
theorem good_sec {S : List (List D)} (h : Good (.arr secC) (.arr S)) {e : List D} (he : e ∈ S) : ∃ s a x z, e = [.str s, .int a, .arr x, .int z] ∧ Good (.arr u8s) (.arr x) := by
  obtain ⟨h1, h2⟩ := good_row h he
  obtain ⟨s, e0⟩ := good_str (h2 0 _ rfl)
  obtain ⟨a, e1, _⟩ := good_int (h2 1 _ rfl)
  obtain ⟨x, e2, hx⟩ := good_arr (h2 2 _ rfl)
  obtain ⟨z, e3, _⟩ := good_int (h2 3 _ rfl)
  exact ⟨s, a, x, z, by rw [row4 h1, e0, e1, e2, e3], hx⟩
theorem good_sym {Y : List (List D)} (h : Good (.arr symC) (.arr Y)) {e : List D} (he : e ∈ Y) : ∃ s b hd w v z, e = [.str s, .int b, .bool hd, .int w, .int v, .int z] ∧ 0 ≤ b ∧ b ≤ 255 := by
  obtain ⟨h1, h2⟩ := good_row h he
  obtain ⟨s, e0⟩ := good_str (h2 0 _ rfl)
  obtain ⟨b, e1, hb⟩ := good_int (h2 1 _ rfl)
  obtain ⟨hd, e2⟩ := good_bool (h2 2 _ rfl)
  obtain ⟨w, e3, _⟩ := good_int (h2 3 _ rfl)
  obtain ⟨v, e4, _⟩ := good_int (h2 4 _ rfl)
  obtain ⟨z, e5, _⟩ := good_int (h2 5 _ rfl)
  have := u8_wf hb
  exact ⟨s, b, hd, w, v, z, by rw [row6 h1, e0, e1, e2, e3, e4, e5], by omega, by omega⟩
theorem good_rel {L : List (List D)} (h : Good (.arr relC) (.arr L)) {e : List D} (he : e ∈ L) : ∃ a b k c d, e = [.int a, .int b, .int k, .int c, .int d] ∧ 0 ≤ k ∧ k ≤ 255 := by
  obtain ⟨h1, h2⟩ := good_row h he
  obtain ⟨a, e0, _⟩ := good_int (h2 0 _ rfl)
  obtain ⟨b, e1, _⟩ := good_int (h2 1 _ rfl)
  obtain ⟨k, e2, hk⟩ := good_int (h2 2 _ rfl)
  obtain ⟨c, e3, _⟩ := good_int (h2 3 _ rfl)
  obtain ⟨d, e4, _⟩ := good_int (h2 4 _ rfl)
  have := u8_wf hk
  exact ⟨a, b, k, c, d, by rw [row5 h1, e0, e1, e2, e3, e4], by omega, by omega⟩
theorem good_grp {G : List (List D)} (h : Good (.arr grpC) (.arr G)) {e : List D} (he : e ∈ G) : ∃ s x, e = [.str s, .arr x] ∧ Good (.arr i64s) (.arr x) := by
  obtain ⟨h1, h2⟩ := good_row h he
  obtain ⟨s, e0⟩ := good_str (h2 0 _ rfl)
  obtain ⟨x, e1, hx⟩ := good_arr (h2 1 _ rfl)
  exact ⟨s, x, by rw [row2 h1, e0, e1], hx⟩
theorem good_i64 {x : List (List D)} (h : Good (.arr i64s) (.arr x)) {e : List D} (he : e ∈ x) : ∃ n, e = [.int n] := by
  obtain ⟨h1, h2⟩ := good_row h he
  obtain ⟨n, e0, _⟩ := good_int (h2 0 _ rfl)
  exact ⟨n, by rw [row1 h1, e0]⟩
theorem good_u8 {x : List (List D)} (h : Good (.arr u8s) (.arr x)) {e : List D} (he : e ∈ x) : ∃ n, e = [.int n] ∧ 0 ≤ n ∧ n < 256 := by
  obtain ⟨h1, h2⟩ := good_row h he
  obtain ⟨n, e0, hn⟩ := good_int (h2 0 _ rfl)
  have := u8_wf hn
  exact ⟨n, by rw [row1 h1, e0], by omega, by omega⟩
def U8s (x : List (List D)) : Prop := ∀ e ∈ x, ∃ n, e = [D.int n] ∧ 0 ≤ n ∧ n < 256
def I64s (x : List (List D)) : Prop := ∀ e ∈ x, ∃ n, e = [D.int n]
structure SObj (S Y L G : List (List D)) : Prop where
  s : ∀ e ∈ S, ∃ s a x z, e = [D.str s, .int a, .arr x, .int z] ∧ U8s x
  y : ∀ e ∈ Y, ∃ s b hd w v z, e = [D.str s, .int b, .bool hd, .int w, .int v, .int z] ∧ 0 ≤ b ∧ b ≤ 255
  l : ∀ e ∈ L, ∃ a b k c d, e = [D.int a, .int b, .int k, .int c, .int d] ∧ 0 ≤ k ∧ k ≤ 255
  g : ∀ e ∈ G, ∃ s x, e = [D.str s, .arr x] ∧ I64s x
structure GObj (S Y L G : List (List D)) : Prop where
  s : Good (.arr secC) (.arr S)
  y : Good (.arr symC) (.arr Y)
  l : Good (.arr relC) (.arr L)
  g : Good (.arr grpC) (.arr G)
theorem GObj.shp {S Y L G : List (List D)} (h : GObj S Y L G) : SObj S Y L G :=
  ⟨fun e he => by obtain ⟨s, a, x, z, rfl, hx⟩ := good_sec h.s he; exact ⟨s, a, x, z, rfl, fun e he => good_u8 hx he⟩,
   fun e he => good_sym h.y he, fun e he => good_rel h.l he,
   fun e he => by obtain ⟨s, x, rfl, hx⟩ := good_grp h.g he; exact ⟨s, x, rfl, fun e he => good_i64 hx he⟩⟩
theorem ba_eq (a b : ByteArray) : (a == b) = decide (a = b) := by
  cases a with
  | mk x =>
  cases b with
  | mk y =>
  show (x == y) = _
  by_cases h : x = y
  · subst h; simp
  · rw [decide_eq_false (by intro e; exact h (ByteArray.mk.inj e)), beq_eq_false_iff_ne]; exact h
theorem bytes_inj : ∀ {x y : List (List D)}, U8s x → U8s y → rowBytes x = rowBytes y → x = y := by
  have key : ∀ x y : List (List D), (∀ e ∈ x, ∃ n, e = [.int n] ∧ 0 ≤ n ∧ n < 256) → (∀ e ∈ y, ∃ n, e = [.int n] ∧ 0 ≤ n ∧ n < 256) → (x.map fun e => UInt8.ofNat (e.getD 0 default).toInt.toNat) = (y.map fun e => UInt8.ofNat (e.getD 0 default).toInt.toNat) → x = y := by
    intro x
    induction x with
    | nil => intro y _ _ h; cases y with
      | nil => rfl
      | cons b t => simp at h
    | cons a s ih =>
      intro y hx hy h
      cases y with
      | nil => simp at h
      | cons b t =>
        simp only [List.map_cons, List.cons.injEq] at h
        obtain ⟨n, rfl, n0, n1⟩ := hx a List.mem_cons_self
        obtain ⟨m, rfl, m0, m1⟩ := hy b List.mem_cons_self
        have e := congrArg UInt8.toNat h.1
        simp only [List.getD_cons_zero, D.toInt, UInt8.toNat_ofNat'] at e
        rw [Nat.mod_eq_of_lt (by omega), Nat.mod_eq_of_lt (by omega)] at e
        have : n = m := by omega
        subst this
        rw [ih t (fun e he => hx e (List.mem_cons_of_mem _ he)) (fun e he => hy e (List.mem_cons_of_mem _ he)) h.2]
  intro x y hx hy h
  refine key x y hx hy ?_
  have := congrArg (fun b : ByteArray => b.data.toList) h
  simpa [rowBytes] using this
theorem eqAll_eq {p : List D → List D → Bool} : ∀ {x y : List (List D)}, (∀ a ∈ x, ∀ b ∈ y, p a b = true → a = b) → eqAll p x y = true → x = y
  | [], [], _, _ => rfl
  | [], _ :: _, _, h => by cases h
  | _ :: _, [], _, h => by cases h
  | a :: s, b :: t, hp, h => by
    rw [eqAll, Bool.and_eq_true] at h
    rw [hp a List.mem_cons_self b List.mem_cons_self h.1, eqAll_eq (fun a ha b hb => hp a (List.mem_cons_of_mem _ ha) b (List.mem_cons_of_mem _ hb)) h.2]
theorem eqAll_refl {p : List D → List D → Bool} : ∀ {x : List (List D)}, (∀ a ∈ x, p a a = true) → eqAll p x x = true
  | [], _ => rfl
  | a :: s, h => by
    rw [eqAll, h a List.mem_cons_self, eqAll_refl (fun a ha => h a (List.mem_cons_of_mem _ ha))]; rfl
theorem sec_eq {S S' : List (List D)} (h : ∀ e ∈ S, ∃ s a x z, e = [D.str s, .int a, .arr x, .int z] ∧ U8s x) (h' : ∀ e ∈ S', ∃ s a x z, e = [D.str s, .int a, .arr x, .int z] ∧ U8s x) : eqAll sameSec S S' = true ↔ S = S' := by
  constructor
  case mpr =>
    rintro rfl
    exact eqAll_refl fun a _ => by simp [sameSec]
  case mp =>
    refine fun hq => eqAll_eq (fun a ha b hb hp => ?_) hq
    obtain ⟨s, n, x, z, rfl, gx⟩ := h _ ha
    obtain ⟨s', n', x', z', rfl, gx'⟩ := h' _ hb
    simp only [sameSec, Bool.and_eq_true, bytes_eq, decide_eq_true_eq, beq_iff_eq] at hp
    obtain ⟨p1, p2, p3, p4⟩ := hp
    simp only [rS, rI, rA, List.getD_cons_zero, List.getD_cons_succ, D.toStr, D.toInt, D.toArr] at p1 p2 p3 p4
    rw [p1, p2, bytes_inj gx gx' p3, p4]
theorem sym_eq {S S' : List (List D)} (h : ∀ e ∈ S, ∃ s b hd w v z, e = [D.str s, .int b, .bool hd, .int w, .int v, .int z] ∧ 0 ≤ b ∧ b ≤ 255) (h' : ∀ e ∈ S', ∃ s b hd w v z, e = [D.str s, .int b, .bool hd, .int w, .int v, .int z] ∧ 0 ≤ b ∧ b ≤ 255) : eqAll sameSym S S' = true ↔ S = S' := by
  constructor
  case mpr =>
    rintro rfl
    exact eqAll_refl fun a _ => by simp [sameSym, ba_eq]
  case mp =>
    refine fun hq => eqAll_eq (fun a ha b hb hp => ?_) hq
    obtain ⟨s, n, x, z, v, u, rfl, _⟩ := h _ ha
    obtain ⟨s', n', x', z', v', u', rfl, _⟩ := h' _ hb
    simp only [sameSym, Bool.and_eq_true, ba_eq, decide_eq_true_eq, beq_iff_eq] at hp
    obtain ⟨p1, p2, p3, p4, p5, p6, _⟩ := hp
    simp only [rS, rI, rB, List.getD_cons_zero, List.getD_cons_succ, D.toStr, D.toInt, D.toBool] at p1 p2 p3 p4 p5 p6
    rw [p1, p2, p3, p4, p5, p6]
theorem rel_eq {S S' : List (List D)} (h : ∀ e ∈ S, ∃ a b k c d, e = [D.int a, .int b, .int k, .int c, .int d] ∧ 0 ≤ k ∧ k ≤ 255) (h' : ∀ e ∈ S', ∃ a b k c d, e = [D.int a, .int b, .int k, .int c, .int d] ∧ 0 ≤ k ∧ k ≤ 255) : eqAll sameRel S S' = true ↔ S = S' := by
  constructor
  case mpr =>
    rintro rfl
    exact eqAll_refl fun a _ => by simp [sameRel]
  case mp =>
    refine fun hq => eqAll_eq (fun a ha b hb hp => ?_) hq
    obtain ⟨s, n, x, z, v, rfl, _⟩ := h _ ha
    obtain ⟨s', n', x', z', v', rfl, _⟩ := h' _ hb
    simp only [sameRel, Bool.and_eq_true, beq_iff_eq] at hp
    obtain ⟨p1, p2, p3, p4, p5, _⟩ := hp
    simp only [rI, List.getD_cons_zero, List.getD_cons_succ, D.toInt] at p1 p2 p3 p4 p5
    rw [p1, p2, p3, p4, p5]
theorem int_eq {x y : List (List D)} (h : I64s x) (h' : I64s y) (e : eqAll sameInt x y = true) : x = y :=
  eqAll_eq (fun a ha b hb hp => by
    obtain ⟨n, rfl⟩ := h _ ha
    obtain ⟨m, rfl⟩ := h' _ hb
    simp only [sameInt, beq_iff_eq, rI, List.getD_cons_zero, D.toInt] at hp
    rw [hp]) e
theorem grp_eq {S S' : List (List D)} (h : ∀ e ∈ S, ∃ s x, e = [D.str s, .arr x] ∧ I64s x) (h' : ∀ e ∈ S', ∃ s x, e = [D.str s, .arr x] ∧ I64s x) : eqAll sameGrp S S' = true ↔ S = S' := by
  constructor
  case mpr =>
    rintro rfl
    exact eqAll_refl fun a _ => by
      rw [sameGrp, eqAll_refl (fun b _ => by simp [sameInt])]; simp
  case mp =>
    refine fun hq => eqAll_eq (fun a ha b hb hp => ?_) hq
    obtain ⟨s, x, rfl, gx⟩ := h _ ha
    obtain ⟨s', x', rfl, gx'⟩ := h' _ hb
    simp only [sameGrp, Bool.and_eq_true, bytes_eq, decide_eq_true_eq] at hp
    obtain ⟨p1, p2⟩ := hp
    simp only [rS, rA, List.getD_cons_zero, List.getD_cons_succ, D.toStr, D.toArr] at p1 p2
    rw [p1, int_eq gx gx' p2]
theorem same_eq {S Y L G S' Y' L' G' : List (List D)} (h : SObj S Y L G) (h' : SObj S' Y' L' G') : sameO S Y L G S' Y' L' G' = true ↔ S = S' ∧ Y = Y' ∧ L = L' ∧ G = G' := by
  rw [sameO, Bool.and_eq_true, Bool.and_eq_true, Bool.and_eq_true, sec_eq h.s h'.s, sym_eq h.y h'.y, rel_eq h.l h'.l, grp_eq h.g h'.g, and_assoc, and_assoc]
theorem grS_ge : ∀ (t : List (List D)) (n : Int), n ≤ grS t n
  | [], n => Int.le_refl _
  | e :: t, n => by
    have m1 := min5_in ((rA e 2).length : Nat) (by omega)
    have m2 := min5_in ((rS e 0).size : Nat) (by omega)
    have := grS_ge t (n + min5 ((rA e 2).length : Nat) + min5 ((rS e 0).size : Nat))
    rw [grS]; omega
theorem grS_mem : ∀ (t : List (List D)) (n : Int), ∀ e ∈ t, n + min5 ((rA e 2).length : Nat) ≤ grS t n
  | x :: t, n, e, he => by
    have m1 := min5_in ((rA x 2).length : Nat) (by omega)
    have m2 := min5_in ((rS x 0).size : Nat) (by omega)
    rw [grS]
    rcases List.mem_cons.1 he with rfl | he
    · have := grS_ge t (n + min5 ((rA e 2).length : Nat) + min5 ((rS e 0).size : Nat))
      omega
    · have := grS_mem t (n + min5 ((rA x 2).length : Nat) + min5 ((rS x 0).size : Nat)) e he
      omega
theorem grY_ge : ∀ (t : List (List D)) (n : Int), n ≤ grY t n
  | [], n => Int.le_refl _
  | e :: t, n => by
    have m2 := min5_in ((rS e 0).size : Nat) (by omega)
    have := grY_ge t (n + min5 ((rS e 0).size : Nat))
    rw [grY]; omega
theorem grG_ge : ∀ (t : List (List D)) (n : Int), n ≤ grG t n
  | [], n => Int.le_refl _
  | e :: t, n => by
    have m1 := min5_in ((rA e 1).length : Nat) (by omega)
    have m2 := min5_in ((rS e 0).size : Nat) (by omega)
    have := grG_ge t (n + min5 ((rS e 0).size : Nat) + min5 ((rA e 1).length : Nat))
    rw [grG]; omega
theorem grG_mem : ∀ (t : List (List D)) (n : Int), ∀ e ∈ t, n + min5 ((rA e 1).length : Nat) ≤ grG t n
  | x :: t, n, e, he => by
    have m1 := min5_in ((rA x 1).length : Nat) (by omega)
    have m2 := min5_in ((rS x 0).size : Nat) (by omega)
    rw [grG]
    rcases List.mem_cons.1 he with rfl | he
    · have := grG_ge t (n + min5 ((rS e 0).size : Nat) + min5 ((rA e 1).length : Nat))
      omega
    · have := grG_mem t (n + min5 ((rS x 0).size : Nat) + min5 ((rA x 1).length : Nat)) e he
      omega
theorem min5_le {n m : Int} (h : min5 n ≤ m) (hm : m < 100000) : n ≤ m := by
  unfold min5 at h; split at h <;> omega
structure Small (S Y L G : List (List D)) : Prop where
  s : S.length ≤ 30
  y : Y.length ≤ 100
  l : L.length ≤ 300
  g : G.length ≤ 30
  sd : lensOk 2 1048576 S = true
  gs : lensOk 1 1048576 G = true
theorem small_of {S Y L G : List (List D)} (h : greatB S Y L G = false) : Small S Y L G := by
  simp only [greatB, Bool.or_eq_false_iff, decide_eq_false_iff_not] at h
  obtain ⟨⟨⟨⟨h0, h1⟩, h2⟩, h3⟩, h4⟩ := h
  rw [List.take_of_length_le (by omega), List.take_of_length_le (by omega), List.take_of_length_le (by omega)] at h0
  have a1 := grG_ge G (grY Y (grS S 0))
  have a2 := grY_ge Y (grS S 0)
  have a3 := grS_ge S 0
  refine ⟨by omega, by omega, by omega, by omega, List.all_eq_true.2 fun e he => decT ?_, List.all_eq_true.2 fun e he => decT ?_⟩
  · have := grS_mem S 0 e he
    have := min5_le (n := ((rA e 2).length : Nat)) (m := 80000) (by omega) (by omega)
    omega
  · have := grG_mem G (grY Y (grS S 0)) e he
    have := min5_le (n := ((rA e 1).length : Nat)) (m := 80000) (by omega) (by omega)
    omega
theorem rels_ok {L : List (List D)} (h : Good (.arr relC) (.arr L)) : relsOk L = true := List.all_eq_true.2 fun e he => by
  obtain ⟨a, b, k, c, d, rfl, h1, h2⟩ := good_rel h he
  exact andT (decT h1) (decT h2)
theorem pos_ok {Y : List (List D)} (h : Good (.arr symC) (.arr Y)) : posOk 1 Y = true := List.all_eq_true.2 fun e he => by
  obtain ⟨s, b, hd, w, v, z, rfl, h1, h2⟩ := good_sym h he
  exact decT h1
theorem chk_pre {S Y L G : List (List D)} (h : GObj S Y L G) (hs : Small S Y L G) : (decide (S.length ≤ 1048576) && decide (Y.length ≤ 1048576) && relsOk L && decide (G.length ≤ 1048576) && lensOk 1 1048576 G) = true := by
  have := hs.s; have := hs.y; have := hs.g
  exact andT (andT (andT (andT (decT (by omega)) (decT (by omega))) (rels_ok h.l)) (decT (by omega))) hs.gs
theorem same_pre {S Y L G : List (List D)} (hs : Small S Y L G) : (decide (S.length ≤ 1048576) && decide (Y.length ≤ 1048576) && decide (L.length ≤ 1048576) && (decide (G.length ≤ 1048576) && lensOk 1 1048576 G)) = true := by
  have := hs.s; have := hs.y; have := hs.g; have := hs.l
  exact andT (andT (andT (decT (by omega)) (decT (by omega))) (decT (by omega))) (andT (decT (by omega)) hs.gs)
end Go.Proofs.Ytkcopbnaleiocaa.Ev
