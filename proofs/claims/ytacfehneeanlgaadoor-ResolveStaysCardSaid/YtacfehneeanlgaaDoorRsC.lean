/- Names (resolve): the small functions compute what XRsD says. -/
import Derived.Test.YtacfehneeanlgaaDoorRsP
namespace Go.Proofs.YtacfehneeanlgaaDoor.Ev
open Go
set_option linter.unusedVariables false
set_option linter.unusedSimpArgs false
theorem con_nan : ∀ vs v, gNan vs = some v → Contract Tryd.prog 67 vs [] (v, []) := by
  intro vs v h
  unfold gNan at h
  split at h <;> cases h
  rename_i a
  refine el_con ExtAll.nil Tryd.func67 (by kernel_rfl) (by kernel_rfl) rfl (by kernel_rfl) (by kernel_rfl) (Runs.of (fun m => nanp0 m a) ?_)
  unfold nant0
  exact is_refl (by simp)
theorem lrA_ok : ExtAll Tryd.prog lrA := .norm con_nan .nil
theorem con_cmi : ∀ vs v, gCmi vs = some v → Contract Tryd.prog 51 vs [] (v, []) := by
  intro vs v h
  unfold gCmi at h
  split at h <;> cases h
  rename_i a b
  refine el_con lrA_ok Tryd.func51 (by kernel_rfl) (by kernel_rfl) rfl (by kernel_rfl) (by kernel_rfl) (Runs.of (fun m => cmip0 m a b) ?_)
  unfold cmit0
  refine ask (fun h => is_refl ?_) (fun h => ask (fun h2 => is_refl ?_) (fun h2 => is_refl ?_))
  · simp only [decide_eq_true_eq] at h; simp [cmpI, h]
  · simp only [decide_eq_true_eq, decide_eq_false_iff_not] at h h2; simp [cmpI, h, show b < a from h2]
  · simp only [decide_eq_true_eq, decide_eq_false_iff_not] at h h2; simp [cmpI, h, show ¬ b < a from h2]
theorem lrB_ok : ExtAll Tryd.prog lrB := .norm con_cmi lrA_ok
/-- Numbers against numbers, the first first. -/
def cmpL : List (List D) → List (List D) → Int
  | [], [] => 0
  | [], _ :: _ => -1
  | _ :: _, [] => 1
  | a :: x, b :: y => if cmpI (rI a 0) (rI b 0) ≠ 0 then cmpI (rI a 0) (rI b 0) else cmpL x y
theorem runs_cmq2 (X Y : List (List D)) (hX : X.length = Y.length) (hl : X.length ≤ 1048576) : ∀ (t : List (List D)) (i : Nat), X.drop i = t → i ≤ X.length → Runs rs1 (38, Tryd.f38, 0) cmqk1 (cmqs1 X Y X (X.length : Nat) (i : Nat)) (Is (.val (.int .i64 (cmpL t (Y.drop i))))) := by
  intro t
  induction t with
  | nil =>
    intro i ht hi
    refine Runs.of (fun q => cmqp1 q X Y X _ _) ?_
    unfold cmqt1
    have h0 := drop_nil ht
    have hy : Y.drop i = [] := List.drop_eq_nil_of_le (by omega)
    rw [hy]
    exact askF (decF (by omega)) (askF (decF (by omega)) (is_refl rfl))
  | cons e t ih =>
    intro i ht hi
    obtain ⟨h1, h2, h3⟩ := drop_cons ht
    have hy : Y.drop i = Y.getD i [] :: Y.drop (i + 1) := by
      rw [List.drop_eq_getElem_cons (by omega : i < Y.length)]
      congr 1
      rw [List.getD_eq_getElem?_getD, List.getElem?_eq_getElem]; rfl
    have hw : IntKind.wrap .i64 ((i : Int) + 1) = ((i + 1 : Nat) : Int) := by rw [wrap64 (by omega) (by omega)]; omega
    refine Runs.of (fun q => cmqp1 q X Y X _ _) ?_
    unfold cmqt1
    have hyc : cellI Y i 0 = rI (Y.getD i []) 0 := rfl
    simp only [Int.toNat_natCast, cI h2, hw, hyc]
    rw [hy]
    refine askT (decT (by omega)) (askT (andT (decT (by omega)) (decT (by omega))) (askF (decF (by omega)) (askT (andT (decT (by omega)) (decT (by omega))) (ask (fun hq => is_refl ?_) (fun hq => ?_)))))
    · have hq' : cmpI (rI e 0) (rI (Y.getD i []) 0) ≠ 0 := by simpa using hq
      simp only [cmpL, if_pos hq']
    · have hq' : ¬ cmpI (rI e 0) (rI (Y.getD i []) 0) ≠ 0 := by simpa using hq
      have := ih (i + 1) h3 (by omega)
      simp only [cmpL, if_neg hq']
      exact this
def gCmq : List V → Option V
  | [.arr [.int .i64] x, .arr [.int .i64] y] => some (.val (.int .i64 (cmpL x y)))
  | _ => none
def pCmq : List V → Bool
  | [.arr [.int .i64] x, .arr [.int .i64] y] => decide (x.length = y.length) && decide (x.length ≤ 1048576)
  | _ => true
theorem con_cmq : ∀ vs v, pCmq vs = true → gCmq vs = some v → Contract Tryd.prog 38 vs [] (v, []) := by
  intro vs v hp h
  unfold gCmq at h
  split at h <;> cases h
  rename_i X Y
  simp only [pCmq, Bool.and_eq_true, decide_eq_true_eq] at hp
  refine el_con lrB_ok Tryd.func38 (by kernel_rfl) (by kernel_rfl) rfl (by kernel_rfl) (by kernel_rfl) (Runs.of (fun m => cmqp0 m X Y) ?_)
  unfold cmqt0
  exact runs_cmq2 X Y hp.1 hp.2 X 0 rfl (by omega)
/-! ### slices.Equal, gone -/
theorem runs_eqb (X Y : List (List D)) (hX : X.length = Y.length) (hl : X.length ≤ 9223372036854775806) : ∀ (t : List (List D)) (i : Nat), X.drop i = t → i ≤ X.length → Runs el0 (27, Tryd.f27, 0) eqbk1 (eqbs1 X Y (X.length : Nat) (i : Nat)) (Is (.val (.bool (decide (boolsOf t = boolsOf (Y.drop i)))))) := by
  intro t
  induction t with
  | nil =>
    intro i ht hi
    refine Runs.of (fun q => eqbp1 q X Y _ _) ?_
    unfold eqbt1
    have h0 := drop_nil ht
    have hy : Y.drop i = [] := List.drop_eq_nil_of_le (by omega)
    rw [hy]
    exact askF (decF (by omega)) (is_refl rfl)
  | cons e t ih =>
    intro i ht hi
    obtain ⟨h1, h2, h3⟩ := drop_cons ht
    have hy : Y.drop i = Y.getD i [] :: Y.drop (i + 1) := by
      rw [List.drop_eq_getElem_cons (by omega : i < Y.length)]
      congr 1
      rw [List.getD_eq_getElem?_getD, List.getElem?_eq_getElem]; rfl
    have hw : IntKind.wrap .i64 ((i : Int) + 1) = ((i + 1 : Nat) : Int) := by rw [wrap64 (by omega) (by omega)]; omega
    refine Runs.of (fun q => eqbp1 q X Y _ _) ?_
    unfold eqbt1
    have hyc : cellB Y i 0 = ((Y.getD i []).getD 0 default).toBool := rfl
    have hxc : cellB X i 0 = (e.getD 0 default).toBool := by unfold cellB; rw [h2]
    simp only [Int.toNat_natCast, hxc, hw, hyc]
    rw [hy]
    refine askT (decT (by omega)) (askT (andT (decT (by omega)) (decT (by omega))) (askT (andT (decT (by omega)) (decT (by omega))) (ask (fun hq => is_refl ?_) (fun hq => ?_))))
    · have hq' : ((e.getD 0 default).toBool) ≠ (((Y.getD i []).getD 0 default).toBool) := by
        intro e1; rw [e1] at hq; simp at hq
      have e3 : decide (boolsOf (e :: t) = boolsOf (Y.getD i [] :: Y.drop (i + 1))) = false := decide_eq_false (fun e2 => hq' (List.cons.inj (show (e.getD 0 default).toBool :: boolsOf t = ((Y.getD i []).getD 0 default).toBool :: boolsOf (Y.drop (i + 1)) from e2)).1)
      rw [e3]
    · have hq' : ((e.getD 0 default).toBool) = (((Y.getD i []).getD 0 default).toBool) := by
        revert hq; cases (e.getD 0 default).toBool <;> cases ((Y.getD i []).getD 0 default).toBool <;> simp
      have := ih (i + 1) h3 (by omega)
      have e2 : decide (boolsOf (e :: t) = boolsOf (Y.getD i [] :: Y.drop (i + 1))) = decide (boolsOf t = boolsOf (Y.drop (i + 1))) := by
        refine decide_eq_decide.2 ⟨fun e2 => (List.cons.inj (show (e.getD 0 default).toBool :: boolsOf t = ((Y.getD i []).getD 0 default).toBool :: boolsOf (Y.drop (i + 1)) from e2)).2, fun e2 => ?_⟩
        show (e.getD 0 default).toBool :: boolsOf t = ((Y.getD i []).getD 0 default).toBool :: boolsOf (Y.drop (i + 1))
        rw [hq', e2]
      rw [e2]
      exact this
theorem con_eqb : ∀ vs v, pEqb vs = true → gEqb vs = some v → Contract Tryd.prog 27 vs [] (v, []) := by
  intro vs v hp h
  unfold gEqb at h
  split at h <;> cases h
  rename_i X Y
  simp only [pEqb, decide_eq_true_eq] at hp
  refine el_con ExtAll.nil Tryd.func27 (by kernel_rfl) (by kernel_rfl) rfl (by kernel_rfl) (by kernel_rfl) (Runs.of (fun m => eqbp0 m X Y) ?_)
  unfold eqbt0
  refine ask (fun h => is_refl ?_) (fun h => ?_)
  · have h' : X.length ≠ Y.length := by intro e; rw [e] at h; simp at h
    have : boolsOf X ≠ boolsOf Y := fun e => h' (by simpa [boolsOf] using congrArg List.length e)
    simp [this]
  · have h' : X.length = Y.length := by have := (bne_eq_false_iff_eq.1 h); omega
    exact runs_eqb X Y h' hp X 0 rfl (by omega)
theorem con_gon : ∀ vs v, pGon vs = true → gGon vs = some v → Contract Tryd.prog 24 vs [] (v, []) := by
  intro vs v hp h
  unfold gGon at h
  split at h <;> cases h
  rename_i i m s y r g b nm bd hd wh va sz
  simp only [pGon, Bool.and_eq_true, decide_eq_true_eq] at hp
  refine el_con ExtAll.nil Tryd.func24 (by kernel_rfl) (by kernel_rfl) rfl (by kernel_rfl) (by kernel_rfl) (Runs.of (fun q => gonp0 q i m s y r g b nm bd hd wh va sz) ?_)
  unfold gont0
  refine ask (fun h => ?_) (fun h => is_refl ?_)
  · simp only [decide_eq_true_eq] at h
    have hw : IntKind.wrap .i64 (wh - 1) = wh - 1 := wrap64 (by omega) (by omega)
    rw [hw]
    refine askT (andT (decT (by omega)) (decT (by omega))) (is_refl ?_)
    simp [goneB, h]
  · simp only [decide_eq_false_iff_not] at h
    simp [goneB, h]
end Go.Proofs.YtacfehneeanlgaaDoor.Ev
