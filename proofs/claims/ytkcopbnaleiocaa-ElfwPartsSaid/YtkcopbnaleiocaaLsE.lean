/- Twin, Same: that the functions compute what XLsD says. -/
import Derived.Test.YtkcopbnaleiocaaLsC
namespace Go.Proofs.Ytkcopbnaleiocaa.Ev
open Go
set_option linter.unusedVariables false
set_option linter.unusedSimpArgs false
theorem con_sg1 : ∀ vs v, pSg1 vs = true → gSg1 vs = some v → Contract Try.prog 74 vs [] (v, []) := by
  intro vs v hp h
  unfold gSg1 at h
  split at h <;> cases h
  rename_i s x s' x'
  refine el_con ld1_ok Try.func74 (by kernel_rfl) (by kernel_rfl) rfl (by kernel_rfl) (by kernel_rfl) (Runs.of (fun q => sg1p0 q s x s' x') ?_)
  unfold sg1t0
  have c0 : sameGrp [.str s, .arr x] [.str s', .arr x'] = (s.toList == s'.toList && eqAll sameInt x x') := rfl
  rw [c0]
  simp only [pSg1, decide_eq_true_eq] at hp
  refine ask (fun h1 => askT (show decide (x.length ≤ 1048576) = true from decT hp) (is_refl ?_)) (fun h1 => is_refl ?_)
  · rw [h1]; rfl
  · rw [h1]; rfl
theorem runs_eqs (x y : List (List D)) (hl : x.length = y.length) (hx : x.length ≤ 70368744177664) : ∀ (t : List (List D)) (i : Nat), x.drop i = t → i ≤ x.length → eqAll sameSec t (y.drop i) = eqAll sameSec x y → Runs ld1i (69, Try.f69, 0) eqsk1 (eqss1 y x (x.length : Nat) (i : Nat)) (Is (.val (.bool (eqAll sameSec x y)))) := by
  intro t
  induction t with
  | nil =>
    intro i ht hi he
    refine Runs.of (fun q => eqsp1 q y x _ _) ?_
    unfold eqst1
    have := lsd_nil ht
    have hy : y.drop i = [] := List.drop_eq_nil_of_le (by omega)
    rw [hy] at he
    exact askF (decF (by omega)) (is_refl (congrArg (fun b => V.val (.bool b)) he))
  | cons e t ih =>
    intro i ht hi he
    obtain ⟨h1, h2, h3⟩ := lsd_cons ht
    refine Runs.of (fun q => eqsp1 q y x _ _) ?_
    unfold eqst1
    have hw : IntKind.wrap .i64 ((i : Int) + 1) = ((i + 1 : Nat) : Int) := by rw [wrap64 (by omega) (by omega)]; omega
    refine askT (decT (by omega)) (askT (andT (decT (by omega)) (decT (by omega))) (askT (andT (decT (by omega)) (decT (by omega))) ?_))
    simp only [Int.toNat_natCast, lsI h2, lsS h2, lsB h2, lsA h2, lsI (xs := y) (i := i) rfl, lsS (xs := y) (i := i) rfl, lsB (xs := y) (i := i) rfl, lsA (xs := y) (i := i) rfl, hw]
    rw [drop_same hl h1, eqAll] at he
    refine ask (fun h => is_refl ?_) (fun h => ?_)
    · rw [← he, show sameSec e (y.getD i []) = false from notT h, Bool.false_and]
    · rw [show sameSec e (y.getD i []) = true from notF h, Bool.true_and] at he
      exact ih (i + 1) h3 (by omega) he
theorem con_eqs : ∀ vs v, pEq vs = true → gEqS vs = some v → Contract Try.prog 69 vs [] (v, []) := by
  intro vs v hp h
  unfold gEqS at h
  split at h <;> cases h
  rename_i x y
  simp only [pEq, Bool.and_eq_true, decide_eq_true_eq] at hp
  refine el_con ld1_ok Try.func69 (by kernel_rfl) (by kernel_rfl) rfl (by kernel_rfl) (by kernel_rfl) (Runs.of (fun q => eqsp0 q x y) ?_)
  unfold eqst0
  refine ask (fun h => is_refl ?_) (fun h => ?_)
  · rw [eqAll_ne (by have : ((x.length : Nat) : Int) ≠ (y.length : Nat) := by simpa [bne] using h
                     omega)]
  · have hl : x.length = y.length := by
      have : ((x.length : Nat) : Int) = (y.length : Nat) := by simpa [bne] using h
      omega
    exact runs_eqs x y hl (by omega) x 0 rfl (by omega) rfl
/-! ### Twin -/
theorem is_agg4 {a b c d a' b' c' d' : V} (h1 : Rx1 a a') (h2 : Rx1 b b') (h3 : Rx1 c c') (h4 : Rx1 d d') : Is (.agg [a', b', c', d']) (.agg [a, b, c, d], []) := by
  refine ⟨.agg rfl fun i v v' hv hv' => ?_, rfl⟩
  match i with
  | 0 => simp at hv hv'; subst hv; subst hv'; exact h1
  | 1 => simp at hv hv'; subst hv; subst hv'; exact h2
  | 2 => simp at hv hv'; subst hv; subst hv'; exact h3
  | 3 => simp at hv hv'; subst hv; subst hv'; exact h4
  | i + 4 => simp at hv
theorem lensOk_get' {j n : Nat} {G : List (List D)} (h : lensOk j n G = true) {e : List D} (he : e ∈ G) : (rA e j).length ≤ n := by
  have := List.all_eq_true.1 h e he
  simpa using this
theorem mem_drop' {xs t : List (List D)} {e : List D} {i : Nat} (h : xs.drop i = e :: t) : e ∈ xs :=
  List.mem_of_mem_drop (by rw [h]; exact List.mem_cons_self)
def twG (a : V) (Y L G : List (List D)) : V := .agg [a, .arr symC Y, .arr relC L, .arr grpC (G.map twGrp)]
theorem runs_tw5 (A Y L G : List (List D)) (hG : G.length ≤ 1024) (hg : lensOk 1 1048576 G = true) : ∀ (t : List (List D)) (i : Nat) (B : List (List D)), G.drop i = t → i ≤ G.length → B ++ t.map twGrp = G.map twGrp → B.length = i → Runs ld1i (30, Try.f30, 0) twnk5 (twns5 G (G.length : Nat) (i : Nat) Y L B) (Is (twG (V.arr secC []) Y L G)) := by
  intro t
  induction t with
  | nil =>
    intro i B ht hi he hB
    refine Runs.of (fun q => twnp5 q G _ _ Y L B) ?_
    unfold twnt5
    have := lsd_nil ht
    have he : B = G.map twGrp := by rw [← he]; simp
    rw [he]
    exact askF (decF (by omega)) (is_agg4 (.nilArr _) (.refl _) (.refl _) (.refl _))
  | cons e t ih =>
    intro i B ht hi he hB
    obtain ⟨h1, h2, h3⟩ := lsd_cons ht
    have hm := mem_drop' ht
    refine Runs.of (fun q => twnp5 q G _ _ Y L B) ?_
    unfold twnt5
    have hw : IntKind.wrap .i64 ((i : Int) + 1) = ((i + 1 : Nat) : Int) := by rw [wrap64 (by omega) (by omega)]; omega
    refine askT (decT (by omega)) (askT (andT (decT (by omega)) (decT (by omega))) ?_)
    simp only [Int.toNat_natCast, lsS h2, lsA h2, hw]
    have hl := lensOk_get' hg hm
    refine askT (show decide ((rA e 1).length ≤ 1048576) = true from decT hl) (askT (andT (decT (by simp only [List.length_cons, List.length_nil]; omega)) (decT (by simp only [List.length_cons, List.length_nil]; omega))) ?_)
    exact ih (i + 1) (B ++ [twGrp e]) h3 (by omega) (by rw [← he]; simp) (by rw [List.length_append]; simp only [List.length_cons, List.length_nil]; omega)
theorem runs_tw6 (A Y L G : List (List D)) (hG : G.length ≤ 1024) (hg : lensOk 1 1048576 G = true) : ∀ (t : List (List D)) (i : Nat) (B : List (List D)), G.drop i = t → i ≤ G.length → B ++ t.map twGrp = G.map twGrp → B.length = i → Runs ld1i (30, Try.f30, 0) twnk6 (twns6 G (G.length : Nat) (i : Nat) A Y L B) (Is (twG (V.arr secC A) Y L G)) := by
  intro t
  induction t with
  | nil =>
    intro i B ht hi he hB
    refine Runs.of (fun q => twnp6 q G _ _ A Y L B) ?_
    unfold twnt6
    have := lsd_nil ht
    have he : B = G.map twGrp := by rw [← he]; simp
    rw [he]
    exact askF (decF (by omega)) (is_agg4 (.refl _) (.refl _) (.refl _) (.refl _))
  | cons e t ih =>
    intro i B ht hi he hB
    obtain ⟨h1, h2, h3⟩ := lsd_cons ht
    have hm := mem_drop' ht
    refine Runs.of (fun q => twnp6 q G _ _ A Y L B) ?_
    unfold twnt6
    have hw : IntKind.wrap .i64 ((i : Int) + 1) = ((i + 1 : Nat) : Int) := by rw [wrap64 (by omega) (by omega)]; omega
    refine askT (decT (by omega)) (askT (andT (decT (by omega)) (decT (by omega))) ?_)
    simp only [Int.toNat_natCast, lsS h2, lsA h2, hw]
    have hl := lensOk_get' hg hm
    refine askT (show decide ((rA e 1).length ≤ 1048576) = true from decT hl) (askT (andT (decT (by simp only [List.length_cons, List.length_nil]; omega)) (decT (by simp only [List.length_cons, List.length_nil]; omega))) ?_)
    exact ih (i + 1) (B ++ [twGrp e]) h3 (by omega) (by rw [← he]; simp) (by rw [List.length_append]; simp only [List.length_cons, List.length_nil]; omega)
theorem runs_tw3 (A Y L G : List (List D)) (hG : G.length ≤ 1024) (hg : lensOk 1 1048576 G = true) : Runs ld1i (30, Try.f30, 0) twnk3 (twns3 G (G.length : Nat) 0 Y L) (Is (twG (V.arr secC []) Y L G)) := by
  refine Runs.of (fun q => twnp3 q G _ _ Y L) ?_
  unfold twnt3
  cases hG0 : G with
  | nil => exact askF rfl (is_agg4 (.nilArr _) (.refl _) (.refl _) (.nilArr _))
  | cons e t =>
    have h0 : G.drop 0 = e :: t := by rw [hG0]; rfl
    obtain ⟨h1, h2, h3⟩ := lsd_cons h0
    have hm := mem_drop' h0
    rw [← hG0]
    have hw : IntKind.wrap .i64 ((0 : Int) + 1) = ((1 : Nat) : Int) := by rw [wrap64 (by omega) (by omega)]; rfl
    refine askT (decT (by omega)) (askT (andT (decT (by omega)) (decT (by omega))) ?_)
    have z : Int.toNat 0 = 0 := rfl
    simp only [z, lsS h2, lsA h2, hw]
    have hl := lensOk_get' hg hm
    refine askT (show decide ((rA e 1).length ≤ 1048576) = true from decT hl) ?_
    exact runs_tw5 A Y L G hG hg t 1 [twGrp e] h3 (by omega) (by rw [hG0]; rfl) rfl
theorem runs_tw4 (A Y L G : List (List D)) (hG : G.length ≤ 1024) (hg : lensOk 1 1048576 G = true) : Runs ld1i (30, Try.f30, 0) twnk4 (twns4 G (G.length : Nat) 0 A Y L) (Is (twG (V.arr secC A) Y L G)) := by
  refine Runs.of (fun q => twnp4 q G _ _ A Y L) ?_
  unfold twnt4
  cases hG0 : G with
  | nil => exact askF rfl (is_agg4 (.refl _) (.refl _) (.refl _) (.nilArr _))
  | cons e t =>
    have h0 : G.drop 0 = e :: t := by rw [hG0]; rfl
    obtain ⟨h1, h2, h3⟩ := lsd_cons h0
    have hm := mem_drop' h0
    rw [← hG0]
    have hw : IntKind.wrap .i64 ((0 : Int) + 1) = ((1 : Nat) : Int) := by rw [wrap64 (by omega) (by omega)]; rfl
    refine askT (decT (by omega)) (askT (andT (decT (by omega)) (decT (by omega))) ?_)
    have z : Int.toNat 0 = 0 := rfl
    simp only [z, lsS h2, lsA h2, hw]
    have hl := lensOk_get' hg hm
    refine askT (show decide ((rA e 1).length ≤ 1048576) = true from decT hl) ?_
    exact runs_tw6 A Y L G hG hg t 1 [twGrp e] h3 (by omega) (by rw [hG0]; rfl) rfl
theorem runs_tw2 (S Y L G : List (List D)) (hS : S.length ≤ 1024) (hs : lensOk 2 1048576 S = true) (hG : G.length ≤ 1024) (hg : lensOk 1 1048576 G = true) : ∀ (t : List (List D)) (i : Nat) (A : List (List D)), S.drop i = t → i ≤ S.length → A ++ t.map twSec = S.map twSec → A.length = i → Runs ld1i (30, Try.f30, 0) twnk2 (twns2 S (S.length : Nat) (i : Nat) S Y L G A Y L) (Is (twG (.arr secC (S.map twSec)) Y L G)) := by
  intro t
  induction t with
  | nil =>
    intro i A ht hi he hA
    refine Runs.of (fun q => twnp2 q S _ _ S Y L G A Y L) ?_
    unfold twnt2
    have := lsd_nil ht
    have he : A = S.map twSec := by rw [← he]; simp
    rw [he]
    exact askF (decF (by omega)) (runs_tw4 _ Y L G hG hg)
  | cons e t ih =>
    intro i A ht hi he hA
    obtain ⟨h1, h2, h3⟩ := lsd_cons ht
    have hm := mem_drop' ht
    refine Runs.of (fun q => twnp2 q S _ _ S Y L G A Y L) ?_
    unfold twnt2
    have hw : IntKind.wrap .i64 ((i : Int) + 1) = ((i + 1 : Nat) : Int) := by rw [wrap64 (by omega) (by omega)]; omega
    refine askT (decT (by omega)) (askT (andT (decT (by omega)) (decT (by omega))) ?_)
    simp only [Int.toNat_natCast, lsS h2, lsA h2, lsI h2, hw]
    have hl := lensOk_get' hs hm
    refine askT (show decide ((rA e 2).length ≤ 1048576) = true from decT hl) (askT (andT (decT (by simp only [List.length_cons, List.length_nil]; omega)) (decT (by simp only [List.length_cons, List.length_nil]; omega))) ?_)
    exact ih (i + 1) (A ++ [twSec e]) h3 (by omega) (by rw [← he]; simp) (by rw [List.length_append]; simp only [List.length_cons, List.length_nil]; omega)
theorem con_twn : ∀ vs v, pTwn vs = true → gTwn vs = some v → Contract Try.prog 30 vs [] (v, []) := by
  intro vs v hp h
  unfold gTwn at h
  split at h <;> cases h
  rename_i S Y L G
  simp only [pTwn, Bool.and_eq_true, decide_eq_true_eq] at hp
  obtain ⟨⟨⟨⟨⟨p1, p2⟩, p3⟩, p4⟩, p5⟩, p6⟩ := hp
  refine el_con ld1_ok Try.func30 (by kernel_rfl) (by kernel_rfl) rfl (by kernel_rfl) (by kernel_rfl) (Runs.of (fun q => twnp0 q S Y L G) ?_)
  unfold twnt0
  refine askT (show decide (Y.length ≤ 1048576) = true from decT (by omega)) (askT (show decide (L.length ≤ 1048576) = true from decT (by omega)) (Runs.of (fun q => twnp1 q S _ _ S Y L G Y L) ?_))
  unfold twnt1
  cases hS0 : S with
  | nil => exact askF rfl (runs_tw3 [] Y L G p4 p6)
  | cons e t =>
    have h0 : S.drop 0 = e :: t := by rw [hS0]; rfl
    obtain ⟨h1, h2, h3⟩ := lsd_cons h0
    have hm := mem_drop' h0
    rw [← hS0]
    have hw : IntKind.wrap .i64 ((0 : Int) + 1) = ((1 : Nat) : Int) := by rw [wrap64 (by omega) (by omega)]; rfl
    refine askT (decT (by omega)) (askT (andT (decT (by omega)) (decT (by omega))) ?_)
    have z : Int.toNat 0 = 0 := rfl
    simp only [z, lsS h2, lsA h2, lsI h2, hw]
    have hl := lensOk_get' p5 hm
    refine askT (show decide ((rA e 2).length ≤ 1048576) = true from decT hl) ?_
    exact runs_tw2 S Y L G p1 p5 p4 p6 t 1 [twSec e] h3 (by omega) (by rw [hS0]; rfl) rfl
theorem ld2_ok : ExtAll Try.prog ld2 := .normP con_sg1 (.normP con_eqs (.normP con_twn ld1_ok))
theorem runs_eqg (x y : List (List D)) (hl : x.length = y.length) (hx : x.length ≤ 70368744177664) (hx2 : lensOk 1 1048576 x = true) : ∀ (t : List (List D)) (i : Nat), x.drop i = t → i ≤ x.length → eqAll sameGrp t (y.drop i) = eqAll sameGrp x y → Runs ld2i (73, Try.f73, 0) eqgk1 (eqgs1 y x (x.length : Nat) (i : Nat)) (Is (.val (.bool (eqAll sameGrp x y)))) := by
  intro t
  induction t with
  | nil =>
    intro i ht hi he
    refine Runs.of (fun q => eqgp1 q y x _ _) ?_
    unfold eqgt1
    have := lsd_nil ht
    have hy : y.drop i = [] := List.drop_eq_nil_of_le (by omega)
    rw [hy] at he
    exact askF (decF (by omega)) (is_refl (congrArg (fun b => V.val (.bool b)) he))
  | cons e t ih =>
    intro i ht hi he
    obtain ⟨h1, h2, h3⟩ := lsd_cons ht
    refine Runs.of (fun q => eqgp1 q y x _ _) ?_
    unfold eqgt1
    have hw : IntKind.wrap .i64 ((i : Int) + 1) = ((i + 1 : Nat) : Int) := by rw [wrap64 (by omega) (by omega)]; omega
    refine askT (decT (by omega)) (askT (andT (decT (by omega)) (decT (by omega))) (askT (andT (decT (by omega)) (decT (by omega))) ?_))
    simp only [Int.toNat_natCast, lsI h2, lsS h2, lsB h2, lsA h2, lsI (xs := y) (i := i) rfl, lsS (xs := y) (i := i) rfl, lsB (xs := y) (i := i) rfl, lsA (xs := y) (i := i) rfl, hw]
    rw [drop_same hl h1, eqAll] at he
    refine askT (show decide ((rA e 1).length ≤ 1048576) = true from decT (lensOk_get' hx2 (mem_drop' ht))) ?_
    refine ask (fun h => is_refl ?_) (fun h => ?_)
    · rw [← he, show sameGrp e (y.getD i []) = false from notT h, Bool.false_and]
    · rw [show sameGrp e (y.getD i []) = true from notF h, Bool.true_and] at he
      exact ih (i + 1) h3 (by omega) he
theorem con_eqg : ∀ vs v, pEqG vs = true → gEqG vs = some v → Contract Try.prog 73 vs [] (v, []) := by
  intro vs v hp h
  unfold gEqG at h
  split at h <;> cases h
  rename_i x y
  simp only [pEqG, Bool.and_eq_true, decide_eq_true_eq] at hp
  refine el_con ld2_ok Try.func73 (by kernel_rfl) (by kernel_rfl) rfl (by kernel_rfl) (by kernel_rfl) (Runs.of (fun q => eqgp0 q x y) ?_)
  unfold eqgt0
  refine ask (fun h => is_refl ?_) (fun h => ?_)
  · rw [eqAll_ne (by have : ((x.length : Nat) : Int) ≠ (y.length : Nat) := by simpa [bne] using h
                     omega)]
  · have hl : x.length = y.length := by
      have : ((x.length : Nat) : Int) = (y.length : Nat) := by simpa [bne] using h
      omega
    exact runs_eqg x y hl (by omega) hp.2 x 0 rfl (by omega) rfl
theorem ld3_ok : ExtAll Try.prog ld3 := .normP con_eqg ld2_ok
theorem con_sam : ∀ vs v, pSame vs = true → gSame vs = some v → Contract Try.prog 29 vs [] (v, []) := by
  intro vs v hp h
  unfold gSame at h
  split at h <;> cases h
  rename_i S Y L G S' Y' L' G'
  simp only [pSame, Bool.and_eq_true, decide_eq_true_eq] at hp
  obtain ⟨⟨⟨p1, p2⟩, p3⟩, p4, p5⟩ := hp
  refine el_con ld3_ok Try.func29 (by kernel_rfl) (by kernel_rfl) rfl (by kernel_rfl) (by kernel_rfl) (Runs.of (fun q => samp0 q S Y L G S' Y' L' G') ?_)
  unfold samt0
  refine askT (show decide (S.length ≤ 1048576) = true from decT p1) (ask (fun h1 => askT (show decide (Y.length ≤ 1048576) = true from decT p2) (ask (fun h2 => askT (show decide (L.length ≤ 1048576) = true from decT p3) (ask (fun h3 => askT (show (decide (G.length ≤ 1048576) && lensOk 1 1048576 G) = true from andT (decT p4) p5) (is_refl ?_)) (fun h3 => is_refl ?_))) (fun h2 => is_refl ?_))) (fun h1 => is_refl ?_))
  · rw [sameO, h1, h2, h3]; rfl
  · rw [sameO, h1, h2, h3]; rfl
  · rw [sameO, h1, h2]; rfl
  · rw [sameO, h1]; rfl
theorem ld4_ok : ExtAll Try.prog ld4 := .normP con_sam ld3_ok
end Go.Proofs.Ytkcopbnaleiocaa.Ev
