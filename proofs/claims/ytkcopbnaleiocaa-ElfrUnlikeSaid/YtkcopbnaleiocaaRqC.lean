/- An object is read: that the function computes what XRqD says. -/
import Derived.Test.YtkcopbnaleiocaaRqI
import Derived.Test.YtkcopbnaleiocaaRqP
namespace Go.Proofs.Ytkcopbnaleiocaa.Ev
open Go
set_option linter.unusedVariables false
set_option linter.unusedSimpArgs false
noncomputable def rdV (b : List (List D)) : V := .tup [.agg [.arr secC (readO b (readF b).s), .arr symC (readO b (readF b).y), .arr relC (readO b (readF b).l), .arr grpC (readO b (readF b).g)], .val (.int .i64 (readE b))]
theorem rd_bad {b : List (List D)} (h : readE b = 8) : Is (rdV b) (.tup [.agg [.val nilSlice, .val nilSlice, .val nilSlice, .val nilSlice], .val (.int .i64 8)], []) := by
  have h0 : ∀ x, readO b x = [] := fun x => by rw [readO, h]; rfl
  unfold rdV
  rw [h, h0, h0, h0, h0]
  refine is_tup2 (.agg rfl fun i v v' hv hv' => ?_) (rx_of rfl)
  match i with
  | 0 => simp at hv hv'; subst hv; subst hv'; exact .nilArr _
  | 1 => simp at hv hv'; subst hv; subst hv'; exact .nilArr _
  | 2 => simp at hv hv'; subst hv; subst hv'; exact .nilArr _
  | 3 => simp at hv hv'; subst hv; subst hv'; exact .nilArr _
  | i + 4 => simp at hv
theorem rd_good {b : List (List D)} (h : readE b = 0) : Is (rdV b) (.tup [.agg [.arr secC (readF b).s, .arr symC (readF b).y, .arr relC (readF b).l, .arr grpC (readF b).g], .val (.int .i64 0)], []) := by
  have h0 : ∀ x, readO b x = x := fun x => by rw [readO, if_pos h]
  unfold rdV
  rw [h, h0, h0, h0, h0]
  exact is_refl rfl
theorem runs_rdd {b h : List (List D)} (hb : bytesIn b = true) (hl : b.length ≤ 65536) (hh : h.length ≤ 100) : ∀ (d i : Nat) (r : Rd), RI i b h r → partsGo d i r = readF b → h.length ≤ i + d → 1 ≤ i → i ≤ 101 →
    Runs es5 (37, Try.f37, 0) rddk1 (rdds1 b (i : Nat) r.b r.h r.s r.y r.l r.g r.e) (Is (rdV b)) := by
  intro d
  induction d with
  | zero =>
    intro i r hr hF hd h1 h2
    refine Runs.of (fun q => rddp1 q b _ r.b r.h r.s r.y r.l r.g r.e) ?_
    unfold rddt1
    have hrh := hr.h
    have hF : r = readF b := hF
    refine askF (decF (by rw [hrh]; omega)) ?_
    subst hF
    refine ask (fun he => rd_bad ?_) (fun he => askT (show _ = true from rd_pre hr h2) (ask (fun hw => rd_bad ?_) (fun hw => ask (fun hs => rd_bad ?_) (fun hs => rd_good ?_))))
    · rw [readE, if_neg (by omega), if_pos (bne_iff_ne.1 he)]
    · have he : (readF b).e = 0 := by simpa [bne] using he
      rw [readE, if_neg (by omega), if_neg (by simp [he]), if_pos (bne_iff_ne.1 hw)]
    · have he : (readF b).e = 0 := by simpa [bne] using he
      have hw : wrE (readF b).s (readF b).y (readF b).l (readF b).g = 0 := by simpa [bne] using hw
      rw [readE, if_neg (by omega), if_neg (by simp [he]), if_neg (by simp [hw]), if_neg (by rw [notT hs]; simp)]
    · have he : (readF b).e = 0 := by simpa [bne] using he
      have hw : wrE (readF b).s (readF b).y (readF b).l (readF b).g = 0 := by simpa [bne] using hw
      rw [readE, if_neg (by omega), if_neg (by simp [he]), if_neg (by simp [hw]), if_pos (notF hs)]
  | succ d ih =>
    intro i r hr hF hd h1 h2
    refine Runs.of (fun q => rddp1 q b _ r.b r.h r.s r.y r.l r.g r.e) ?_
    unfold rddt1
    have hrh := hr.h
    refine ask (fun ha => ask (fun he => ?_) (fun hne => ?_)) (fun hna => ?_)
    · have ha := of_decide_eq_true ha
      rw [hrh] at ha
      have he : r.e = 0 := beq_iff_eq.1 he
      have hw : IntKind.wrap .i64 ((i : Int) + 1) = ((i + 1 : Nat) : Int) := by rw [wrap64 (by omega) (by omega)]; omega
      simp only [hw, Int.toNat_natCast]
      have hF' : partsGo d (i + 1) (partR r (hdRow (r.h.getD i []))) = readF b := by
        rw [← hF]
        conv => rhs; unfold partsGo
        rw [if_pos ⟨by rw [hrh]; omega, he⟩]
      have s1 := hr.s; have s2 := hr.y; have s3 := hr.l; have s4 := hr.g
      have hrb := hr.b
      have big : rdBig r = true := andT (andT (andT (andT (andT (andT (andT (by rw [hrb]; exact hb) (decT (by rw [hrb]; omega))) (decT (by rw [hrh]; omega))) (decT (by rw [hrh]; omega))) (decT (by omega))) (decT (by omega))) (decT (by omega))) (decT (by omega))
      refine askT (andT (decT (by omega)) (decT (by rw [hrh]; omega))) (askT (show rdBig r = true from big) ?_)
      exact ih (i + 1) (partR r (hdRow (r.h.getD i []))) (part_in hb hl hr _) hF' (by omega) (by omega) (by omega)
    · have he : r.e ≠ 0 := beq_eq_false_iff_ne.1 hne
      have hF : r = readF b := by
        rw [← hF]; unfold partsGo; rw [if_neg (fun hc => he hc.2)]
      subst hF
      refine ask (fun he => rd_bad ?_) (fun he => askT (show _ = true from rd_pre hr h2) (ask (fun hw => rd_bad ?_) (fun hw => ask (fun hs => rd_bad ?_) (fun hs => rd_good ?_))))
      · rw [readE, if_neg (by omega), if_pos (bne_iff_ne.1 he)]
      · have he : (readF b).e = 0 := by simpa [bne] using he
        rw [readE, if_neg (by omega), if_neg (by simp [he]), if_pos (bne_iff_ne.1 hw)]
      · have he : (readF b).e = 0 := by simpa [bne] using he
        have hw : wrE (readF b).s (readF b).y (readF b).l (readF b).g = 0 := by simpa [bne] using hw
        rw [readE, if_neg (by omega), if_neg (by simp [he]), if_neg (by simp [hw]), if_neg (by rw [notT hs]; simp)]
      · have he : (readF b).e = 0 := by simpa [bne] using he
        have hw : wrE (readF b).s (readF b).y (readF b).l (readF b).g = 0 := by simpa [bne] using hw
        rw [readE, if_neg (by omega), if_neg (by simp [he]), if_neg (by simp [hw]), if_pos (notF hs)]
    · have ha := of_decide_eq_false hna
      have hF : r = readF b := by
        rw [← hF]; unfold partsGo; rw [if_neg (fun hc => ha (by omega))]
      subst hF
      refine ask (fun he => rd_bad ?_) (fun he => askT (show _ = true from rd_pre hr h2) (ask (fun hw => rd_bad ?_) (fun hw => ask (fun hs => rd_bad ?_) (fun hs => rd_good ?_))))
      · rw [readE, if_neg (by omega), if_pos (bne_iff_ne.1 he)]
      · have he : (readF b).e = 0 := by simpa [bne] using he
        rw [readE, if_neg (by omega), if_neg (by simp [he]), if_pos (bne_iff_ne.1 hw)]
      · have he : (readF b).e = 0 := by simpa [bne] using he
        have hw : wrE (readF b).s (readF b).y (readF b).l (readF b).g = 0 := by simpa [bne] using hw
        rw [readE, if_neg (by omega), if_neg (by simp [he]), if_neg (by simp [hw]), if_neg (by rw [notT hs]; simp)]
      · have he : (readF b).e = 0 := by simpa [bne] using he
        have hw : wrE (readF b).s (readF b).y (readF b).l (readF b).g = 0 := by simpa [bne] using hw
        rw [readE, if_neg (by omega), if_neg (by simp [he]), if_neg (by simp [hw]), if_pos (notF hs)]
theorem con_rdd : ∀ vs v, pRead vs = true → gRead vs = some v → Contract Try.prog 37 vs [] (v, []) := by
  intro vs v hp h
  unfold gRead at h
  split at h <;> cases h
  rename_i b
  simp only [pRead, Bool.and_eq_true, decide_eq_true_eq] at hp
  refine el_con le5_ok Try.func37 (by kernel_rfl) (by kernel_rfl) rfl (by kernel_rfl) (by kernel_rfl) (Runs.of (fun q => rddp0 q b) ?_)
  unfold rddt0
  refine ask (fun hl => ?_) (fun hl => ?_)
  · have hl := of_decide_eq_true hl
    exact rd_bad (by rw [readE, if_pos (by omega)])
  · have hl := of_decide_eq_false hl
    have hh := (allF_in hp.1).1
    refine askT (show (bytesIn b && decide (b.length ≤ 1048576) && decide (([] : List (List D)).length ≤ 1024)) = true from andT (andT hp.1 (decT hp.2)) rfl) ?_
    exact runs_rdd hp.1 (by omega) hh (allF (rd0 b)).h.length 1 (allF (rd0 b)) (rd_start hp.1) rfl (by omega) (by omega) (by omega)
theorem con_isf : ∀ vs v, gIs vs = some v → Contract Try.prog 38 vs [] (v, []) := by
  intro vs v h
  unfold gIs at h
  split at h <;> cases h
  rename_i b
  refine el_con le5_ok Try.func38 (by kernel_rfl) (by kernel_rfl) rfl (by kernel_rfl) (by kernel_rfl) (Runs.of (fun q => isfp0 q b) ?_)
  unfold isft0
  exact is_refl rfl
theorem le6_ok : ExtAll Try.prog le6 := .normP con_rdd (.norm con_isf le5_ok)
end Go.Proofs.Ytkcopbnaleiocaa.Ev
