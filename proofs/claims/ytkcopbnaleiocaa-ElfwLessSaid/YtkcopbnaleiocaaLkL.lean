/- ElfwLess: that it answers true, for every two objects. -/
import Derived.Test.YtkcopbnaleiocaaLkG
namespace Go.Proofs.Ytkcopbnaleiocaa.Ev
open Go
set_option linter.unusedVariables false
set_option linter.unusedSimpArgs false
/-! ### Less is still an object that may be -/
theorem grpsGo_take {n : Int} : ∀ {G : List (List D)} {m tk : List (List D)} (k : Nat), grpsGo n G m tk = true → grpsGo n (G.take k) m tk = true
  | [], _, _, k, _ => by simp [grpsGo]
  | g :: t, m, tk, 0, _ => by simp [grpsGo]
  | g :: t, m, tk, k + 1, h => by
    unfold grpsGo at h
    rw [List.take_succ_cons]
    unfold grpsGo
    split at h
    · cases h
    · rename_i h1
      rw [if_neg h1]
      split at h
      · cases h
      · rename_i h2
        rw [if_neg h2]
        split at h
        · cases h
        · rename_i h3
          rw [if_neg h3]
          split at h
          · cases h
          · rename_i tk' h4
            exact grpsGo_take k h
theorem relsGo_take {S L : List (List D)} {n : Int} (k : Nat) : ∀ (t : List (List D)) (i : Nat), i + t.length ≤ k → ∀ u, relsGo S n L (t ++ u) i = true → relsGo S n (L.take k) t i = true
  | [], i, _, u, _ => rfl
  | e :: t, i, hi, u, h => by
    rw [List.length_cons] at hi
    rw [List.cons_append] at h
    simp only [relsGo, Bool.and_eq_true] at h ⊢
    rw [List.take_take, Nat.min_eq_left (by omega)]
    exact ⟨h.1, relsGo_take k t (i + 1) (by omega) u h.2⟩
theorem chk_less_g {S Y L G : List (List D)} (k : Nat) (h : chkB S Y L G = true) : chkB S Y L (G.take k) = true := by
  simp only [chkB, grpsB, Bool.and_eq_true, decide_eq_true_eq] at h ⊢
  exact ⟨h.1, grpsGo_take k h.2.1, by rw [List.length_take]; omega⟩
theorem chk_less_l {S Y L G : List (List D)} (k : Nat) (h : chkB S Y L G = true) : chkB S Y (L.take k) G = true := by
  simp only [chkB, relsB, Bool.and_eq_true, decide_eq_true_eq] at h ⊢
  obtain ⟨⟨⟨a, b⟩, c, d⟩, e⟩ := h
  refine ⟨⟨⟨a, b⟩, by rw [List.length_take]; omega, ?_⟩, e⟩
  refine relsGo_take k (L.take k) 0 (by rw [List.length_take]; omega) (L.drop k) ?_
  rw [List.take_append_drop]; exact d
theorem cut_last (xs : List (List D)) (h : 0 < xs.length) (hl : xs.length ≤ 1048576) : cut xs 0 (IntKind.wrap .i64 ((xs.length : Int) - 1)) = xs.take (xs.length - 1) := by
  rw [wrap64 (by omega) (by omega), show ((xs.length : Int) - 1) = ((xs.length - 1 : Nat) : Int) from by omega, cut0]
theorem ok_last (xs : List (List D)) (h : 0 < xs.length) (hl : xs.length ≤ 1048576) : okBounds 0 (IntKind.wrap .i64 ((xs.length : Int) - 1)) (xs.length : Nat) = true := by
  rw [wrap64 (by omega) (by omega)]
  exact okB (by omega) (by omega) (by omega)
theorem lens_take {j n k : Nat} {G : List (List D)} (h : lensOk j n G = true) : lensOk j n (G.take k) = true := List.all_eq_true.2 fun e he => List.all_eq_true.1 h e (List.mem_of_mem_take he)
theorem rels_take {k : Nat} {L : List (List D)} (h : relsOk L = true) : relsOk (L.take k) = true := List.all_eq_true.2 fun e he => List.all_eq_true.1 h e (List.mem_of_mem_take he)
theorem lk1_ok : ExtAll Try.prog lk1 := .normP con_sam (.normP con_twn (.norm con_grt lc7_ok))
theorem e08 {b : Bool} (h : b = true) : ((if b = true then (0 : Int) else 8) == 0) = true := by rw [if_pos h]; rfl
theorem con_les (S Y L G S' Y' L' G' : List (List D)) (h : GObj S Y L G) (h' : GObj S' Y' L' G') :
    Contract Try.prog 7 [.agg [.arr secC S, .arr symC Y, .arr relC L, .arr grpC G], .agg [.arr secC S', .arr symC Y', .arr relC L', .arr grpC G']] [] (.val (.bool true), []) := by
  refine el_con lk1_ok Try.func7 (by kernel_rfl) (by kernel_rfl) rfl (by kernel_rfl) (by kernel_rfl) (Runs.of (fun q => lesp0 q S Y L G S' Y' L' G') ?_)
  unfold lest0
  refine ask (fun _ => is_refl rfl) (fun hg => ask (fun _ => is_refl rfl) (fun hg' => ?_))
  have hs := small_of hg
  have hs' := small_of hg'
  have s1 := hs.s; have s2 := hs.y; have s3 := hs.l; have s4 := hs.g
  have pt : (decide (S.length ≤ 1024) && decide (Y.length ≤ 1024) && decide (L.length ≤ 1024) && decide (G.length ≤ 1024) && lensOk 2 1048576 S && lensOk 1 1048576 G) = true := andT (andT (andT (andT (andT (decT (by omega)) (decT (by omega))) (decT (by omega))) (decT (by omega))) hs.sd) hs.gs
  have ps := same_pre hs
  have ps' := same_pre hs'
  have pc := chk_pre h hs
  have pc' := chk_pre h' hs'
  rw [tw_sec h.s, tw_grp h.g]
  have tw : sameO S Y L G S Y L G = true := (same_eq h.shp h.shp).2 ⟨rfl, rfl, rfl, rfl⟩
  have sy : (sameO S Y L G S' Y' L' G' == sameO S' Y' L' G' S Y L G) = true := by
    rw [beq_iff_eq, Bool.eq_iff_iff, same_eq h.shp h'.shp, same_eq h'.shp h.shp]
    constructor
    · rintro ⟨a, b, c, d⟩; exact ⟨a.symm, b.symm, c.symm, d.symm⟩
    · rintro ⟨a, b, c, d⟩; exact ⟨a.symm, b.symm, c.symm, d.symm⟩
  refine askT pt (askT ps (askF (by rw [tw]; rfl) (askT ps (askT ps' (askF (by rw [sy]; rfl) (askT ps ?_))))))
  have less : ∀ k, (decide (S.length ≤ 1048576) && decide (Y.length ≤ 1048576) && relsOk L && decide ((G.take k).length ≤ 1048576) && lensOk 1 1048576 (G.take k)) = true := fun k =>
    andT (andT (andT (andT (decT (by omega)) (decT (by omega))) (rels_ok h.l)) (decT (by rw [List.length_take]; omega))) (lens_take hs.gs)
  have lessL : ∀ k, (decide (S.length ≤ 1048576) && decide (Y.length ≤ 1048576) && relsOk (L.take k) && decide (G.length ≤ 1048576) && lensOk 1 1048576 G) = true := fun k =>
    andT (andT (andT (andT (decT (by omega)) (decT (by omega))) (rels_take (rels_ok h.l))) (decT (by omega))) hs.gs
  refine ask (fun hq => ?_) (fun hq => ?_)
  · refine askT pc (askT pc' ?_)
    obtain ⟨rfl, rfl, rfl, rfl⟩ := (same_eq h.shp h'.shp).1 hq
    refine askF (by simp) ?_
    refine askT pc (ask (fun hc => ?_) (fun hc => ?_))
    · have hk : ¬ chkB S Y L G = true := by
        intro hk; rw [if_pos hk] at hc; exact absurd hc (by decide)
      refine askT (show (_ && (!chkB S Y L G || _)) = true from by rw [Bool.eq_false_iff.2 hk]; exact andT pc rfl) (is_refl ?_)
      rw [wrE, if_neg hk]; rfl
    · have hk : chkB S Y L G = true := by
        rcases Bool.eq_false_or_eq_true (chkB S Y L G) with hk | hk
        · exact hk
        · rw [hk] at hc; exact absurd hc (by decide)
      have fin : ∀ b : Bool, b = true → V.val (.bool ((if b = true then (0 : Int) else 8) == 0)) = V.val (.bool true) := fun b hb => by rw [e08 hb]
      refine ask (fun hg0 => ?_) (fun hg0 => ?_)
      · have hg0 : 0 < G.length := by have := of_decide_eq_true hg0; omega
        refine askT (ok_last G hg0 (by omega)) ?_
        simp only [cut_last G hg0 (by omega)]
        refine ask (fun hl0 => ?_) (fun hl0 => ?_)
        · have hl0 : 0 < L.length := by have := of_decide_eq_true hl0; omega
          refine askT (ok_last L hl0 (by omega)) ?_
          simp only [cut_last L hl0 (by omega)]
          exact askT (less _) (askT (e08 (chk_less_g _ hk)) (askT (lessL _) (is_refl (fin _ (chk_less_l _ hk)))))
        · exact askT (less _) (askT (e08 (chk_less_g _ hk)) (askT pc (is_refl (fin _ hk))))
      · refine ask (fun hl0 => ?_) (fun hl0 => ?_)
        · have hl0 : 0 < L.length := by have := of_decide_eq_true hl0; omega
          refine askT (ok_last L hl0 (by omega)) ?_
          simp only [cut_last L hl0 (by omega)]
          exact askT pc (askT (e08 hk) (askT (lessL _) (is_refl (fin _ (chk_less_l _ hk)))))
        · exact askT pc (askT (e08 hk) (askT pc (is_refl (fin _ hk))))
  · refine askT pc (ask (fun hc => ?_) (fun hc => ?_))
    · have hk : ¬ chkB S Y L G = true := by
        intro hk; rw [if_pos hk] at hc; exact absurd hc (by decide)
      refine askT (show (_ && (!chkB S Y L G || _)) = true from by rw [Bool.eq_false_iff.2 hk]; exact andT pc rfl) (is_refl ?_)
      rw [wrE, if_neg hk]; rfl
    · have hk : chkB S Y L G = true := by
        rcases Bool.eq_false_or_eq_true (chkB S Y L G) with hk | hk
        · exact hk
        · rw [hk] at hc; exact absurd hc (by decide)
      have fin : ∀ b : Bool, b = true → V.val (.bool ((if b = true then (0 : Int) else 8) == 0)) = V.val (.bool true) := fun b hb => by rw [e08 hb]
      refine ask (fun hg0 => ?_) (fun hg0 => ?_)
      · have hg0 : 0 < G.length := by have := of_decide_eq_true hg0; omega
        refine askT (ok_last G hg0 (by omega)) ?_
        simp only [cut_last G hg0 (by omega)]
        refine ask (fun hl0 => ?_) (fun hl0 => ?_)
        · have hl0 : 0 < L.length := by have := of_decide_eq_true hl0; omega
          refine askT (ok_last L hl0 (by omega)) ?_
          simp only [cut_last L hl0 (by omega)]
          exact askT (less _) (askT (e08 (chk_less_g _ hk)) (askT (lessL _) (is_refl (fin _ (chk_less_l _ hk)))))
        · exact askT (less _) (askT (e08 (chk_less_g _ hk)) (askT pc (is_refl (fin _ hk))))
      · refine ask (fun hl0 => ?_) (fun hl0 => ?_)
        · have hl0 : 0 < L.length := by have := of_decide_eq_true hl0; omega
          refine askT (ok_last L hl0 (by omega)) ?_
          simp only [cut_last L hl0 (by omega)]
          exact askT pc (askT (e08 hk) (askT (lessL _) (is_refl (fin _ (chk_less_l _ hk)))))
        · exact askT pc (askT (e08 hk) (askT pc (is_refl (fin _ hk))))
end Go.Proofs.Ytkcopbnaleiocaa.Ev
