/- ElfwNames: that it answers true. -/
import Derived.Test.YtkcopbnaleiocaaEqP
namespace Go.Proofs.Ytkcopbnaleiocaa.Ev
open Go
set_option linter.unusedVariables false
set_option linter.unusedSimpArgs false
theorem con_alv : ∀ vs v, gAlv vs = some v → Contract Try.prog 25 vs [] (v, []) := by
  intro vs v h
  unfold gAlv at h
  split at h <;> cases h
  exact el_con lc6_ok Try.func25 (by kernel_rfl) (by kernel_rfl) rfl (by kernel_rfl) (by kernel_rfl) (Runs.of (fun q => alvp0 q) (is_refl rfl))
theorem con_txt : ∀ vs v, gTxt vs = some v → Contract Try.prog 23 vs [] (v, []) := by
  intro vs v h
  unfold gTxt at h
  split at h <;> cases h
  rename_i l
  exact el_con lb4_ok Try.func23 (by kernel_rfl) (by kernel_rfl) rfl (by kernel_rfl) (by kernel_rfl) (Runs.of (fun q => txtp0 q l) (is_refl rfl))
theorem lc7_ok : ExtAll Try.prog lc7 := .norm con_alv (.norm con_txt lc6_ok)
/-! ### How long a file is at least -/
theorem padB_ge (xs : List (List D)) (m : Int) (h : padOk m = true) : xs.length ≤ (padB xs m).length := by
  rw [padB, if_pos h, List.length_append]; omega
theorem partF_ge (f : Fl) (nm : ByteArray) (h : Hd) (x : List (List D)) (ha : padOk h.align = true) : f.b.length + x.length ≤ (partF f nm h x).b.length := by
  have := padB_ge f.b h.align ha
  show _ ≤ (padB f.b h.align ++ x).length
  rw [List.length_append]; omega
theorem grpsF_ge (N : Int) : ∀ (G : List (List D)) (f : Fl), f.b.length ≤ (grpsF N G f).b.length
  | [], f => Nat.le_refl _
  | e :: t, f => by
    have h1 := partF_ge f (sGrp ++ rS e 0) ⟨0, 17, 0, 0, 0, 0, N, 0, 4, 4⟩ (numsB 4 [[.int 1]] ++ numsB 4 (rA e 1)) rfl
    have h2 := grpsF_ge N t (partF f (sGrp ++ rS e 0) ⟨0, 17, 0, 0, 0, 0, N, 0, 4, 4⟩ (numsB 4 [[.int 1]] ++ numsB 4 (rA e 1)))
    exact Nat.le_trans (by omega) h2
theorem relsF_ge (N : Int) (S : List (List D)) : ∀ (W : List (List D)) (i : Nat) (f : Fl), f.b.length ≤ (relsF N S W i f).b.length
  | [], i, f => Nat.le_refl _
  | e :: t, i, f => by
    have h2 := relsF_ge N S t (i + 1) (if 0 < (rA e 0).length then partF f (sRel ++ rS (S.getD i []) 0) ⟨0, 4, 64, 0, 0, 0, N, ((i + 1 : Nat) : Int), 8, 24⟩ (rA e 0) else f)
    refine Nat.le_trans ?_ h2
    split
    · have h1 := partF_ge f (sRel ++ rS (S.getD i []) 0) ⟨0, 4, 64, 0, 0, 0, N, ((i + 1 : Nat) : Int), 8, 24⟩ (rA e 0) rfl
      omega
    · exact Nat.le_refl _
theorem restF_ge (S Y L G : List (List D)) (f : Fl) : f.b.length ≤ (restF S Y L G f).b.length := by
  have h1 := grpsF_ge (symFirst S L G) G f
  have h2 := relsF_ge (symFirst S L G) S (byS S.length L) 0 (grpsF (symFirst S L G) G f)
  have h3 := partF_ge (relsF (symFirst S L G) S (byS S.length L) 0 (grpsF (symFirst S L G) G f)) sSym ⟨0, 2, 0, 0, 0, 0, ((symFirst S L G + 1 : Nat) : Int), ((locals Y + 1 : Nat) : Int), 8, 24⟩ (zeros 24 ++ symsF (bldR (namesY Y)).p Y 0) rfl
  have h4 := partF_ge (partF (relsF (symFirst S L G) S (byS S.length L) 0 (grpsF (symFirst S L G) G f)) sSym ⟨0, 2, 0, 0, 0, 0, ((symFirst S L G + 1 : Nat) : Int), ((locals Y + 1 : Nat) : Int), 8, 24⟩ (zeros 24 ++ symsF (bldR (namesY Y)).p Y 0)) sStr ⟨0, 3, 0, 0, 0, 0, 0, 0, 1, 0⟩ (bldR (namesY Y)).t rfl
  have e0 : restF S Y L G f = partF (partF (relsF (symFirst S L G) S (byS S.length L) 0 (grpsF (symFirst S L G) G f)) sSym ⟨0, 2, 0, 0, 0, 0, ((symFirst S L G + 1 : Nat) : Int), ((locals Y + 1 : Nat) : Int), 8, 24⟩ (zeros 24 ++ symsF (bldR (namesY Y)).p Y 0)) sStr ⟨0, 3, 0, 0, 0, 0, 0, 0, 1, 0⟩ (bldR (namesY Y)).t := rfl
  rw [e0]; omega
theorem wrAll_ge (S Y L G : List (List D)) : (secsF (grpMap G []) S 0 ⟨zeros 64, [], []⟩).b.length + 64 ≤ (wrAll S Y L G).length := by
  have h1 := restF_ge S Y L G (secsF (grpMap G []) S 0 ⟨zeros 64, [], []⟩)
  have h2 := partF_ge (wrF2 S Y L G) sShs ⟨0, 3, 0, 0, 0, 0, 0, 0, 1, 0⟩ (wrTb S Y L G).t rfl
  have e2 : restF S Y L G (secsF (grpMap G []) S 0 ⟨zeros 64, [], []⟩) = wrF2 S Y L G := rfl
  have e3 : partF (wrF2 S Y L G) sShs ⟨0, 3, 0, 0, 0, 0, 0, 0, 1, 0⟩ (wrTb S Y L G).t = wrF3 S Y L G := rfl
  rw [e2] at h1
  rw [e3] at h2
  have h3 := padB_ge (wrF3 S Y L G).b 8 rfl
  rw [wrAll, List.length_append, List.length_append, show (zeros 64).length = 64 from by simp [zeros]]
  omega
/-! ### Sixteen full sections -/
def rowN (n : Nat) : List D := [.str sDat, .int 1, .arr (List.replicate n [.int 0]), .int 0]
theorem rowN_len (n : Nat) : (rA (rowN n) 2).length = n := List.length_replicate
def rowF : List D := rowN 4096
def fullS (n : Nat) : List (List D) := List.replicate n rowF
theorem all_rep {α : Type} (p : α → Bool) (x : α) (h : p x = true) : ∀ n, (List.replicate n x).all p = true
  | 0 => rfl
  | n + 1 => by rw [List.replicate_succ, List.all_cons, h, all_rep p x h n]; rfl
theorem rowF_len : (rA rowF 2).length = 4096 := rowN_len 4096
theorem secsF_rep (m : List (List D)) (k : Nat) : ∀ (n i : Nat) (f : Fl), f.b.length + k * n ≤ (secsF m (List.replicate n (rowN k)) i f).b.length
  | 0, i, f => Nat.le_refl _
  | n + 1, i, f => by
    have h1 := partF_ge f (rS (rowN k) 0) (secHd m i (rowN k)) (rA (rowN k) 2) rfl
    rw [rowN_len] at h1
    have h2 := secsF_rep m k n (i + 1) (partF f (rS (rowN k) 0) (secHd m i (rowN k)) (rA (rowN k) 2))
    have e0 : secsF m (List.replicate (n + 1) (rowN k)) i f = secsF m (List.replicate n (rowN k)) (i + 1) (partF f (rS (rowN k) 0) (secHd m i (rowN k)) (rA (rowN k) 2)) := rfl
    rw [e0, Nat.mul_succ]; omega
theorem secsF_full (m : List (List D)) (n i : Nat) (f : Fl) : f.b.length + 4096 * n ≤ (secsF m (fullS n) i f).b.length := secsF_rep m 4096 n i f
theorem secOk_full (n : Nat) (h : n = 4096) : secOk sDat 1 (n : Nat) 0 = true := by
  subst h; kernel_rfl
theorem secAll_rep (n k : Nat) (h : n = 4096) : secAll (List.replicate k (rowN n)) = true := by
  refine all_rep _ (rowN n) ?_ k
  show secOk (rS (rowN n) 0) (rI (rowN n) 1) (rA (rowN n) 2).length (rI (rowN n) 3) = true
  rw [rowN_len]
  exact secOk_full n h
theorem full_sec : secAll (fullS 16) = true := secAll_rep 4096 16 rfl
theorem full_chk : chkB (fullS 16) [] [] [] = true := by
  have h1 : symsB (fullS 16) [] = true := rfl
  have h2 : relsB (fullS 16) [] [] = true := rfl
  have h3 : grpsB (fullS 16) [] = true := rfl
  rw [chkB, full_sec, h1, h2, h3]
  rfl
theorem full_lens : lensOk 2 4096 (fullS 16) = true := by
  refine all_rep _ rowF ?_ 16
  exact decT (Nat.le_of_eq rowF_len)
theorem pWrt_eq (a b c d : List CT) (S Y L G : List (List D)) : pWrt [.agg [.arr a S, .arr b Y, .arr c L, .arr d G]] = (pChkO [.agg [.arr [] S, .arr [] Y, .arr [] L, .arr [] G]] && (!chkB S Y L G || wrOk S Y L G)) := rfl
theorem full_wrt : pWrt [.agg [.arr secC (fullS 16), .arr symC [], .arr relC [], .arr grpC []]] = true := by
  have a : pChkO [.agg [.arr [] (fullS 16), .arr [] [], .arr [] [], .arr [] []]] = true := rfl
  have b : wrOk (fullS 16) [] [] [] = true := by
    have e1 : decide ((wrTb (fullS 16) [] [] []).p.length = (wrF2 (fullS 16) [] [] []).names.length + 1) = true := by kernel_rfl
    have e2 : decide ((wrTb (fullS 16) [] [] []).t.length ≤ 65536) = true := by kernel_rfl
    have e3 : (bysOk (fullS 16) [] && decide (([] : List (List D)).length ≤ 16) && lensOk 1 16 [] && strsOk 0 4096 [] && strsOk 0 4096 (fullS 16) && decide (([] : List (List D)).length ≤ 64) && posOk 1 [] && decide ((bldR (namesY [])).p.length = ([] : List (List D)).length) && decide ((bldR (namesY [])).t.length ≤ 65536)) = true := by kernel_rfl
    rw [wrOk, full_lens, e1, e2, e3]; rfl
  rw [pWrt_eq, a, b, Bool.or_true]; rfl
theorem full_wrE : wrE (fullS 16) [] [] [] = 9 := by
  have h1 := secsF_full (grpMap [] []) 16 0 ⟨zeros 64, [], []⟩
  have h2 := wrAll_ge (fullS 16) [] [] []
  have h3 : (zeros 64).length = 64 := by simp [zeros]
  rw [wrE, if_pos full_chk, if_pos]
  show _ > 65536
  have h1' : 64 + 4096 * 16 ≤ (secsF (grpMap [] []) (fullS 16) 0 ⟨zeros 64, [], []⟩).b.length := by
    have : (⟨zeros 64, [], []⟩ : Fl).b.length = 64 := h3
    omega
  omega
theorem fullS_succ (n : Nat) : fullS n ++ [rowF] = fullS (n + 1) := by
  rw [fullS, fullS, List.replicate_succ']
theorem runs_enm (b30 b31 b32 b40 b41 b42 : List (List D)) (c1 : pChkO [.agg [.arr secC b30, .arr symC b31, .arr relC b32, .arr grpC []]] = true) (c2 : pChkO [.agg [.arr secC b40, .arr symC b41, .arr relC b42, .arr grpC []]] = true) (c3 : (if chkB b30 b31 b32 [] = true then (0 : Int) else 8) = 8) (c4 : (if chkB b40 b41 b42 [] = true then (0 : Int) else 8) = 8) :
    ∀ (d i : Nat), d + i = 16 → 0 < i → Runs eq7 (4, Try.f4, 0) enmk2 (enms2 8 0 (i : Nat) b30 b31 b32 b40 b41 b42 (fullS i)) (Is (.val (.bool true))) := by
  intro d
  induction d with
  | zero =>
    intro i hi h0
    have hi : i = 16 := by omega
    subst hi
    refine Runs.of (fun q => enmp2 q _ _ _ _ _ _ _ _ _ _) ?_
    unfold enmt2
    refine askF rfl (askT full_wrt (askT rfl (askT rfl (askT c1 (askT (by rw [c3]; rfl) (askT c2 (askT (by rw [c4]; rfl) (is_refl ?_))))))))
    rw [full_wrE]; rfl
  | succ d ih =>
    intro i hi h0
    refine Runs.of (fun q => enmp2 q _ _ _ _ _ _ _ _ _ _) ?_
    unfold enmt2
    have hw : IntKind.wrap .i64 ((i : Int) + 1) = ((i + 1 : Nat) : Int) := by rw [wrap64 (by omega) (by omega)]; omega
    have hl : (fullS i).length = i := List.length_replicate
    rw [hw]
    refine askT (decT (by omega)) (askT (andT (decT (by omega)) (decT (by omega))) ?_)
    have := ih (i + 1) (by omega) (by omega)
    rw [← fullS_succ] at this
    exact this
theorem enm_holds : Contract Try.prog 4 [] [] (.val (.bool true), []) := by
  refine el_con lc7_ok Try.func4 (by kernel_rfl) (by kernel_rfl) rfl (by kernel_rfl) (by kernel_rfl) (Runs.of (fun q => enmp0 q) ?_)
  unfold enmt0
  refine Runs.of (fun q => enmp1 q _ _ _ _ _ _ _ _ _) ?_
  unfold enmt1
  refine askT rfl ?_
  exact runs_enm _ _ _ _ _ _ (by kernel_rfl) (by kernel_rfl) (by kernel_rfl) (by kernel_rfl) 15 1 rfl (by omega)
end Go.Proofs.Ytkcopbnaleiocaa.Ev
