/- What may be can be written: wrOk of each object that may be. -/
import Derived.Test.YtkcopbnaleiocaaEpC
namespace Go.Proofs.Ytkcopbnaleiocaa.Ev
open Go
set_option linter.unusedVariables false
set_option linter.unusedSimpArgs false
theorem okCh_ne {b : UInt8} (h : okCh b = true) : b ≠ (0 : UInt8) := by
  intro e; subst e; simp [okCh] at h
theorem graph_ix {s : ByteArray} (h : graph s = true) : ixB s.data.toList 0 < 0 := by
  unfold graph at h
  unfold ixB
  generalize s.data.toList = l at h ⊢
  have e : Lib.indexByte l ((0 : Int).toNat.toUInt8) = -1 := by
    induction l with
    | nil => rfl
    | cons b l ih =>
      simp only [List.all_cons, Bool.and_eq_true] at h
      rw [ix_cons, if_neg (show ¬ b = (Int.toNat 0).toUInt8 from okCh_ne h.1), if_pos (ih h.2)]
  rw [e]; omega
theorem graph_app {a b : ByteArray} (ha : graph a = true) (hb : graph b = true) : graph (a ++ b) = true := by
  unfold graph at ha hb ⊢
  rw [ByteArray.data_append, Array.toList_append, List.all_append, ha, hb]; rfl
/-- Names that a table may have. -/
def nmG (n : Nat) (s : ByteArray) : Prop := s.size ≤ n ∧ graph s = true
def nmAll (xs : List (List D)) : Prop := ∀ e ∈ xs, nmG 40 (rS e 0)
theorem bldGo_ok : ∀ (ns : List ByteArray) (t m p : List (List D)), (∀ s ∈ ns, nmG 40 s) → t.length + 41 * ns.length ≤ 65536 → (bldGo ns t m p).p.length = p.length + ns.length ∧ (bldGo ns t m p).t.length ≤ t.length + 41 * ns.length ∧ (bldGo ns t m p).e = 0
  | [], t, m, p, _, h => by
    simp only [List.length_nil, Nat.mul_zero, Nat.add_zero] at h
    rw [bldGo, if_neg (by omega)]
    exact ⟨rfl, by simp, rfl⟩
  | s :: r, t, m, p, hs, h => by
    have h1 := hs s List.mem_cons_self
    have h2 := graph_ix h1.2
    have h3 := h1.1
    simp only [List.length_cons] at h
    rw [bldGo, if_neg (by omega)]
    split
    · have ih := bldGo_ok r t m (p ++ [[.int (lookD .str (.string s) (.int 0) m).toInt]]) (fun s h => hs s (List.mem_cons_of_mem _ h)) (by omega)
      refine ⟨by rw [ih.1, List.length_append]; simp only [List.length_cons, List.length_nil]; omega, by simp only [List.length_cons]; omega, ih.2.2⟩
    · have hl : (t ++ bytesRow s ++ [[D.int 0]]).length = t.length + s.size + 1 := by rw [List.length_append, List.length_append, bytesRow_length]; rfl
      have ih := bldGo_ok r (t ++ bytesRow s ++ [[.int 0]]) (setRow .str (.string s) [.str s, .int t.length] m) (p ++ [[.int t.length]]) (fun s h => hs s (List.mem_cons_of_mem _ h)) (by rw [hl]; omega)
      rw [hl] at ih
      refine ⟨by rw [ih.1, List.length_append]; simp only [List.length_cons, List.length_nil]; omega, by simp only [List.length_cons]; omega, ih.2.2⟩
theorem bldR_ok {xs : List (List D)} (h : nmAll xs) (hl : xs.length ≤ 1000) : (bldR xs).p.length = xs.length ∧ (bldR xs).t.length ≤ 65536 ∧ (bldR xs).e = 0 := by
  have e := bldGo_ok (namesOf xs) [[.int 0]] [[.str .empty, .int 0]] [] (fun s hs => by
    obtain ⟨e, he, rfl⟩ := List.mem_map.1 hs
    exact h e he) (by simp only [namesOf, List.length_map, List.length_cons, List.length_nil]; omega)
  simp only [namesOf, List.length_map, List.length_cons, List.length_nil] at e
  rw [bldR, if_neg (by omega)]
  exact ⟨by rw [namesOf, e.1]; omega, by rw [namesOf]; omega, e.2.2⟩
/-! ### What may be has such names -/
theorem kind_g {s : ByteArray} (h : kindV s ≠ 0) : nmG 32 s := by
  unfold kindV at h
  split at h
  · assumption
  · exact absurd rfl h
theorem named_g {s : ByteArray} (h : namedB s = true) : nmG 32 s := by
  simp only [namedB, Bool.and_eq_true, decide_eq_true_eq] at h
  exact ⟨h.1.2, h.2⟩
theorem sec_ok {s : ByteArray} {a dl z : Int} (h : secOk s a dl z = true) : nmG 32 s ∧ dl ≤ 4096 := by
  simp only [secOk, Bool.and_eq_true, decide_eq_true_eq] at h
  refine ⟨kind_g h.1.1, ?_⟩
  have := h.2
  split at this <;> simp only [Bool.and_eq_true, decide_eq_true_eq] at this <;> omega
theorem secAll_get {S : List (List D)} (h : secAll S = true) {e : List D} (he : e ∈ S) : nmG 32 (rS e 0) ∧ (rA e 2).length ≤ 4096 := by
  have := sec_ok (List.all_eq_true.1 h e he)
  exact ⟨this.1, by omega⟩
theorem symE_g {s : ByteArray} {b : Int} {hd : Bool} {w v z n : Int} (h : symE s b hd w v z n = 0) : nmG 32 s := by
  unfold symE at h
  split at h
  · cases h
  · split at h
    · rename_i h2; simp only [Bool.and_eq_true] at h2; exact named_g h2.1
    · cases h
theorem symsGo_get {S : List (List D)} : ∀ {Y : List (List D)} {gl : Bool} {m : List (List D)}, symsGo S Y gl m = true → ∀ e ∈ Y, symIn S e = true
  | [], _, _, _, e, he => by cases he
  | y :: t, gl, m, h, e, he => by
    unfold symsGo at h
    split at h
    · cases h
    · rename_i h1
      rcases List.mem_cons.1 he with rfl | he
      · simpa using h1
      · split at h
        · split at h
          · cases h
          · exact symsGo_get h e he
        · split at h
          · cases h
          · exact symsGo_get h e he
theorem grpIn_len {n : Int} : ∀ {g : List (List D)} {last : Int} {tk tk' : List (List D)}, grpIn n g last tk = some tk' → g = [] ∨ last + g.length ≤ n
  | [], _, _, _, _ => .inl rfl
  | e :: t, last, tk, tk', h => by
    unfold grpIn at h
    split at h
    · cases h
    · split at h
      · cases h
      · split at h
        · cases h
        · rename_i h1 h2 h3
          right
          rcases grpIn_len h with rfl | h4
          · simp only [List.length_cons, List.length_nil]; omega
          · simp only [List.length_cons]; omega
theorem grpsGo_get {n : Int} (hn : n ≤ 16) : ∀ {G m tk : List (List D)}, grpsGo n G m tk = true → ∀ e ∈ G, nmG 32 (rS e 0) ∧ (rA e 1).length ≤ 16
  | [], _, _, _, e, he => by cases he
  | g :: t, m, tk, h, e, he => by
    unfold grpsGo at h
    split at h
    · cases h
    · rename_i h1
      split at h
      · cases h
      · split at h
        · cases h
        · split at h
          · cases h
          · rename_i tk' ht
            rcases List.mem_cons.1 he with rfl | he
            · refine ⟨symE_g (by simpa using h1), ?_⟩
              rcases grpIn_len ht with h4 | h4
              · rw [h4]; simp
              · omega
            · exact grpsGo_get hn h e he
theorem relsGo_get {S L : List (List D)} {n : Int} : ∀ {t : List (List D)} {i : Nat}, relsGo S n L t i = true → ∀ e ∈ t, relCk (rI e 0) (rI e 1) (rI e 2) (rI e 3) (rI e 4) S n = 0
  | [], _, _, e, he => by cases he
  | x :: t, i, h, e, he => by
    simp only [relsGo, Bool.and_eq_true, beq_iff_eq] at h
    rcases List.mem_cons.1 he with rfl | he
    · exact h.1.1.1
    · exact relsGo_get h.2 e he
/-! ### The names of a file's parts -/
theorem nmG.mono {n m : Nat} {s : ByteArray} (h : nmG n s) (hl : n ≤ m) : nmG m s := ⟨Nat.le_trans h.1 hl, h.2⟩
theorem nmAll_snoc {xs : List (List D)} {s : ByteArray} (h : nmAll xs) (hs : nmG 40 s) : nmAll (xs ++ [[.str s]]) := by
  intro e he
  rcases List.mem_append.1 he with he | he
  · exact h e he
  · obtain rfl := List.mem_singleton.1 he
    exact hs
theorem app_g {p s : ByteArray} (hp : nmG 8 p) (hs : nmG 32 s) : nmG 40 (p ++ s) :=
  ⟨by rw [ByteArray.size_append]; have := hp.1; have := hs.1; omega, graph_app hp.2 hs.2⟩
theorem grp_g : nmG 8 sGrp := ⟨by decide +kernel, by kernel_rfl⟩
theorem rel_g : nmG 8 sRel := ⟨by decide +kernel, by kernel_rfl⟩
theorem sym_g : nmG 40 sSym := ⟨by decide +kernel, by kernel_rfl⟩
theorem str_g : nmG 40 sStr := ⟨by decide +kernel, by kernel_rfl⟩
theorem shs_g : nmG 40 sShs := ⟨by decide +kernel, by kernel_rfl⟩
theorem secsF_nm {m : List (List D)} : ∀ {S : List (List D)} {i : Nat} {f : Fl}, (∀ e ∈ S, nmG 32 (rS e 0)) → nmAll f.names → nmAll (secsF m S i f).names ∧ (secsF m S i f).names.length = f.names.length + S.length
  | [], i, f, _, h => ⟨h, rfl⟩
  | e :: t, i, f, hS, h => by
    have ih := secsF_nm (m := m) (S := t) (i := i + 1) (f := partF f (rS e 0) (secHd m i e) (rA e 2)) (fun e h => hS e (List.mem_cons_of_mem _ h)) (nmAll_snoc h ((hS e List.mem_cons_self).mono (by omega)))
    rw [(partF_len f (rS e 0) (secHd m i e) (rA e 2)).2.2] at ih
    exact ⟨ih.1, by rw [secsF, ih.2, List.length_cons]; omega⟩
theorem grpsF_nm {N : Int} : ∀ {G : List (List D)} {f : Fl}, (∀ e ∈ G, nmG 32 (rS e 0)) → nmAll f.names → nmAll (grpsF N G f).names ∧ (grpsF N G f).names.length = f.names.length + G.length
  | [], f, _, h => ⟨h, rfl⟩
  | e :: t, f, hS, h => by
    have ih := grpsF_nm (N := N) (G := t) (f := partF f (sGrp ++ rS e 0) ⟨0, 17, 0, 0, 0, 0, N, 0, 4, 4⟩ (numsB 4 [[.int 1]] ++ numsB 4 (rA e 1))) (fun e h => hS e (List.mem_cons_of_mem _ h)) (nmAll_snoc h (app_g grp_g (hS e List.mem_cons_self)))
    rw [(partF_len f (sGrp ++ rS e 0) ⟨0, 17, 0, 0, 0, 0, N, 0, 4, 4⟩ (numsB 4 [[.int 1]] ++ numsB 4 (rA e 1))).2.2] at ih
    exact ⟨ih.1, Eq.trans (show (grpsF N (e :: t) f).names.length = _ from ih.2) (by rw [List.length_cons]; omega)⟩
theorem relsF_nm {N : Int} {S : List (List D)} (hS : ∀ e ∈ S, nmG 32 (rS e 0)) : ∀ {W : List (List D)} {i : Nat} {f : Fl}, i + W.length ≤ S.length → nmAll f.names → nmAll (relsF N S W i f).names ∧ (relsF N S W i f).names.length ≤ f.names.length + W.length
  | [], i, f, _, h => ⟨h, Nat.le_refl _⟩
  | e :: t, i, f, hi, h => by
    rw [List.length_cons] at hi
    have hm : S.getD i [] ∈ S := by
      rw [List.getD_eq_getElem?_getD, List.getElem?_eq_getElem (by omega)]; exact List.getElem_mem _
    rw [relsF]
    split
    · have ih := relsF_nm (N := N) hS (W := t) (i := i + 1) (f := partF f (sRel ++ rS (S.getD i []) 0) ⟨0, 4, 64, 0, 0, 0, N, ((i + 1 : Nat) : Int), 8, 24⟩ (rA e 0)) (by omega) (nmAll_snoc h (app_g rel_g (hS _ hm)))
      rw [(partF_len f (sRel ++ rS (S.getD i []) 0) ⟨0, 4, 64, 0, 0, 0, N, ((i + 1 : Nat) : Int), 8, 24⟩ (rA e 0)).2.2] at ih
      exact ⟨ih.1, by rw [List.length_cons]; omega⟩
    · have ih := relsF_nm (N := N) hS (W := t) (i := i + 1) (f := f) (by omega) h
      exact ⟨ih.1, by rw [List.length_cons]; omega⟩
theorem byS_len (n : Nat) (L : List (List D)) : (byS n L).length = n := by simp [byS]
theorem wrF2_nm {S Y L G : List (List D)} (hS : ∀ e ∈ S, nmG 32 (rS e 0)) (hG : ∀ e ∈ G, nmG 32 (rS e 0)) : nmAll (wrF2 S Y L G).names ∧ (wrF2 S Y L G).names.length ≤ S.length + G.length + S.length + 2 := by
  have h1 := secsF_nm (m := grpMap G []) (S := S) (i := 0) (f := ⟨zeros 64, [], []⟩) hS (fun e he => by cases he)
  have h2 := grpsF_nm (N := symFirst S L G) (G := G) (f := secsF (grpMap G []) S 0 ⟨zeros 64, [], []⟩) hG h1.1
  have h3 := relsF_nm (N := symFirst S L G) hS (W := byS S.length L) (i := 0) (f := grpsF (symFirst S L G) G (secsF (grpMap G []) S 0 ⟨zeros 64, [], []⟩)) (by rw [byS_len]; omega) h2.1
  rw [byS_len, h2.2, h1.2] at h3
  refine ⟨nmAll_snoc (nmAll_snoc h3.1 sym_g) str_g, ?_⟩
  show ((_ ++ [_]) ++ [_] : List (List D)).length ≤ _
  have h4 := h3.2
  simp only [List.length_append, List.length_cons, List.length_nil] at h4 ⊢
  omega
theorem namesY_nm {Y : List (List D)} (h : ∀ e ∈ Y, nmG 32 (rS e 0)) : nmAll (namesY Y) := by
  intro e he
  obtain ⟨y, hy, rfl⟩ := List.mem_map.1 he
  exact (h y hy).mono (by omega)
theorem wrOk_of {S Y L G : List (List D)} (h : chkB S Y L G = true) (hp : posOk 1 Y = true) : wrOk S Y L G = true := by
  simp only [chkB, Bool.and_eq_true, decide_eq_true_eq] at h
  obtain ⟨⟨⟨⟨h1, h2⟩, h3⟩, h4⟩, h5⟩ := h
  simp only [symsB, Bool.and_eq_true, decide_eq_true_eq] at h3
  simp only [relsB, Bool.and_eq_true, decide_eq_true_eq] at h4
  simp only [grpsB, Bool.and_eq_true, decide_eq_true_eq] at h5
  have hS : ∀ e ∈ S, nmG 32 (rS e 0) := fun e he => (secAll_get h2 he).1
  have hG := grpsGo_get (by omega) h5.1
  have hY : ∀ e ∈ Y, nmG 32 (rS e 0) := fun e he => by
    have := symsGo_get h3.1 e he
    simp only [symIn, Bool.and_eq_true, beq_iff_eq] at this
    exact symE_g this.1
  have hb := bldR_ok (namesY_nm hY) (by simp only [namesY, List.length_map]; omega)
  have hn := wrF2_nm (Y := Y) (L := L) hS (fun e he => (hG e he).1)
  have ht := bldR_ok (xs := (wrF2 S Y L G).names ++ [[.str sShs]]) (nmAll_snoc hn.1 shs_g) (by rw [List.length_append]; simp only [List.length_cons, List.length_nil]; omega)
  simp only [wrOk, bysOk, Bool.and_eq_true, decide_eq_true_eq]
  refine ⟨⟨⟨?_, ⟨⟨⟨⟨⟨⟨⟨⟨⟨⟨h1, h4.1⟩, ?_⟩, h5.2⟩, ?_⟩, ?_⟩, ?_⟩, h3.2⟩, hp⟩, ?_⟩, hb.2.1⟩⟩, ?_⟩, ht.2.1⟩
  · exact List.all_eq_true.2 fun e he => decT (secAll_get h2 he).2
  · exact List.all_eq_true.2 fun e he => by
      have h0 := relsGo_get h4.2 e he
      have := relCk_in h0
      exact andT (andT (decT this.1) (decT this.2.1)) (relCk_wok h0)
  · exact List.all_eq_true.2 fun e he => decT (hG e he).2
  · exact List.all_eq_true.2 fun e he => decT (Nat.le_trans (hG e he).1.1 (by omega))
  · exact List.all_eq_true.2 fun e he => decT (Nat.le_trans (hS e he).1 (by omega))
  · rw [hb.1, namesY, List.length_map]
  · rw [wrTb, ht.1, List.length_append]; rfl
end Go.Proofs.Ytkcopbnaleiocaa.Ev
