/- A part of the proof: what the statement needs, and nothing else. -/
import Derived.Test.YtkcopbnaleiocaaZb22
namespace Go.Proofs.Ytkcopbnaleiocaa.Ev
open Go
set_option linter.unusedVariables false
set_option linter.unusedSimpArgs false
theorem okCh_ne {b : UInt8} (h : okCh b = true) : b ≠ (0 : UInt8) := by
  intro e; subst e; simp [okCh] at h
theorem graph_ix {s : ByteArray} (h : graph s = true) : ixB s.data.toList 0 < 0 := by
  unfold graph at h
  unfold ixB
  generalize s.data.toList = l at h ⊢
  have e : Lib.indexByte l ((0 : Int).toNat.toUInt8) = -1 := by
    induction l with
    | nil => rfl
    | cons b l ih =>
      simp only [List.all_cons, Bool.and_eq_true] at h
      rw [ix_cons, if_neg (show ¬ b = (Int.toNat 0).toUInt8 from okCh_ne h.1), if_pos (ih h.2)]
  rw [e]; omega
theorem graph_app {a b : ByteArray} (ha : graph a = true) (hb : graph b = true) : graph (a ++ b) = true := by
  unfold graph at ha hb ⊢
  rw [ByteArray.data_append, Array.toList_append, List.all_append, ha, hb]; rfl
def nmG (n : Nat) (s : ByteArray) : Prop := s.size ≤ n ∧ graph s = true
def nmAll (xs : List (List D)) : Prop := ∀ e ∈ xs, nmG 40 (rS e 0)
theorem bldGo_ok : ∀ (ns : List ByteArray) (t m p : List (List D)), (∀ s ∈ ns, nmG 40 s) → t.length + 41 * ns.length ≤ 65536 → (bldGo ns t m p).p.length = p.length + ns.length ∧ (bldGo ns t m p).t.length ≤ t.length + 41 * ns.length ∧ (bldGo ns t m p).e = 0
  | [], t, m, p, _, h => by
    simp only [List.length_nil, Nat.mul_zero, Nat.add_zero] at h
    rw [bldGo, if_neg (by omega)]
    exact ⟨rfl, by simp, rfl⟩
  | s :: r, t, m, p, hs, h => by
    have h1 := hs s List.mem_cons_self
    have h2 := graph_ix h1.2
    have h3 := h1.1
    simp only [List.length_cons] at h
    rw [bldGo, if_neg (by omega)]
    split
    · have ih := bldGo_ok r t m (p ++ [[.int (lookD .str (.string s) (.int 0) m).toInt]]) (fun s h => hs s (List.mem_cons_of_mem _ h)) (by omega)
      refine ⟨by rw [ih.1, List.length_append]; simp only [List.length_cons, List.length_nil]; omega, by simp only [List.length_cons]; omega, ih.2.2⟩
    · have hl : (t ++ bytesRow s ++ [[D.int 0]]).length = t.length + s.size + 1 := by rw [List.length_append, List.length_append, bytesRow_length]; rfl
      have ih := bldGo_ok r (t ++ bytesRow s ++ [[.int 0]]) (setRow .str (.string s) [.str s, .int t.length] m) (p ++ [[.int t.length]]) (fun s h => hs s (List.mem_cons_of_mem _ h)) (by rw [hl]; omega)
      rw [hl] at ih
      refine ⟨by rw [ih.1, List.length_append]; simp only [List.length_cons, List.length_nil]; omega, by simp only [List.length_cons]; omega, ih.2.2⟩
theorem bldR_ok {xs : List (List D)} (h : nmAll xs) (hl : xs.length ≤ 1000) : (bldR xs).p.length = xs.length ∧ (bldR xs).t.length ≤ 65536 ∧ (bldR xs).e = 0 := by
  have e := bldGo_ok (namesOf xs) [[.int 0]] [[.str .empty, .int 0]] [] (fun s hs => by
    obtain ⟨e, he, rfl⟩ := List.mem_map.1 hs
    exact h e he) (by simp only [namesOf, List.length_map, List.length_cons, List.length_nil]; omega)
  simp only [namesOf, List.length_map, List.length_cons, List.length_nil] at e
  rw [bldR, if_neg (by omega)]
  exact ⟨by rw [namesOf, e.1]; omega, by rw [namesOf]; omega, e.2.2⟩
theorem kind_g {s : ByteArray} (h : kindV s ≠ 0) : nmG 32 s := by
  unfold kindV at h
  split at h
  · assumption
  · exact absurd rfl h
theorem named_g {s : ByteArray} (h : namedB s = true) : nmG 32 s := by
  simp only [namedB, Bool.and_eq_true, decide_eq_true_eq] at h
  exact ⟨h.1.2, h.2⟩
theorem sec_ok {s : ByteArray} {a dl z : Int} (h : secOk s a dl z = true) : nmG 32 s ∧ dl ≤ 4096 := by
  simp only [secOk, Bool.and_eq_true, decide_eq_true_eq] at h
  refine ⟨kind_g h.1.1, ?_⟩
  have := h.2
  split at this <;> simp only [Bool.and_eq_true, decide_eq_true_eq] at this <;> omega
theorem secAll_get {S : List (List D)} (h : secAll S = true) {e : List D} (he : e ∈ S) : nmG 32 (rS e 0) ∧ (rA e 2).length ≤ 4096 := by
  have := sec_ok (List.all_eq_true.1 h e he)
  exact ⟨this.1, by omega⟩
theorem symE_g {s : ByteArray} {b : Int} {hd : Bool} {w v z n : Int} (h : symE s b hd w v z n = 0) : nmG 32 s := by
  unfold symE at h
  split at h
  · cases h
  · split at h
    · rename_i h2; simp only [Bool.and_eq_true] at h2; exact named_g h2.1
    · cases h
theorem symsGo_get {S : List (List D)} : ∀ {Y : List (List D)} {gl : Bool} {m : List (List D)}, symsGo S Y gl m = true → ∀ e ∈ Y, symIn S e = true
  | [], _, _, _, e, he => by cases he
  | y :: t, gl, m, h, e, he => by
    unfold symsGo at h
    split at h
    · cases h
    · rename_i h1
      rcases List.mem_cons.1 he with rfl | he
      · simpa using h1
      · split at h
        · split at h
          · cases h
          · exact symsGo_get h e he
        · split at h
          · cases h
          · exact symsGo_get h e he
theorem grpIn_len {n : Int} : ∀ {g : List (List D)} {last : Int} {tk tk' : List (List D)}, grpIn n g last tk = some tk' → g = [] ∨ last + g.length ≤ n
  | [], _, _, _, _ => .inl rfl
  | e :: t, last, tk, tk', h => by
    unfold grpIn at h
    split at h
    · cases h
    · split at h
      · cases h
      · split at h
        · cases h
        · rename_i h1 h2 h3
          right
          rcases grpIn_len h with rfl | h4
          · simp only [List.length_cons, List.length_nil]; omega
          · simp only [List.length_cons]; omega
theorem grpsGo_get {n : Int} (hn : n ≤ 16) : ∀ {G m tk : List (List D)}, grpsGo n G m tk = true → ∀ e ∈ G, nmG 32 (rS e 0) ∧ (rA e 1).length ≤ 16
  | [], _, _, _, e, he => by cases he
  | g :: t, m, tk, h, e, he => by
    unfold grpsGo at h
    split at h
    · cases h
    · rename_i h1
      split at h
      · cases h
      · split at h
        · cases h
        · split at h
          · cases h
          · rename_i tk' ht
            rcases List.mem_cons.1 he with rfl | he
            · refine ⟨symE_g (by simpa using h1), ?_⟩
              rcases grpIn_len ht with h4 | h4
              · rw [h4]; simp
              · omega
            · exact grpsGo_get hn h e he
theorem relsGo_get {S L : List (List D)} {n : Int} : ∀ {t : List (List D)} {i : Nat}, relsGo S n L t i = true → ∀ e ∈ t, relCk (rI e 0) (rI e 1) (rI e 2) (rI e 3) (rI e 4) S n = 0
  | [], _, _, e, he => by cases he
  | x :: t, i, h, e, he => by
    simp only [relsGo, Bool.and_eq_true, beq_iff_eq] at h
    rcases List.mem_cons.1 he with rfl | he
    · exact h.1.1.1
    · exact relsGo_get h.2 e he
theorem nmG.mono {n m : Nat} {s : ByteArray} (h : nmG n s) (hl : n ≤ m) : nmG m s := ⟨Nat.le_trans h.1 hl, h.2⟩
theorem nmAll_snoc {xs : List (List D)} {s : ByteArray} (h : nmAll xs) (hs : nmG 40 s) : nmAll (xs ++ [[.str s]]) := by
  intro e he
  rcases List.mem_append.1 he with he | he
  · exact h e he
  · obtain rfl := List.mem_singleton.1 he
    exact hs
theorem app_g {p s : ByteArray} (hp : nmG 8 p) (hs : nmG 32 s) : nmG 40 (p ++ s) :=
  ⟨by rw [ByteArray.size_append]; have := hp.1; have := hs.1; omega, graph_app hp.2 hs.2⟩
theorem grp_g : nmG 8 sGrp := ⟨by decide +kernel, by kernel_rfl⟩
theorem rel_g : nmG 8 sRel := ⟨by decide +kernel, by kernel_rfl⟩
theorem sym_g : nmG 40 sSym := ⟨by decide +kernel, by kernel_rfl⟩
theorem str_g : nmG 40 sStr := ⟨by decide +kernel, by kernel_rfl⟩
theorem shs_g : nmG 40 sShs := ⟨by decide +kernel, by kernel_rfl⟩
theorem secsF_nm {m : List (List D)} : ∀ {S : List (List D)} {i : Nat} {f : Fl}, (∀ e ∈ S, nmG 32 (rS e 0)) → nmAll f.names → nmAll (secsF m S i f).names ∧ (secsF m S i f).names.length = f.names.length + S.length
  | [], i, f, _, h => ⟨h, rfl⟩
  | e :: t, i, f, hS, h => by
    have ih := secsF_nm (m := m) (S := t) (i := i + 1) (f := partF f (rS e 0) (secHd m i e) (rA e 2)) (fun e h => hS e (List.mem_cons_of_mem _ h)) (nmAll_snoc h ((hS e List.mem_cons_self).mono (by omega)))
    rw [(partF_len f (rS e 0) (secHd m i e) (rA e 2)).2.2] at ih
    exact ⟨ih.1, by rw [secsF, ih.2, List.length_cons]; omega⟩
theorem grpsF_nm {N : Int} : ∀ {G : List (List D)} {f : Fl}, (∀ e ∈ G, nmG 32 (rS e 0)) → nmAll f.names → nmAll (grpsF N G f).names ∧ (grpsF N G f).names.length = f.names.length + G.length
  | [], f, _, h => ⟨h, rfl⟩
  | e :: t, f, hS, h => by
    have ih := grpsF_nm (N := N) (G := t) (f := partF f (sGrp ++ rS e 0) ⟨0, 17, 0, 0, 0, 0, N, 0, 4, 4⟩ (numsB 4 [[.int 1]] ++ numsB 4 (rA e 1))) (fun e h => hS e (List.mem_cons_of_mem _ h)) (nmAll_snoc h (app_g grp_g (hS e List.mem_cons_self)))
    rw [(partF_len f (sGrp ++ rS e 0) ⟨0, 17, 0, 0, 0, 0, N, 0, 4, 4⟩ (numsB 4 [[.int 1]] ++ numsB 4 (rA e 1))).2.2] at ih
    exact ⟨ih.1, Eq.trans (show (grpsF N (e :: t) f).names.length = _ from ih.2) (by rw [List.length_cons]; omega)⟩
theorem relsF_nm {N : Int} {S : List (List D)} (hS : ∀ e ∈ S, nmG 32 (rS e 0)) : ∀ {W : List (List D)} {i : Nat} {f : Fl}, i + W.length ≤ S.length → nmAll f.names → nmAll (relsF N S W i f).names ∧ (relsF N S W i f).names.length ≤ f.names.length + W.length
  | [], i, f, _, h => ⟨h, Nat.le_refl _⟩
  | e :: t, i, f, hi, h => by
    rw [List.length_cons] at hi
    have hm : S.getD i [] ∈ S := by
      rw [List.getD_eq_getElem?_getD, List.getElem?_eq_getElem (by omega)]; exact List.getElem_mem _
    rw [relsF]
    split
    · have ih := relsF_nm (N := N) hS (W := t) (i := i + 1) (f := partF f (sRel ++ rS (S.getD i []) 0) ⟨0, 4, 64, 0, 0, 0, N, ((i + 1 : Nat) : Int), 8, 24⟩ (rA e 0)) (by omega) (nmAll_snoc h (app_g rel_g (hS _ hm)))
      rw [(partF_len f (sRel ++ rS (S.getD i []) 0) ⟨0, 4, 64, 0, 0, 0, N, ((i + 1 : Nat) : Int), 8, 24⟩ (rA e 0)).2.2] at ih
      exact ⟨ih.1, by rw [List.length_cons]; omega⟩
    · have ih := relsF_nm (N := N) hS (W := t) (i := i + 1) (f := f) (by omega) h
      exact ⟨ih.1, by rw [List.length_cons]; omega⟩
theorem byS_len (n : Nat) (L : List (List D)) : (byS n L).length = n := by simp [byS]
theorem wrF2_nm {S Y L G : List (List D)} (hS : ∀ e ∈ S, nmG 32 (rS e 0)) (hG : ∀ e ∈ G, nmG 32 (rS e 0)) : nmAll (wrF2 S Y L G).names ∧ (wrF2 S Y L G).names.length ≤ S.length + G.length + S.length + 2 := by
  have h1 := secsF_nm (m := grpMap G []) (S := S) (i := 0) (f := ⟨zeros 64, [], []⟩) hS (fun e he => by cases he)
  have h2 := grpsF_nm (N := symFirst S L G) (G := G) (f := secsF (grpMap G []) S 0 ⟨zeros 64, [], []⟩) hG h1.1
  have h3 := relsF_nm (N := symFirst S L G) hS (W := byS S.length L) (i := 0) (f := grpsF (symFirst S L G) G (secsF (grpMap G []) S 0 ⟨zeros 64, [], []⟩)) (by rw [byS_len]; omega) h2.1
  rw [byS_len, h2.2, h1.2] at h3
  refine ⟨nmAll_snoc (nmAll_snoc h3.1 sym_g) str_g, ?_⟩
  show ((_ ++ [_]) ++ [_] : List (List D)).length ≤ _
  have h4 := h3.2
  simp only [List.length_append, List.length_cons, List.length_nil] at h4 ⊢
  omega
theorem namesY_nm {Y : List (List D)} (h : ∀ e ∈ Y, nmG 32 (rS e 0)) : nmAll (namesY Y) := by
  intro e he
  obtain ⟨y, hy, rfl⟩ := List.mem_map.1 he
  exact (h y hy).mono (by omega)
theorem wrOk_of {S Y L G : List (List D)} (h : chkB S Y L G = true) (hp : posOk 1 Y = true) : wrOk S Y L G = true := by
  simp only [chkB, Bool.and_eq_true, decide_eq_true_eq] at h
  obtain ⟨⟨⟨⟨h1, h2⟩, h3⟩, h4⟩, h5⟩ := h
  simp only [symsB, Bool.and_eq_true, decide_eq_true_eq] at h3
  simp only [relsB, Bool.and_eq_true, decide_eq_true_eq] at h4
  simp only [grpsB, Bool.and_eq_true, decide_eq_true_eq] at h5
  have hS : ∀ e ∈ S, nmG 32 (rS e 0) := fun e he => (secAll_get h2 he).1
  have hG := grpsGo_get (by omega) h5.1
  have hY : ∀ e ∈ Y, nmG 32 (rS e 0) := fun e he => by
    have := symsGo_get h3.1 e he
    simp only [symIn, Bool.and_eq_true, beq_iff_eq] at this
    exact symE_g this.1
  have hb := bldR_ok (namesY_nm hY) (by simp only [namesY, List.length_map]; omega)
  have hn := wrF2_nm (Y := Y) (L := L) hS (fun e he => (hG e he).1)
  have ht := bldR_ok (xs := (wrF2 S Y L G).names ++ [[.str sShs]]) (nmAll_snoc hn.1 shs_g) (by rw [List.length_append]; simp only [List.length_cons, List.length_nil]; omega)
  simp only [wrOk, bysOk, Bool.and_eq_true, decide_eq_true_eq]
  refine ⟨⟨⟨?_, ⟨⟨⟨⟨⟨⟨⟨⟨⟨⟨h1, h4.1⟩, ?_⟩, h5.2⟩, ?_⟩, ?_⟩, ?_⟩, h3.2⟩, hp⟩, ?_⟩, hb.2.1⟩⟩, ?_⟩, ht.2.1⟩
  · exact List.all_eq_true.2 fun e he => decT (secAll_get h2 he).2
  · exact List.all_eq_true.2 fun e he => by
      have h0 := relsGo_get h4.2 e he
      have := relCk_in h0
      exact andT (andT (decT this.1) (decT this.2.1)) (relCk_wok h0)
  · exact List.all_eq_true.2 fun e he => decT (hG e he).2
  · exact List.all_eq_true.2 fun e he => decT (Nat.le_trans (hG e he).1.1 (by omega))
  · exact List.all_eq_true.2 fun e he => decT (Nat.le_trans (hS e he).1 (by omega))
  · rw [hb.1, namesY, List.length_map]
  · rw [wrTb, ht.1, List.length_append]; rfl
end Go.Proofs.Ytkcopbnaleiocaa.Ev
namespace Go.Proofs.Ytkcopbnaleiocaa.Ev
open Go
set_option linter.unusedVariables false
def gAlv : List V → Option V
  | [] => some (.val (.bool true))
  | _ => none
def sF : ByteArray := ⟨#[102]⟩
def txtS : List (List D) := [[.str sTxt, .int 4, .arr (zeros 8), .int 0]]
def txtY : List (List D) := [[.str sF, .int 1, .bool false, .int 0, .int 0, .int 0]]
def gTxt : List V → Option V
  | [.arr [.int .i64, .int .i64, .int .u8, .int .i64, .int .i64] l] => some (.agg [.arr secC txtS, .arr symC txtY, .arr relC l, .val nilSlice])
  | _ => none
noncomputable def lc7 : List (Nat × ExtF) := (25, exN [] gAlv) :: (23, exN [.sl relC] gTxt) :: lc6
noncomputable def eq7 : Info := infoL Try.prog lc7 ent keepOf
end Go.Proofs.Ytkcopbnaleiocaa.Ev
namespace Go.Proofs.Ytkcopbnaleiocaa.Ev
open Go
set_option linter.unusedVariables false
noncomputable def alvk0 : List T := [.code (sub (bodyOf Try.f25) [])]
def alvs0  : St := ⟨[], []⟩
noncomputable def alvt0  : Tr := (.ret (.val (.bool (true)), []))
set_option maxRecDepth 100000 in
theorem alvp0 (n : Nat)  : exec ep6 (n + 38) (25, Try.f25, 0) alvk0 (alvs0 ) = Tr.val ep6 (25, Try.f25, 0) n (alvt0 ) := by kernel_rfl
noncomputable def txtk0 : List T := [.code (sub (bodyOf Try.f23) [])]
def txts0 (t0 : List (List D)) : St := ⟨[(0, .arr relC t0)], []⟩
noncomputable def txtt0 (t0 : List (List D)) : Tr := (.ret (.agg [.arr secC ([[D.str { data := #[(46 : UInt8), (116 : UInt8), (101 : UInt8), (120 : UInt8), (116 : UInt8)] }, D.int (4 : Int), D.arr [[D.int (0 : Int)], [D.int (0 : Int)], [D.int (0 : Int)], [D.int (0 : Int)], [D.int (0 : Int)], [D.int (0 : Int)], [D.int (0 : Int)], [D.int (0 : Int)]], D.int (0 : Int)]]), .arr symC ([[D.str { data := #[(102 : UInt8)] }, D.int (1 : Int), D.bool false, D.int (0 : Int), D.int (0 : Int), D.int (0 : Int)]]), .arr relC (t0), .val nilSlice], []))
set_option maxRecDepth 100000 in
theorem txtp0 (n : Nat) (t0 : List (List D)) : exec em4 (n + 16) (23, Try.f23, 0) txtk0 (txts0 t0) = Tr.val em4 (23, Try.f23, 0) n (txtt0 t0) := by kernel_rfl
end Go.Proofs.Ytkcopbnaleiocaa.Ev
namespace Go.Proofs.Ytkcopbnaleiocaa.Ev
open Go
set_option linter.unusedVariables false
set_option linter.unusedSimpArgs false
theorem con_alv : ∀ vs v, gAlv vs = some v → Contract Try.prog 25 vs [] (v, []) := by
  intro vs v h
  unfold gAlv at h
  split at h <;> cases h
  exact el_con lc6_ok Try.func25 (by kernel_rfl) (by kernel_rfl) rfl (by kernel_rfl) (by kernel_rfl) (Runs.of (fun q => alvp0 q) (is_refl rfl))
theorem con_txt : ∀ vs v, gTxt vs = some v → Contract Try.prog 23 vs [] (v, []) := by
  intro vs v h
  unfold gTxt at h
  split at h <;> cases h
  rename_i l
  exact el_con lb4_ok Try.func23 (by kernel_rfl) (by kernel_rfl) rfl (by kernel_rfl) (by kernel_rfl) (Runs.of (fun q => txtp0 q l) (is_refl rfl))
theorem lc7_ok : ExtAll Try.prog lc7 := .norm con_alv (.norm con_txt lc6_ok)
theorem padB_ge (xs : List (List D)) (m : Int) (h : padOk m = true) : xs.length ≤ (padB xs m).length := by
  rw [padB, if_pos h, List.length_append]; omega
theorem partF_ge (f : Fl) (nm : ByteArray) (h : Hd) (x : List (List D)) (ha : padOk h.align = true) : f.b.length + x.length ≤ (partF f nm h x).b.length := by
  have := padB_ge f.b h.align ha
  show _ ≤ (padB f.b h.align ++ x).length
  rw [List.length_append]; omega
theorem grpsF_ge (N : Int) : ∀ (G : List (List D)) (f : Fl), f.b.length ≤ (grpsF N G f).b.length
  | [], f => Nat.le_refl _
  | e :: t, f => by
    have h1 := partF_ge f (sGrp ++ rS e 0) ⟨0, 17, 0, 0, 0, 0, N, 0, 4, 4⟩ (numsB 4 [[.int 1]] ++ numsB 4 (rA e 1)) rfl
    have h2 := grpsF_ge N t (partF f (sGrp ++ rS e 0) ⟨0, 17, 0, 0, 0, 0, N, 0, 4, 4⟩ (numsB 4 [[.int 1]] ++ numsB 4 (rA e 1)))
    exact Nat.le_trans (by omega) h2
theorem relsF_ge (N : Int) (S : List (List D)) : ∀ (W : List (List D)) (i : Nat) (f : Fl), f.b.length ≤ (relsF N S W i f).b.length
  | [], i, f => Nat.le_refl _
  | e :: t, i, f => by
    have h2 := relsF_ge N S t (i + 1) (if 0 < (rA e 0).length then partF f (sRel ++ rS (S.getD i []) 0) ⟨0, 4, 64, 0, 0, 0, N, ((i + 1 : Nat) : Int), 8, 24⟩ (rA e 0) else f)
    refine Nat.le_trans ?_ h2
    split
    · have h1 := partF_ge f (sRel ++ rS (S.getD i []) 0) ⟨0, 4, 64, 0, 0, 0, N, ((i + 1 : Nat) : Int), 8, 24⟩ (rA e 0) rfl
      omega
    · exact Nat.le_refl _
theorem restF_ge (S Y L G : List (List D)) (f : Fl) : f.b.length ≤ (restF S Y L G f).b.length := by
  have h1 := grpsF_ge (symFirst S L G) G f
  have h2 := relsF_ge (symFirst S L G) S (byS S.length L) 0 (grpsF (symFirst S L G) G f)
  have h3 := partF_ge (relsF (symFirst S L G) S (byS S.length L) 0 (grpsF (symFirst S L G) G f)) sSym ⟨0, 2, 0, 0, 0, 0, ((symFirst S L G + 1 : Nat) : Int), ((locals Y + 1 : Nat) : Int), 8, 24⟩ (zeros 24 ++ symsF (bldR (namesY Y)).p Y 0) rfl
  have h4 := partF_ge (partF (relsF (symFirst S L G) S (byS S.length L) 0 (grpsF (symFirst S L G) G f)) sSym ⟨0, 2, 0, 0, 0, 0, ((symFirst S L G + 1 : Nat) : Int), ((locals Y + 1 : Nat) : Int), 8, 24⟩ (zeros 24 ++ symsF (bldR (namesY Y)).p Y 0)) sStr ⟨0, 3, 0, 0, 0, 0, 0, 0, 1, 0⟩ (bldR (namesY Y)).t rfl
  have e0 : restF S Y L G f = partF (partF (relsF (symFirst S L G) S (byS S.length L) 0 (grpsF (symFirst S L G) G f)) sSym ⟨0, 2, 0, 0, 0, 0, ((symFirst S L G + 1 : Nat) : Int), ((locals Y + 1 : Nat) : Int), 8, 24⟩ (zeros 24 ++ symsF (bldR (namesY Y)).p Y 0)) sStr ⟨0, 3, 0, 0, 0, 0, 0, 0, 1, 0⟩ (bldR (namesY Y)).t := rfl
  rw [e0]; omega
end Go.Proofs.Ytkcopbnaleiocaa.Ev
namespace Go.Proofs.Ytkcopbnaleiocaa.Ev
open Go
set_option linter.unusedVariables false
def setAll (os : List V) (ch : List (Nat × V)) : List V := ch.foldl (fun os c => os.set c.1 c.2) os
theorem setAll_length : ∀ (ch : List (Nat × V)) (os : List V), (setAll os ch).length = os.length
  | [], _ => rfl
  | c :: ch, os => by
    show (setAll (os.set c.1 c.2) ch).length = _
    rw [setAll_length ch, List.length_set]
theorem setAll_get : ∀ (ch : List (Nat × V)) (os : List V) (i : Nat), (∀ c ∈ ch, c.1 ≠ i) → (setAll os ch)[i]? = os[i]?
  | [], _, _, _ => rfl
  | c :: ch, os, i, h => by
    show (setAll (os.set c.1 c.2) ch)[i]? = _
    rw [setAll_get ch _ i fun d hd => h d (List.mem_cons_of_mem _ hd), List.getElem?_set_ne (h c List.mem_cons_self)]
def exT (ks : List CK) (l : List Nat) (p : List V → List V → Bool) (g : List V → List V → Option (V × List (Nat × V))) : ExtF where
  pre := fun vs outs => match outs with | [os] => p (normArgs ks vs) os | _ => true
  ans := fun vs outs => match outs with | [os] => (g (normArgs ks vs) os).bind fun r => if (r.2.all fun c => l.contains c.1) = true then some (r.1, [setAll os r.2]) else none | _ => none
  touch := some l
  tok := fun l' h vs os r hr => by
    cases h
    obtain ⟨x, h1, h2⟩ := Option.bind_eq_some_iff.1 hr
    split at h2
    · rename_i hc
      cases h2
      refine ⟨_, rfl, setAll_length _ _, fun i hi => setAll_get _ _ _ fun c hc' e => ?_⟩
      have := List.all_eq_true.1 hc c hc'
      rw [e] at this
      exact hi (List.contains_iff_mem.1 this)
    · cases h2
theorem ExtAll.tch {P : Program} {l : List (Nat × ExtF)} {f : Nat} {ks : List CK} {ls : List Nat} {p : List V → List V → Bool} {g : List V → List V → Option (V × List (Nat × V))} (h : ∀ (vs os : List V) (r : V × List (Nat × V)), p vs os = true → g vs os = some r → Contract P f vs [os] (r.1, [setAll os r.2])) (hl : ExtAll P l) : ExtAll P ((f, exT ks ls p g) :: l) :=
  .cons (fun vs outs r h1 h2 => by
    simp only [exT] at h2 h1
    split at h2
    · obtain ⟨x, e1, e2⟩ := Option.bind_eq_some_iff.1 h2
      split at e2
      · cases e2
        exact Contract.norm (h _ _ _ h1 e1)
      · cases e2
    · cases h2) hl
def sX : ByteArray := ⟨#[120]⟩
def symRb (x : List (List D)) : Int := Int.fdiv (cellI x 4 0) 16
def symRh (x : List (List D)) : Bool := cellI x 5 0 == 2
def symRw (x : List (List D)) : Int := if getV x 6 2 > 65520 then IntKind.wrap .i64 (65520 - getV x 6 2) else getV x 6 2
def sameB (x y : List (List D)) : Bool := (rowBytes x).toList == (rowBytes y).toList
def symRe (x : List (List D)) : Int := if x.length ≠ 24 then 3 else if symWE sX (symRb x) (symRh x) (symRw x) (getV x 8 8) (getV x 16 8) (getV x 0 4) ≠ 0 then 8 else if sameB (if symWok sX (symRb x) (symRh x) (symRw x) (getV x 8 8) (getV x 16 8) (getV x 0 4) = true then symB (getV x 0 4) (symRb x) (symRh x) (symRw x) (getV x 8 8) (getV x 16 8) else []) x = true then 0 else 8
def okI (e : Int) (n : Int) : Int := if e = 0 then n else 0
def okT (e : Int) (b : Bool) : Bool := decide (e = 0) && b
def pB1 : List V → Bool
  | [.arr [.int .u8] x] => bytesIn x
  | _ => true
def gSymR : List V → Option V
  | [.arr [.int .u8] x] => some (.tup [.agg [.val (.string .empty), .val (.int .u8 (okI (symRe x) (symRb x))), .val (.bool (okT (symRe x) (symRh x))), .val (.int .i64 (okI (symRe x) (symRw x))), .val (.int .i64 (okI (symRe x) (getV x 8 8))), .val (.int .i64 (okI (symRe x) (getV x 16 8)))], .val (.int .i64 (okI (symRe x) (getV x 0 4))), .val (.int .i64 (symRe x))])
  | _ => none
def relRk (x : List (List D)) : Int := IntKind.wrap .u8 (getV x 8 4)
def relRc (x : List (List D)) : Int := IntKind.wrap .i64 (getV x 12 4 - 1)
def relRe (x : List (List D)) : Int := if x.length ≠ 24 then 3 else if relWok (getV x 0 8) (relRk x) (relRc x) (getV x 16 8) = true then (if sameB (relB (getV x 0 8) (relRk x) (relRc x) (getV x 16 8)) x = true then 0 else 8) else 8
def gRelR : List V → Option V
  | [.arr [.int .u8] x] => some (.tup [.agg [.val (.int .i64 0), .val (.int .i64 (okI (relRe x) (getV x 0 8))), .val (.int .u8 (okI (relRe x) (relRk x))), .val (.int .i64 (okI (relRe x) (relRc x))), .val (.int .i64 (okI (relRe x) (getV x 16 8)))], .val (.int .i64 (relRe x))])
  | _ => none
def gBcl : List V → Option V
  | [.arr [.int .u8] x] => some (.own u8s x)
  | _ => none
def pBcl : List V → Bool
  | [.arr [.int .u8] x] => decide (x.length ≤ 1048576)
  | _ => true
def gBeq : List V → Option V
  | [.arr [.int .u8] x, .arr [.int .u8] y] => some (.val (.bool (sameB x y)))
  | _ => none
def hasPB (x y : List (List D)) : Bool := decide (y.length ≤ x.length) && sameB (x.take y.length) y
def gBhp : List V → Option V
  | [.arr [.int .u8] x, .arr [.int .u8] y] => some (.val (.bool (hasPB x y)))
  | _ => none
def nBB : List CK := [.sl u8s, .sl u8s]
structure Rd where
  b : List (List D)
  h : List (List D)
  s : List (List D)
  y : List (List D)
  l : List (List D)
  g : List (List D)
  e : Int
def Rd.cells (r : Rd) : List V := [.arr u8s r.b, .own hdC r.h, .own secC r.s, .own symC r.y, .own relC r.l, .own grpC r.g, .val (.int .i64 r.e)]
def rdC : List BK := [.arr u8s, .own hdC, .own secC, .own symC, .own relC, .own grpC, .no]
def rdOf : List V → Option Rd
  | [.arr c0 b, .own c1 h, .own c2 s, .own c3 y, .own c4 l, .own c5 g, .val (.int .i64 e)] => if (sameCTs c0 u8s && sameCTs c1 hdC && sameCTs c2 secC && sameCTs c3 symC && sameCTs c4 relC && sameCTs c5 grpC) = true then some ⟨b, h, s, y, l, g, e⟩ else none
  | _ => none
def numE (x : List (List D)) (at_ k e : Int) : Int := if getE x at_ k ≠ 0 then (if e = 0 then 8 else e) else e
def pNum : List V → List V → Bool
  | [_, .arr [.int .u8] x, _, _], _ => bytesIn x && decide (x.length ≤ 1048576)
  | _, _ => true
def gNum : List V → List V → Option (V × List (Nat × V))
  | [.ptr (.out 0) 0, .arr [.int .u8] x, .val (.int .i64 a), .val (.int .i64 k)], os => match rdOf os with
    | some r => some (.val (.int .i64 (getV x a k)), [(6, .val (.int .i64 (numE x a k r.e)))])
    | none => none
  | _, _ => none
def cutOk (b : List (List D)) (at_ n e : Int) : Bool := decide (e = 0) && decide (0 ≤ at_) && decide (0 ≤ n) && decide (at_ ≤ b.length) && decide (n ≤ b.length - at_)
def cutV (b : List (List D)) (at_ n e : Int) : List (List D) := if cutOk b at_ n e = true then cut b at_ (at_ + n) else []
def cutE (b : List (List D)) (at_ n e : Int) : Int := if cutOk b at_ n e = true then e else 8
def pCut : List V → List V → Bool
  | _, os => match rdOf os with
    | some r => decide (r.b.length ≤ 1048576)
    | none => true
def gCut3 : List V → List V → Option (V × List (Nat × V))
  | [.ptr (.out 0) 0, .val (.int .i64 a), .val (.int .i64 n)], os => match rdOf os with
    | some r => some (.arr u8s (cutV r.b a n r.e), [(6, .val (.int .i64 (cutE r.b a n r.e)))])
    | none => none
  | _, _ => none
def nNum : List CK := [.no, .sl u8s]
noncomputable def le1 : List (Nat × ExtF) := (109, exP nB pB1 gSymR) :: (145, exP nB pB1 gRelR) :: (43, exP nB pBcl gBcl) :: (46, exN nBB gBeq) :: (142, exT nNum [6] pNum gNum) :: (143, exT [] [6] pCut gCut3) :: lc7
noncomputable def er1 : Info := infoL Try.prog le1 ent keepOf
def nameS (r : Rd) (i : Nat) (at_ : Int) : ByteArray := getS (cutV r.b (cellI r.h i 4) (cellI r.h i 5) r.e) at_
def nameE (r : Rd) (i : Nat) (at_ : Int) : Int := if getSE (cutV r.b (cellI r.h i 4) (cellI r.h i 5) r.e) at_ ≠ 0 then 8 else cutE r.b (cellI r.h i 4) (cellI r.h i 5) r.e
def pName : List V → List V → Bool
  | [_, .val (.int .i64 i), _], os => match rdOf os with
    | some r => decide (r.b.length ≤ 1048576) && decide (0 ≤ i) && decide (i < r.h.length)
    | none => true
  | _, _ => true
def gName : List V → List V → Option (V × List (Nat × V))
  | [.ptr (.out 0) 0, .val (.int .i64 i), .val (.int .i64 a)], os => match rdOf os with
    | some r => some (.val (.string (nameS r i.toNat a)), [(6, .val (.int .i64 (nameE r i.toNat a)))])
    | none => none
  | _, _ => none
noncomputable def le2 : List (Nat × ExtF) := (94, exN nBB gBhp) :: (144, exT [] [6] pName gName) :: le1
noncomputable def er2 : Info := infoL Try.prog le2 ent keepOf
end Go.Proofs.Ytkcopbnaleiocaa.Ev
namespace Go.Proofs.Ytkcopbnaleiocaa.Ev
open Go
set_option linter.unusedVariables false
noncomputable def syrk0 : List T := [.code (sub (bodyOf Try.f109) [])]
def syrs0 (t0 : List (List D)) : St := ⟨[(0, .arr u8s t0)], []⟩
noncomputable def syrt0 (t0 : List (List D)) : Tr := (.ask ((↑(List.length t0) : Int) != (24 : Int))
  (.ret (.tup [.agg [.val (.string ({ data := #[] })), .val (.int .u8 ((0 : Int))), .val (.bool (false)), z0, z0, z0], z0, .val (.int .i64 ((3 : Int)))], []))
  (.ask (pGet [normV (.sl u8s) (handed [] (.arr u8s t0)), handed [] (.val (.int .i64 (0 : Int))), handed [] (.val (.int .i64 (4 : Int)))])
  (.ask (decide ((4 : Int) < (↑(List.length t0) : Int)))
  (.ask (decide ((5 : Int) < (↑(List.length t0) : Int)))
  (.ask (pGet [normV (.sl u8s) (handed [] (.arr u8s t0)), handed [] (.val (.int .i64 (6 : Int))), handed [] (.val (.int .i64 (2 : Int)))])
  (.ask (decide (getV t0 (6 : Int) (2 : Int) > (65520 : Int)))
  (.ask (pGet [normV (.sl u8s) (handed [] (.arr u8s t0)), handed [] (.val (.int .i64 (8 : Int))), handed [] (.val (.int .i64 (8 : Int)))])
  (.ask (pGet [normV (.sl u8s) (handed [] (.arr u8s t0)), handed [] (.val (.int .i64 (16 : Int))), handed [] (.val (.int .i64 (8 : Int)))])
  (.ask (pSymW [handed [] (.agg [V.val (Value.string { data := #[(120 : UInt8)] }), V.val (.int .u8 (Int.fdiv (cellI t0 (4 : Nat) (0 : Nat)) (16 : Int))), V.val (Value.bool (cellI t0 (5 : Nat) (0 : Nat) == (2 : Int))), V.val (.int .i64 (IntKind.wrap .i64 ((65520 : Int) - getV t0 (6 : Int) (2 : Int)))), V.val (.int .i64 (getV t0 (8 : Int) (8 : Int))), V.val (.int .i64 (getV t0 (16 : Int) (8 : Int)))]), handed [] (.val (.int .i64 (getV t0 (0 : Int) (4 : Int))))])
  (.ask (symWE { data := #[(120 : UInt8)] } (Int.fdiv (cellI t0 (4 : Nat) (0 : Nat)) (16 : Int)) (cellI t0 (5 : Nat) (0 : Nat) == (2 : Int)) (IntKind.wrap .i64 ((65520 : Int) - getV t0 (6 : Int) (2 : Int))) (getV t0 (8 : Int) (8 : Int)) (getV t0 (16 : Int) (8 : Int)) (getV t0 (0 : Int) (4 : Int)) != (0 : Int))
  (.ret (.tup [.agg [.val (.string ({ data := #[] })), .val (.int .u8 ((0 : Int))), .val (.bool (false)), z0, z0, z0], z0, .val (.int .i64 ((8 : Int)))], []))
  (.ask (!ByteArray.toList (rowBytes (if symWok { data := #[(120 : UInt8)] } (Int.fdiv (cellI t0 (4 : Nat) (0 : Nat)) (16 : Int)) (cellI t0 (5 : Nat) (0 : Nat) == (2 : Int)) (IntKind.wrap .i64 ((65520 : Int) - getV t0 (6 : Int) (2 : Int))) (getV t0 (8 : Int) (8 : Int)) (getV t0 (16 : Int) (8 : Int)) (getV t0 (0 : Int) (4 : Int)) = true then symB (getV t0 (0 : Int) (4 : Int)) (Int.fdiv (cellI t0 (4 : Nat) (0 : Nat)) (16 : Int)) (cellI t0 (5 : Nat) (0 : Nat) == (2 : Int)) (IntKind.wrap .i64 ((65520 : Int) - getV t0 (6 : Int) (2 : Int))) (getV t0 (8 : Int) (8 : Int)) (getV t0 (16 : Int) (8 : Int)) else [])) == ByteArray.toList (rowBytes t0))
  (.ret (.tup [.agg [.val (.string ({ data := #[] })), .val (.int .u8 ((0 : Int))), .val (.bool (false)), z0, z0, z0], z0, .val (.int .i64 ((8 : Int)))], []))
  (.ret (.tup [.agg [.val (.string ({ data := #[] })), .val (.int .u8 (Int.fdiv (cellI t0 (4 : Nat) (0 : Nat)) (16 : Int))), .val (.bool (cellI t0 (5 : Nat) (0 : Nat) == (2 : Int))), .val (.int .i64 (IntKind.wrap .i64 ((65520 : Int) - getV t0 (6 : Int) (2 : Int)))), .val (.int .i64 (getV t0 (8 : Int) (8 : Int))), .val (.int .i64 (getV t0 (16 : Int) (8 : Int)))], .val (.int .i64 (getV t0 (0 : Int) (4 : Int))), z0], []))))
  .fail)
  .fail)
  .fail)
  (.ask (pGet [normV (.sl u8s) (handed [] (.arr u8s t0)), handed [] (.val (.int .i64 (8 : Int))), handed [] (.val (.int .i64 (8 : Int)))])
  (.ask (pGet [normV (.sl u8s) (handed [] (.arr u8s t0)), handed [] (.val (.int .i64 (16 : Int))), handed [] (.val (.int .i64 (8 : Int)))])
  (.ask (pSymW [handed [] (.agg [V.val (Value.string { data := #[(120 : UInt8)] }), V.val (.int .u8 (Int.fdiv (cellI t0 (4 : Nat) (0 : Nat)) (16 : Int))), V.val (Value.bool (cellI t0 (5 : Nat) (0 : Nat) == (2 : Int))), V.val (.int .i64 (getV t0 (6 : Int) (2 : Int))), V.val (.int .i64 (getV t0 (8 : Int) (8 : Int))), V.val (.int .i64 (getV t0 (16 : Int) (8 : Int)))]), handed [] (.val (.int .i64 (getV t0 (0 : Int) (4 : Int))))])
  (.ask (symWE { data := #[(120 : UInt8)] } (Int.fdiv (cellI t0 (4 : Nat) (0 : Nat)) (16 : Int)) (cellI t0 (5 : Nat) (0 : Nat) == (2 : Int)) (getV t0 (6 : Int) (2 : Int)) (getV t0 (8 : Int) (8 : Int)) (getV t0 (16 : Int) (8 : Int)) (getV t0 (0 : Int) (4 : Int)) != (0 : Int))
  (.ret (.tup [.agg [.val (.string ({ data := #[] })), .val (.int .u8 ((0 : Int))), .val (.bool (false)), z0, z0, z0], z0, .val (.int .i64 ((8 : Int)))], []))
  (.ask (!ByteArray.toList (rowBytes (if symWok { data := #[(120 : UInt8)] } (Int.fdiv (cellI t0 (4 : Nat) (0 : Nat)) (16 : Int)) (cellI t0 (5 : Nat) (0 : Nat) == (2 : Int)) (getV t0 (6 : Int) (2 : Int)) (getV t0 (8 : Int) (8 : Int)) (getV t0 (16 : Int) (8 : Int)) (getV t0 (0 : Int) (4 : Int)) = true then symB (getV t0 (0 : Int) (4 : Int)) (Int.fdiv (cellI t0 (4 : Nat) (0 : Nat)) (16 : Int)) (cellI t0 (5 : Nat) (0 : Nat) == (2 : Int)) (getV t0 (6 : Int) (2 : Int)) (getV t0 (8 : Int) (8 : Int)) (getV t0 (16 : Int) (8 : Int)) else [])) == ByteArray.toList (rowBytes t0))
  (.ret (.tup [.agg [.val (.string ({ data := #[] })), .val (.int .u8 ((0 : Int))), .val (.bool (false)), z0, z0, z0], z0, .val (.int .i64 ((8 : Int)))], []))
  (.ret (.tup [.agg [.val (.string ({ data := #[] })), .val (.int .u8 (Int.fdiv (cellI t0 (4 : Nat) (0 : Nat)) (16 : Int))), .val (.bool (cellI t0 (5 : Nat) (0 : Nat) == (2 : Int))), .val (.int .i64 (getV t0 (6 : Int) (2 : Int))), .val (.int .i64 (getV t0 (8 : Int) (8 : Int))), .val (.int .i64 (getV t0 (16 : Int) (8 : Int)))], .val (.int .i64 (getV t0 (0 : Int) (4 : Int))), z0], []))))
  .fail)
  .fail)
  .fail))
  .fail)
  .fail)
  .fail)
  .fail))
set_option maxRecDepth 100000 in
theorem syrp0 (n : Nat) (t0 : List (List D)) : exec eq7 (n + 129) (109, Try.f109, 0) syrk0 (syrs0 t0) = Tr.val eq7 (109, Try.f109, 0) n (syrt0 t0) := by kernel_rfl
noncomputable def rlrk0 : List T := [.code (sub (bodyOf Try.f145) [])]
def rlrs0 (t0 : List (List D)) : St := ⟨[(0, .arr u8s t0)], []⟩
noncomputable def rlrt0 (t0 : List (List D)) : Tr := (.ask ((↑(List.length t0) : Int) != (24 : Int))
  (.ret (.tup [.agg [z0, z0, .val (.int .u8 ((0 : Int))), z0, z0], .val (.int .i64 ((3 : Int)))], []))
  (.ask (pGet [normV (.sl u8s) (handed [] (.arr u8s t0)), handed [] (.val (.int .i64 (8 : Int))), handed [] (.val (.int .i64 (4 : Int)))])
  (.ask (pGet [normV (.sl u8s) (handed [] (.arr u8s t0)), handed [] (.val (.int .i64 (0 : Int))), handed [] (.val (.int .i64 (8 : Int)))])
  (.ask (pGet [normV (.sl u8s) (handed [] (.arr u8s t0)), handed [] (.val (.int .i64 (12 : Int))), handed [] (.val (.int .i64 (4 : Int)))])
  (.ask (pGet [normV (.sl u8s) (handed [] (.arr u8s t0)), handed [] (.val (.int .i64 (16 : Int))), handed [] (.val (.int .i64 (8 : Int)))])
  (.ask ((if relWok (getV t0 (0 : Int) (8 : Int)) (IntKind.wrap .u8 (getV t0 (8 : Int) (4 : Int))) (IntKind.wrap .i64 (getV t0 (12 : Int) (4 : Int) - (1 : Int))) (getV t0 (16 : Int) (8 : Int)) = true then (0 : Int) else (8 : Int)) != (0 : Int))
  (.ret (.tup [.agg [z0, z0, .val (.int .u8 ((0 : Int))), z0, z0], .val (.int .i64 ((8 : Int)))], []))
  (.ask (!ByteArray.toList (rowBytes (if relWok (getV t0 (0 : Int) (8 : Int)) (IntKind.wrap .u8 (getV t0 (8 : Int) (4 : Int))) (IntKind.wrap .i64 (getV t0 (12 : Int) (4 : Int) - (1 : Int))) (getV t0 (16 : Int) (8 : Int)) = true then relB (getV t0 (0 : Int) (8 : Int)) (IntKind.wrap .u8 (getV t0 (8 : Int) (4 : Int))) (IntKind.wrap .i64 (getV t0 (12 : Int) (4 : Int) - (1 : Int))) (getV t0 (16 : Int) (8 : Int)) else [])) == ByteArray.toList (rowBytes t0))
  (.ret (.tup [.agg [z0, z0, .val (.int .u8 ((0 : Int))), z0, z0], .val (.int .i64 ((8 : Int)))], []))
  (.ret (.tup [.agg [z0, .val (.int .i64 (getV t0 (0 : Int) (8 : Int))), .val (.int .u8 (IntKind.wrap .u8 (getV t0 (8 : Int) (4 : Int)))), .val (.int .i64 (IntKind.wrap .i64 (getV t0 (12 : Int) (4 : Int) - (1 : Int)))), .val (.int .i64 (getV t0 (16 : Int) (8 : Int)))], z0], []))))
  .fail)
  .fail)
  .fail)
  .fail))
set_option maxRecDepth 100000 in
theorem rlrp0 (n : Nat) (t0 : List (List D)) : exec eq7 (n + 101) (145, Try.f145, 0) rlrk0 (rlrs0 t0) = Tr.val eq7 (145, Try.f145, 0) n (rlrt0 t0) := by kernel_rfl
noncomputable def bclk0 : List T := [.code (sub (bodyOf Try.f43) [])]
def bcls0 (t0 : List (List D)) : St := ⟨[(0, .arr u8s t0)], []⟩
noncomputable def bclt0 (t0 : List (List D)) : Tr := (.ask (decide ((0 : Nat) < List.length t0))
  (.ask (decide (((0 : Nat) + List.length t0) * (1 : Nat) ≤ (70368744177664 : Nat)) && decide ((0 : Nat) + List.length t0 ≤ (70368744177664 : Nat)))
  (.ret (.own u8s (t0), []))
  .fail)
  .fail)
set_option maxRecDepth 100000 in
theorem bclp0 (n : Nat) (t0 : List (List D)) : exec eq7 (n + 20) (43, Try.f43, 0) bclk0 (bcls0 t0) = Tr.val eq7 (43, Try.f43, 0) n (bclt0 t0) := by kernel_rfl
noncomputable def beqk0 : List T := [.code (sub (bodyOf Try.f46) [])]
def beqs0 (t0 t1 : List (List D)) : St := ⟨[(0, .arr u8s t0), (1, .arr u8s t1)], []⟩
noncomputable def beqt0 (t0 t1 : List (List D)) : Tr := (.ret (.val (.bool (ByteArray.toList (rowBytes t0) == ByteArray.toList (rowBytes t1))), []))
set_option maxRecDepth 100000 in
theorem beqp0 (n : Nat) (t0 t1 : List (List D)) : exec eq7 (n + 14) (46, Try.f46, 0) beqk0 (beqs0 t0 t1) = Tr.val eq7 (46, Try.f46, 0) n (beqt0 t0 t1) := by kernel_rfl
noncomputable def numk0 : List T := [.code (sub (bodyOf Try.f142) [])]
def nums0 (t1 : List (List D)) (t2 t3 : Int) (o0_0 o0_1 o0_2 o0_3 o0_4 o0_5 : List (List D)) (o0_6 : Int) : St := ⟨[(0, .ptr (.out 0) 0), (1, .arr u8s t1), (2, .val (.int .i64 t2)), (3, .val (.int .i64 t3))], [(.out 0, [.arr u8s o0_0, .own hdT o0_1, .own secC o0_2, .own symC o0_3, .own relC o0_4, .own grpC o0_5, .val (.int .i64 o0_6)])]⟩
noncomputable def numt0 (t1 : List (List D)) (t2 t3 : Int) (o0_0 o0_1 o0_2 o0_3 o0_4 o0_5 : List (List D)) (o0_6 : Int) : Tr := (.ask (pGet [normV (.sl u8s) (handed [] (.arr u8s t1)), handed [] (.val (.int .i64 t2)), handed [] (.val (.int .i64 t3))])
  (.ask (getE t1 t2 t3 != (0 : Int))
  (.ask (o0_6 == (0 : Int))
  (.ret (.val (.int .i64 (getV t1 t2 t3)), [[.arr u8s (o0_0), .own hdT (o0_1), .own secC (o0_2), .own symC (o0_3), .own relC (o0_4), .own grpC (o0_5), .val (.int .i64 ((8 : Int)))]]))
  (.ret (.val (.int .i64 (getV t1 t2 t3)), [[.arr u8s (o0_0), .own hdT (o0_1), .own secC (o0_2), .own symC (o0_3), .own relC (o0_4), .own grpC (o0_5), .val (.int .i64 (o0_6))]])))
  (.ret (.val (.int .i64 (getV t1 t2 t3)), [[.arr u8s (o0_0), .own hdT (o0_1), .own secC (o0_2), .own symC (o0_3), .own relC (o0_4), .own grpC (o0_5), .val (.int .i64 (o0_6))]])))
  .fail)
set_option maxRecDepth 100000 in
theorem nump0 (n : Nat) (t1 : List (List D)) (t2 t3 : Int) (o0_0 o0_1 o0_2 o0_3 o0_4 o0_5 : List (List D)) (o0_6 : Int) : exec eq7 (n + 42) (142, Try.f142, 1) numk0 (nums0 t1 t2 t3 o0_0 o0_1 o0_2 o0_3 o0_4 o0_5 o0_6) = Tr.val eq7 (142, Try.f142, 1) n (numt0 t1 t2 t3 o0_0 o0_1 o0_2 o0_3 o0_4 o0_5 o0_6) := by kernel_rfl
noncomputable def rctk0 : List T := [.code (sub (bodyOf Try.f143) [])]
def rcts0 (t1 t2 : Int) (o0_0 o0_1 o0_2 o0_3 o0_4 o0_5 : List (List D)) (o0_6 : Int) : St := ⟨[(0, .ptr (.out 0) 0), (1, .val (.int .i64 t1)), (2, .val (.int .i64 t2))], [(.out 0, [.arr u8s o0_0, .own hdT o0_1, .own secC o0_2, .own symC o0_3, .own relC o0_4, .own grpC o0_5, .val (.int .i64 o0_6)])]⟩
noncomputable def rctt0 (t1 t2 : Int) (o0_0 o0_1 o0_2 o0_3 o0_4 o0_5 : List (List D)) (o0_6 : Int) : Tr := (.ask (o0_6 != (0 : Int))
  (.ret (.val nilSlice, [[.arr u8s (o0_0), .own hdT (o0_1), .own secC (o0_2), .own symC (o0_3), .own relC (o0_4), .own grpC (o0_5), .val (.int .i64 ((8 : Int)))]]))
  (.ask (decide (t1 < (0 : Int)))
  (.ret (.val nilSlice, [[.arr u8s (o0_0), .own hdT (o0_1), .own secC (o0_2), .own symC (o0_3), .own relC (o0_4), .own grpC (o0_5), .val (.int .i64 ((8 : Int)))]]))
  (.ask (decide (t2 < (0 : Int)))
  (.ret (.val nilSlice, [[.arr u8s (o0_0), .own hdT (o0_1), .own secC (o0_2), .own symC (o0_3), .own relC (o0_4), .own grpC (o0_5), .val (.int .i64 ((8 : Int)))]]))
  (.ask (decide (t1 > (↑(List.length o0_0) : Int)))
  (.ret (.val nilSlice, [[.arr u8s (o0_0), .own hdT (o0_1), .own secC (o0_2), .own symC (o0_3), .own relC (o0_4), .own grpC (o0_5), .val (.int .i64 ((8 : Int)))]]))
  (.ask (decide (t2 > IntKind.wrap .i64 ((↑(List.length o0_0) : Int) - t1)))
  (.ret (.val nilSlice, [[.arr u8s (o0_0), .own hdT (o0_1), .own secC (o0_2), .own symC (o0_3), .own relC (o0_4), .own grpC (o0_5), .val (.int .i64 ((8 : Int)))]]))
  (.ask (okBounds t1 (IntKind.wrap .i64 (t1 + t2)) (IntKind.wrap .i64 (t1 + t2)) && decide (IntKind.wrap .i64 (t1 + t2) ≤ (↑(List.length o0_0) : Int)))
  (.ret (.arr u8s (cut o0_0 t1 (IntKind.wrap .i64 (t1 + t2))), [[.arr u8s (o0_0), .own hdT (o0_1), .own secC (o0_2), .own symC (o0_3), .own relC (o0_4), .own grpC (o0_5), .val (.int .i64 (o0_6))]]))
  .fail))))))
set_option maxRecDepth 100000 in
theorem rctp0 (n : Nat) (t1 t2 : Int) (o0_0 o0_1 o0_2 o0_3 o0_4 o0_5 : List (List D)) (o0_6 : Int) : exec eq7 (n + 60) (143, Try.f143, 1) rctk0 (rcts0 t1 t2 o0_0 o0_1 o0_2 o0_3 o0_4 o0_5 o0_6) = Tr.val eq7 (143, Try.f143, 1) n (rctt0 t1 t2 o0_0 o0_1 o0_2 o0_3 o0_4 o0_5 o0_6) := by kernel_rfl
noncomputable def bhpk0 : List T := [.code (sub (bodyOf Try.f94) [])]
def bhps0 (t0 t1 : List (List D)) : St := ⟨[(0, .arr u8s t0), (1, .arr u8s t1)], []⟩
noncomputable def bhpt0 (t0 t1 : List (List D)) : Tr := (.ask (decide ((↑(List.length t0) : Int) ≥ (↑(List.length t1) : Int)))
  (.ask (okBounds (0 : Int) (↑(List.length t1) : Int) (↑(List.length t0) : Int))
  (.ret (.val (.bool (sameB (cut t0 (0 : Int) (↑(List.length t1) : Int)) t1)), []))
  .fail)
  (.ret (.val (.bool (false)), [])))
set_option maxRecDepth 100000 in
theorem bhpp0 (n : Nat) (t0 t1 : List (List D)) : exec er1 (n + 22) (94, Try.f94, 0) bhpk0 (bhps0 t0 t1) = Tr.val er1 (94, Try.f94, 0) n (bhpt0 t0 t1) := by kernel_rfl
noncomputable def rnmk0 : List T := [.code (sub (bodyOf Try.f144) [])]
def rnms0 (t1 t2 : Int) (o0_0 o0_1 o0_2 o0_3 o0_4 o0_5 : List (List D)) (o0_6 : Int) : St := ⟨[(0, .ptr (.out 0) 0), (1, .val (.int .i64 t1)), (2, .val (.int .i64 t2))], [(.out 0, [.arr u8s o0_0, .own hdT o0_1, .own secC o0_2, .own symC o0_3, .own relC o0_4, .own grpC o0_5, .val (.int .i64 o0_6)])]⟩
noncomputable def rnmt0 (t1 t2 : Int) (o0_0 o0_1 o0_2 o0_3 o0_4 o0_5 : List (List D)) (o0_6 : Int) : Tr := (.ask (decide ((0 : Int) ≤ t1) && decide (t1 < (↑(List.length o0_1) : Int)))
  (.ask (pCut [handed [Key.out (0 : Nat)] (V.ptr (Key.out (0 : Nat)) (0 : Nat)), handed [Key.out (0 : Nat)] (V.val (.int .i64 (cellI o0_1 (Int.toNat t1) (4 : Nat)))), handed [Key.out (0 : Nat)] (V.val (.int .i64 (cellI o0_1 (Int.toNat t1) (5 : Nat))))] [V.arr u8s o0_0, V.own hdT o0_1, V.own secC o0_2, V.own symC o0_3, V.own relC o0_4, V.own grpC o0_5, V.val (.int .i64 o0_6)])
  (.ask (getSE (cutV o0_0 (cellI o0_1 (Int.toNat t1) (4 : Nat)) (cellI o0_1 (Int.toNat t1) (5 : Nat)) o0_6) t2 != (0 : Int))
  (.ret (.val (.string (getS (cutV o0_0 (cellI o0_1 (Int.toNat t1) (4 : Nat)) (cellI o0_1 (Int.toNat t1) (5 : Nat)) o0_6) t2)), [[.arr u8s (o0_0), .own hdT (o0_1), .own secC (o0_2), .own symC (o0_3), .own relC (o0_4), .own grpC (o0_5), .val (.int .i64 ((8 : Int)))]]))
  (.ret (.val (.string (getS (cutV o0_0 (cellI o0_1 (Int.toNat t1) (4 : Nat)) (cellI o0_1 (Int.toNat t1) (5 : Nat)) o0_6) t2)), [[.arr u8s (o0_0), .own hdT (o0_1), .own secC (o0_2), .own symC (o0_3), .own relC (o0_4), .own grpC (o0_5), .val (.int .i64 (cutE o0_0 (cellI o0_1 (Int.toNat t1) (4 : Nat)) (cellI o0_1 (Int.toNat t1) (5 : Nat)) o0_6))]])))
  .fail)
  .fail)
set_option maxRecDepth 100000 in
theorem rnmp0 (n : Nat) (t1 t2 : Int) (o0_0 o0_1 o0_2 o0_3 o0_4 o0_5 : List (List D)) (o0_6 : Int) : exec er1 (n + 51) (144, Try.f144, 1) rnmk0 (rnms0 t1 t2 o0_0 o0_1 o0_2 o0_3 o0_4 o0_5 o0_6) = Tr.val er1 (144, Try.f144, 1) n (rnmt0 t1 t2 o0_0 o0_1 o0_2 o0_3 o0_4 o0_5 o0_6) := by kernel_rfl
noncomputable def bcnk0 : List T := [.code (sub (bodyOf Try.f43) [])]
def bcns0  : St := ⟨[(0, .val nilSlice)], []⟩
noncomputable def bcnt0  : Tr := (.ret (.val nilSlice, []))
set_option maxRecDepth 100000 in
theorem bcnp0 (n : Nat)  : exec eq7 (n + 16) (43, Try.f43, 0) bcnk0 (bcns0 ) = Tr.val eq7 (43, Try.f43, 0) n (bcnt0 ) := by kernel_rfl
noncomputable def bcsk0 : List T := [.code (sub (bodyOf Try.f43) [])]
def bcss0 (p : Addr) (c : Nat) : St := ⟨[(0, .val (Value.slice (some p) (0 : Nat) c))], []⟩
noncomputable def bcst0  : Tr := (.ret (.own u8s ([]), []))
set_option maxRecDepth 100000 in
theorem bcsp0 (n : Nat) (p : Addr) (c : Nat) : exec eq7 (n + 20) (43, Try.f43, 0) bcsk0 (bcss0 p c) = Tr.val eq7 (43, Try.f43, 0) n (bcst0 ) := by kernel_rfl
end Go.Proofs.Ytkcopbnaleiocaa.Ev
namespace Go.Proofs.Ytkcopbnaleiocaa.Ev
open Go
set_option linter.unusedVariables false
set_option linter.unusedSimpArgs false
theorem bytesIn_cell {xs : List (List D)} (h : bytesIn xs = true) {i : Nat} (hi : i < xs.length) : 0 ≤ cellI xs i 0 ∧ cellI xs i 0 < 256 := by
  have := List.all_eq_true.1 h (xs[i]'hi) (List.getElem_mem hi)
  simp only [Bool.and_eq_true, decide_eq_true_eq] at this
  have e : xs.getD i [] = xs[i]'hi := by rw [List.getD_eq_getElem?_getD, List.getElem?_eq_getElem hi]; rfl
  rw [cellI, e]
  exact this
theorem pGet_ok {xs : List (List D)} (h : bytesIn xs = true) (hl : xs.length ≤ 140737488351232) (a k : Int) : pGet [.arr [.int .u8] xs, .val (.int .i64 a), .val (.int .i64 k)] = true := by
  show (bytesIn xs && decide (xs.length ≤ 140737488351232)) = true
  rw [h, decT hl]; rfl
theorem con_syr : ∀ vs v, pB1 vs = true → gSymR vs = some v → Contract Try.prog 109 vs [] (v, []) := by
  intro vs v hp h
  unfold gSymR at h
  split at h <;> cases h
  rename_i x
  have hp : bytesIn x = true := hp
  refine el_con lc7_ok Try.func109 (by kernel_rfl) (by kernel_rfl) rfl (by kernel_rfl) (by kernel_rfl) (Runs.of (fun q => syrp0 q x) ?_)
  unfold syrt0
  have bad : ∀ e : Int, e ≠ 0 → symRe x = e → Is (.tup [.agg [.val (.string .empty), .val (.int .u8 (okI (symRe x) (symRb x))), .val (.bool (okT (symRe x) (symRh x))), .val (.int .i64 (okI (symRe x) (symRw x))), .val (.int .i64 (okI (symRe x) (getV x 8 8))), .val (.int .i64 (okI (symRe x) (getV x 16 8)))], .val (.int .i64 (okI (symRe x) (getV x 0 4))), .val (.int .i64 (symRe x))]) (.tup [.agg [.val (.string .empty), .val (.int .u8 0), .val (.bool false), .val (.int .i64 0), .val (.int .i64 0), .val (.int .i64 0)], .val (.int .i64 0), .val (.int .i64 e)], []) := fun e he h => is_refl (by
    rw [h]; simp only [okI, okT, if_neg he, decF he, Bool.false_and])
  refine ask (fun h => bad 3 (by omega) ?_) (fun h => ?_)
  · have h : (x.length : Int) ≠ 24 := by simpa [bne] using h
    rw [symRe, if_pos (by omega)]
  have hl : x.length = 24 := by
    have : (x.length : Int) = 24 := by simpa [bne] using h
    omega
  have hg := fun a k => pGet_ok hp (by omega) a k
  have hb := bytesIn_cell hp (i := 4) (by omega)
  have c0 : symRe x = if symWE sX (symRb x) (symRh x) (symRw x) (getV x 8 8) (getV x 16 8) (getV x 0 4) ≠ 0 then 8 else if sameB (if symWok sX (symRb x) (symRh x) (symRw x) (getV x 8 8) (getV x 16 8) (getV x 0 4) = true then symB (getV x 0 4) (symRb x) (symRh x) (symRw x) (getV x 8 8) (getV x 16 8) else []) x = true then 0 else 8 := by
    rw [symRe, if_neg (by omega)]
  have hp4 : 0 ≤ Int.fdiv (cellI x 4 0) 16 := by rw [Int.fdiv_eq_ediv_of_nonneg _ (by omega)]; omega
  have fin : ∀ w : Int, symRw x = w → Tr.prop eq7 (109, Try.f109, 0) (Is (.tup [.agg [.val (.string .empty), .val (.int .u8 (okI (symRe x) (symRb x))), .val (.bool (okT (symRe x) (symRh x))), .val (.int .i64 (okI (symRe x) (symRw x))), .val (.int .i64 (okI (symRe x) (getV x 8 8))), .val (.int .i64 (okI (symRe x) (getV x 16 8)))], .val (.int .i64 (okI (symRe x) (getV x 0 4))), .val (.int .i64 (symRe x))]))
      (.ask (symWE sX (symRb x) (symRh x) w (getV x 8 8) (getV x 16 8) (getV x 0 4) != 0) (.ret (.tup [.agg [.val (.string .empty), .val (.int .u8 0), .val (.bool false), .val (.int .i64 0), .val (.int .i64 0), .val (.int .i64 0)], .val (.int .i64 0), .val (.int .i64 8)], []))
        (.ask (!sameB (if symWok sX (symRb x) (symRh x) w (getV x 8 8) (getV x 16 8) (getV x 0 4) = true then symB (getV x 0 4) (symRb x) (symRh x) w (getV x 8 8) (getV x 16 8) else []) x) (.ret (.tup [.agg [.val (.string .empty), .val (.int .u8 0), .val (.bool false), .val (.int .i64 0), .val (.int .i64 0), .val (.int .i64 0)], .val (.int .i64 0), .val (.int .i64 8)], []))
          (.ret (.tup [.agg [.val (.string .empty), .val (.int .u8 (symRb x)), .val (.bool (symRh x)), .val (.int .i64 w), .val (.int .i64 (getV x 8 8)), .val (.int .i64 (getV x 16 8))], .val (.int .i64 (getV x 0 4)), .val (.int .i64 0)], [])))) := by
    intro w ew
    subst ew
    refine ask (fun h1 => bad 8 (by omega) ?_) (fun h1 => ask (fun h2 => bad 8 (by omega) ?_) (fun h2 => ?_))
    · rw [c0, if_pos (bne_iff_ne.1 h1)]
    · rw [c0, if_neg (by simpa [bne] using h1), if_neg (by rw [notT h2]; simp)]
    · have e0 : symRe x = 0 := by rw [c0, if_neg (by simpa [bne] using h1), if_pos (notF h2)]
      rw [e0]
      refine is_refl ?_
      simp only [okI, okT, if_true, decide_true, Bool.true_and]
  refine askT (hg _ _) (askT (decT (by omega)) (askT (decT (by omega)) (askT (hg _ _) (ask (fun hw => ?_) (fun hw => ?_)))))
  · have ew : symRw x = IntKind.wrap .i64 (65520 - getV x 6 2) := by rw [symRw, if_pos (of_decide_eq_true hw)]
    exact askT (hg _ _) (askT (hg _ _) (askT (show decide (0 ≤ Int.fdiv (cellI x 4 0) 16) = true from decT hp4) (fin _ ew)))
  · have ew : symRw x = getV x 6 2 := by rw [symRw, if_neg (of_decide_eq_false hw)]
    exact askT (hg _ _) (askT (hg _ _) (askT (show decide (0 ≤ Int.fdiv (cellI x 4 0) 16) = true from decT hp4) (fin _ ew)))
theorem con_rlr : ∀ vs v, pB1 vs = true → gRelR vs = some v → Contract Try.prog 145 vs [] (v, []) := by
  intro vs v hp h
  unfold gRelR at h
  split at h <;> cases h
  rename_i x
  have hp : bytesIn x = true := hp
  refine el_con lc7_ok Try.func145 (by kernel_rfl) (by kernel_rfl) rfl (by kernel_rfl) (by kernel_rfl) (Runs.of (fun q => rlrp0 q x) ?_)
  unfold rlrt0
  have bad : ∀ e : Int, e ≠ 0 → relRe x = e → Is (.tup [.agg [.val (.int .i64 0), .val (.int .i64 (okI (relRe x) (getV x 0 8))), .val (.int .u8 (okI (relRe x) (relRk x))), .val (.int .i64 (okI (relRe x) (relRc x))), .val (.int .i64 (okI (relRe x) (getV x 16 8)))], .val (.int .i64 (relRe x))]) (.tup [.agg [.val (.int .i64 0), .val (.int .i64 0), .val (.int .u8 0), .val (.int .i64 0), .val (.int .i64 0)], .val (.int .i64 e)], []) := fun e he h => is_refl (by
    rw [h]; simp only [okI, if_neg he])
  refine ask (fun h => bad 3 (by omega) ?_) (fun h => ?_)
  · have h : (x.length : Int) ≠ 24 := by simpa [bne] using h
    rw [relRe, if_pos (by omega)]
  have hl : x.length = 24 := by
    have : (x.length : Int) = 24 := by simpa [bne] using h
    omega
  have hg := fun a k => pGet_ok hp (by omega) a k
  have c0 : relRe x = if relWok (getV x 0 8) (relRk x) (relRc x) (getV x 16 8) = true then (if sameB (relB (getV x 0 8) (relRk x) (relRc x) (getV x 16 8)) x = true then 0 else 8) else 8 := by
    rw [relRe, if_neg (by omega)]
  refine askT (hg _ _) (askT (hg _ _) (askT (hg _ _) (askT (hg _ _) ?_)))
  cases hk : relWok (getV x 0 8) (relRk x) (relRc x) (getV x 16 8) with
  | false =>
    have hk' : relWok (getV x 0 8) (IntKind.wrap .u8 (getV x 8 4)) (IntKind.wrap .i64 (getV x 12 4 - 1)) (getV x 16 8) = false := hk
    refine askT (by rw [hk']; rfl) (bad 8 (by omega) ?_)
    rw [c0, hk]; rfl
  | true =>
    have hk' : relWok (getV x 0 8) (IntKind.wrap .u8 (getV x 8 4)) (IntKind.wrap .i64 (getV x 12 4 - 1)) (getV x 16 8) = true := hk
    rw [hk, if_pos rfl] at c0
    refine askF (by rw [hk']; rfl) ?_
    rw [hk', if_pos rfl]
    refine ask (fun h2 => bad 8 (by omega) ?_) (fun h2 => ?_)
    · have h2 : (!sameB (relB (getV x 0 8) (relRk x) (relRc x) (getV x 16 8)) x) = true := h2
      rw [c0, if_neg (by rw [notT h2]; simp)]
    · have h2 : (!sameB (relB (getV x 0 8) (relRk x) (relRc x) (getV x 16 8)) x) = false := h2
      have e0 : relRe x = 0 := by rw [c0, if_pos (notF h2)]
      rw [e0]
      exact is_refl rfl
theorem con_bcl : ∀ vs v, pBcl vs = true → gBcl vs = some v → Contract Try.prog 43 vs [] (v, []) := by
  intro vs v hp h
  unfold gBcl at h
  split at h <;> cases h
  rename_i x
  simp only [pBcl, decide_eq_true_eq] at hp
  by_cases h0 : x.length = 0
  · have : x = [] := List.eq_nil_of_length_eq_zero h0
    subst this
    refine contract_empty ?_ (fun p c => ?_)
    · refine el_con lc7_ok Try.func43 (by kernel_rfl) (by kernel_rfl) rfl (by kernel_rfl) (by kernel_rfl) (Runs.of (fun q => bcnp0 q) ?_)
      unfold bcnt0
      exact is_one (.one (.nilOwn _))
    · refine el_con lc7_ok Try.func43 (by kernel_rfl) (by kernel_rfl) rfl (by kernel_rfl) (by kernel_rfl) (Runs.of (fun q => bcsp0 q p c) ?_)
      unfold bcst0
      exact is_refl rfl
  · refine el_con lc7_ok Try.func43 (by kernel_rfl) (by kernel_rfl) rfl (by kernel_rfl) (by kernel_rfl) (Runs.of (fun q => bclp0 q x) ?_)
    unfold bclt0
    exact askT (decT (by omega)) (askT (andT (decT (by omega)) (decT (by omega))) (is_refl rfl))
theorem con_beq : ∀ vs v, gBeq vs = some v → Contract Try.prog 46 vs [] (v, []) := by
  intro vs v h
  unfold gBeq at h
  split at h <;> cases h
  rename_i x y
  exact el_con lc7_ok Try.func46 (by kernel_rfl) (by kernel_rfl) rfl (by kernel_rfl) (by kernel_rfl) (Runs.of (fun q => beqp0 q x y) (is_refl rfl))
theorem rdOf_eq {os : List V} {r : Rd} (h : rdOf os = some r) : os = r.cells := by
  unfold rdOf at h
  split at h
  · split at h
    · rename_i hc
      cases h
      simp only [Bool.and_eq_true] at hc
      obtain ⟨⟨⟨⟨⟨h0, h1⟩, h2⟩, h3⟩, h4⟩, h5⟩ := hc
      rw [sameCTs_eq _ _ h0, sameCTs_eq _ _ h1, sameCTs_eq _ _ h2, sameCTs_eq _ _ h3, sameCTs_eq _ _ h4, sameCTs_eq _ _ h5]; rfl
    · cases h
  · cases h
theorem con_num : ∀ vs os r, pNum vs os = true → gNum vs os = some r → Contract Try.prog 142 vs [os] (r.1, [setAll os r.2]) := by
  intro vs os r hp h
  unfold gNum at h
  split at h
  · rename_i x a k
    split at h
    · rename_i d hd
      cases h
      have := rdOf_eq hd
      subst this
      simp only [pNum, Bool.and_eq_true, decide_eq_true_eq] at hp
      refine el_conO lc7_ok Try.func142 (by kernel_rfl) (by kernel_rfl) rfl (by kernel_rfl) (by kernel_rfl) (Runs.of (fun q => nump0 q x a k d.b d.h d.s d.y d.l d.g d.e) ?_)
      unfold numt0
      refine askT (pGet_ok hp.1 (by omega) a k) (ask (fun h => ask (fun h2 => ⟨.one (.one (.refl _)), ?_⟩) (fun h2 => ⟨.one (.one (.refl _)), ?_⟩)) (fun h => ⟨.one (.one (.refl _)), ?_⟩))
      · have h : getE x a k ≠ 0 := by simpa [bne] using h
        rw [numE, if_pos h, if_pos (beq_iff_eq.1 h2)]; rfl
      · have h : getE x a k ≠ 0 := by simpa [bne] using h
        rw [numE, if_pos h, if_neg (beq_eq_false_iff_ne.1 h2)]; rfl
      · have h : ¬ getE x a k ≠ 0 := by simpa [bne] using h
        rw [numE, if_neg h]; rfl
    · cases h
  · cases h
theorem con_rct : ∀ vs os r, pCut vs os = true → gCut3 vs os = some r → Contract Try.prog 143 vs [os] (r.1, [setAll os r.2]) := by
  intro vs os r hp h
  unfold gCut3 at h
  split at h
  · rename_i a n
    split at h
    · rename_i d hd
      cases h
      have hp : d.b.length ≤ 1048576 := by simpa [pCut, hd] using hp
      have := rdOf_eq hd
      subst this
      refine el_conO lc7_ok Try.func143 (by kernel_rfl) (by kernel_rfl) rfl (by kernel_rfl) (by kernel_rfl) (Runs.of (fun q => rctp0 q a n d.b d.h d.s d.y d.l d.g d.e) ?_)
      unfold rctt0
      have bad : cutOk d.b a n d.e = false → Relax (.val nilSlice) (.arr u8s (cutV d.b a n d.e)) ∧ ([[.arr u8s d.b, .own hdC d.h, .own secC d.s, .own symC d.y, .own relC d.l, .own grpC d.g, .val (.int .i64 8)]] : List (List V)) = [setAll d.cells [(6, .val (.int .i64 (cutE d.b a n d.e)))]] := fun h => by
        rw [cutV, cutE, h]
        exact ⟨.one (rx_nil rfl), rfl⟩
      refine ask (fun h => bad ?_) (fun h1 => ask (fun h => bad ?_) (fun h2 => ask (fun h => bad ?_) (fun h3 => ask (fun h => bad ?_) (fun h4 => ask (fun h => bad ?_) (fun h5 => ?_)))))
      · have h : d.e ≠ 0 := by simpa [bne] using h
        simp [cutOk, h]
      · have h := of_decide_eq_true h
        rw [cutOk, decF (p := 0 ≤ a) (by omega)]; simp
      · have h := of_decide_eq_true h
        rw [cutOk, decF (p := 0 ≤ n) (by omega)]; simp
      · have h := of_decide_eq_true h
        rw [cutOk, decF (p := a ≤ d.b.length) (by omega)]; simp
      · have h := of_decide_eq_true h
        have h4 := of_decide_eq_false h4
        have h2 := of_decide_eq_false h2
        rw [wrap64 (by omega) (by omega)] at h
        rw [cutOk, decF (p := n ≤ d.b.length - a) (by omega)]; simp
      have h1 : d.e = 0 := by simpa [bne] using h1
      have h2 := of_decide_eq_false h2
      have h3 := of_decide_eq_false h3
      have h4 := of_decide_eq_false h4
      have h5 := of_decide_eq_false h5
      rw [wrap64 (n := (d.b.length : Int) - a) (by omega) (by omega)] at h5
      have ok : cutOk d.b a n d.e = true := by
        rw [cutOk, decT h1, decT (p := 0 ≤ a) (by omega), decT (p := 0 ≤ n) (by omega), decT (p := a ≤ d.b.length) (by omega), decT (p := n ≤ d.b.length - a) (by omega)]; rfl
      have ew : IntKind.wrap .i64 (a + n) = a + n := wrap64 (by omega) (by omega)
      rw [ew]
      refine askT (andT (okB (by omega) (by omega) (by omega)) (decT (by omega))) ?_
      rw [cutV, cutE, ok]
      exact ⟨.one (.one (.refl _)), rfl⟩
    · cases h
  · cases h
theorem le1_ok : ExtAll Try.prog le1 := .normP con_syr (.normP con_rlr (.normP con_bcl (.norm con_beq (.tch con_num (.tch con_rct lc7_ok)))))
theorem con_bhp : ∀ vs v, gBhp vs = some v → Contract Try.prog 94 vs [] (v, []) := by
  intro vs v h
  unfold gBhp at h
  split at h <;> cases h
  rename_i x y
  refine el_con le1_ok Try.func94 (by kernel_rfl) (by kernel_rfl) rfl (by kernel_rfl) (by kernel_rfl) (Runs.of (fun q => bhpp0 q x y) ?_)
  unfold bhpt0
  refine ask (fun h => ?_) (fun h => is_refl ?_)
  · have h := of_decide_eq_true h
    refine askT (okB (by omega) (by omega) (by omega)) (is_refl ?_)
    rw [cut0, hasPB, decT (p := y.length ≤ x.length) (by omega), Bool.true_and]
  · have h := of_decide_eq_false h
    rw [hasPB, decF (p := y.length ≤ x.length) (by omega), Bool.false_and]
theorem con_rnm : ∀ vs os r, pName vs os = true → gName vs os = some r → Contract Try.prog 144 vs [os] (r.1, [setAll os r.2]) := by
  intro vs os r hp h
  unfold gName at h
  split at h
  · rename_i i a
    split at h
    · rename_i d hd
      cases h
      simp only [pName, hd, Bool.and_eq_true, decide_eq_true_eq] at hp
      obtain ⟨⟨p1, p2⟩, p3⟩ := hp
      have hpc : pCut [] d.cells = true := by
        have := rdOf_eq hd
        rw [← this]
        simp only [pCut, hd]
        exact decT p1
      have := rdOf_eq hd
      subst this
      refine el_conO le1_ok Try.func144 (by kernel_rfl) (by kernel_rfl) rfl (by kernel_rfl) (by kernel_rfl) (Runs.of (fun q => rnmp0 q i a d.b d.h d.s d.y d.l d.g d.e) ?_)
      unfold rnmt0
      refine askT (andT (decT p2) (decT p3)) (askT hpc (ask (fun h => ⟨.one (.one (.refl _)), ?_⟩) (fun h => ⟨.one (.one (.refl _)), ?_⟩)))
      · have h : getSE (cutV d.b (cellI d.h i.toNat 4) (cellI d.h i.toNat 5) d.e) a ≠ 0 := by simpa [bne] using h
        rw [nameE, if_pos h]; rfl
      · have h : ¬ getSE (cutV d.b (cellI d.h i.toNat 4) (cellI d.h i.toNat 5) d.e) a ≠ 0 := by simpa [bne] using h
        rw [nameE, if_neg h]; rfl
    · cases h
  · cases h
theorem le2_ok : ExtAll Try.prog le2 := .norm con_bhp (.tch con_rnm le1_ok)
end Go.Proofs.Ytkcopbnaleiocaa.Ev
namespace Go.Proofs.Ytkcopbnaleiocaa.Ev
open Go
set_option linter.unusedVariables false
def allX (b : List (List D)) (place : Int) (i : Nat) (e : Int) : List (List D) := cutV b (IntKind.wrap .i64 (place + IntKind.wrap .i64 ((i : Int) * 64))) 64 e
def allOne (place : Int) (i : Nat) (r : Rd) : Rd := { r with h := r.h ++ [(hdRV (allX r.b place i r.e)).row], e := if hdRE (allX r.b place i r.e) ≠ 0 then 8 else cutE r.b (IntKind.wrap .i64 (place + IntKind.wrap .i64 ((i : Int) * 64))) 64 r.e }
def allGo (place : Int) : Nat → Nat → Rd → Rd
  | 0, _, r => r
  | d + 1, i, r => if r.e = 0 then allGo place d (i + 1) (allOne place i r) else r
def allE (b : List (List D)) (e : Int) : Int := if getV b 60 2 < 4 then 8 else if getV b 60 2 > 100 then 8 else numE b 60 2 (numE b 40 8 e)
def allF (r : Rd) : Rd := allGo (getV r.b 40 8) (getV r.b 60 2).toNat 0 { r with e := allE r.b r.e }
def pAll : List V → List V → Bool
  | _, os => match rdOf os with
    | some r => bytesIn r.b && decide (r.b.length ≤ 1048576) && decide (r.h.length ≤ 1024)
    | none => true
def gAll : List V → List V → Option (V × List V)
  | [.ptr (.out 0) 0], os => match rdOf os with
    | some r => some (.tup [], (allF r).cells)
    | none => none
  | _, _ => none
noncomputable def le3 : List (Nat × ExtF) := (92, exB [] rdC pAll gAll) :: le2
noncomputable def es3 : Info := infoL Try.prog le3 ent keepOf
end Go.Proofs.Ytkcopbnaleiocaa.Ev
