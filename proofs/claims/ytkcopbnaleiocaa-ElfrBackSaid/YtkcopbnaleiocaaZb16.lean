/- A part of the proof: what the statement needs, and nothing else. -/
import Derived.Test.YtkcopbnaleiocaaZb15
namespace Go.Proofs.Ytkcopbnaleiocaa.Ev
open Go
set_option linter.unusedVariables false
set_option linter.unusedSimpArgs false
theorem con_inn : ∀ vs v, gInn vs = some v → Contract Try.prog 114 vs [] (v, []) := by
  intro vs v h
  unfold gInn at h
  split at h <;> cases h
  rename_i n a b
  refine el_con la6_ok Try.func114 (by kernel_rfl) (by kernel_rfl) rfl (by kernel_rfl) (by kernel_rfl) (Runs.of (fun m => innp0 m n a b) ?_)
  unfold innt0
  refine ask (fun h => is_refl ?_) (fun h => is_refl ?_)
  · have h : decide (a ≤ n) = true := h
    rw [inB, h, Bool.true_and]
  · have h : decide (a ≤ n) = false := h
    rw [inB, h, Bool.false_and]
theorem byteAt_get (s : ByteArray) (i : Nat) (hi : i < s.size) : byteAt s (i : Int) = ((s[i]'hi).toNat : Int) ∧ s.data.toList[i]? = some (s[i]'hi) := by
  have hsz : s.data.toList.length = s.size := by simp
  have hg : s.data.toList[i]? = some (s[i]'hi) := by rw [List.getElem?_eq_getElem (by omega)]; rfl
  refine ⟨?_, hg⟩
  unfold byteAt
  rw [List.getD_eq_getElem?_getD, Int.toNat_natCast, hg]
  rfl
theorem runs_nam (s : ByteArray) (h0 : 0 < s.size) (h1 : s.size ≤ 32) : ∀ (d i : Nat), d + i = s.size → (∀ j, j < i → ∀ b, s.data.toList[j]? = some b → okCh b = true) → Runs el6 (115, Try.f115, 0) namk1 (nams1 s (s.size : Nat) (i : Nat)) (Is (.val (.bool (namedB s)))) := by
  intro d
  induction d with
  | zero =>
    intro i hi hall
    refine Runs.of (fun m => namp1 m s _ _) ?_
    unfold namt1
    refine askF (decF (by omega)) (is_refl ?_)
    have : graph s = true := List.all_eq_true.2 fun b hb => by
      obtain ⟨j, hj, rfl⟩ := List.getElem_of_mem hb
      have hsz : s.data.toList.length = s.size := by simp
      exact hall j (by omega) _ (List.getElem?_eq_getElem hj)
    rw [namedB, decT h0, decT h1, this]; rfl
  | succ d ih =>
    intro i hi hall
    have hlt : i < s.size := by omega
    obtain ⟨hb, hg⟩ := byteAt_get s i hlt
    refine Runs.of (fun m => namp1 m s _ _) ?_
    unfold namt1
    rw [hb]
    have bad : okCh (s[i]'hlt) = false → (V.val (.bool false)) = V.val (.bool (namedB s)) := fun h => by
      have : graph s = false := by
        rw [Bool.eq_false_iff]
        intro ha
        have := List.all_eq_true.1 ha _ (List.mem_of_getElem? hg)
        rw [this] at h; cases h
      rw [namedB, this, Bool.and_false]
    refine askT (decT (by omega)) (askT (andT (decT (by omega)) (decT (by omega))) (ask (fun h => is_refl (bad ?_)) (fun h2 => ask (fun h => is_refl (bad ?_)) (fun h3 => ?_))))
    · simp only [decide_eq_true_eq] at h; simp [okCh]; omega
    · simp only [decide_eq_true_eq] at h; simp [okCh]; omega
    · simp only [decide_eq_false_iff_not] at h2 h3
      have hw : IntKind.wrap IntKind.i64 ((i : Int) + 1) = ((i + 1 : Nat) : Int) := by rw [wrap64 (by omega) (by omega)]; omega
      show Runs _ _ _ (nams1 _ _ _) _
      rw [hw]
      refine ih (i + 1) (by omega) fun j hj b h => ?_
      by_cases e : j = i
      · subst e; rw [hg] at h; cases h; simp [okCh]; omega
      · exact hall j (by omega) b h
theorem con_nam : ∀ vs v, gNamed vs = some v → Contract Try.prog 115 vs [] (v, []) := by
  intro vs v h
  unfold gNamed at h
  split at h <;> cases h
  rename_i s
  refine el_con la6_ok Try.func115 (by kernel_rfl) (by kernel_rfl) rfl (by kernel_rfl) (by kernel_rfl) (Runs.of (fun m => namp0 m s) ?_)
  unfold namt0
  refine ask (fun h => is_refl ?_) (fun h0 => ask (fun h => is_refl ?_) (fun h1 => ?_))
  · rw [bytes_eq, decide_eq_true_eq] at h; subst h; rfl
  · simp only [decide_eq_true_eq] at h; rw [namedB, decF (p := s.size ≤ 32) (by omega), Bool.and_false, Bool.false_and]
  · simp only [decide_eq_false_iff_not] at h1
    rw [bytes_eq, decide_eq_false_iff_not] at h0
    refine runs_nam s ?_ (by omega) s.size 0 (by omega) (fun j hj => by omega)
    rcases Nat.eq_zero_or_pos s.size with h | h
    · exact absurd (ByteArray.ext (Array.eq_empty_of_size_eq_zero h)) h0
    · exact h
theorem con_fie : ∀ vs v, gField vs = some v → Contract Try.prog 184 vs [] (v, []) := by
  intro vs v h
  unfold gField at h
  split at h <;> cases h
  rename_i k
  refine el_con la6_ok Try.func184 (by kernel_rfl) (by kernel_rfl) rfl (by kernel_rfl) (by kernel_rfl) (Runs.of (fun m => fiep0 m k) ?_)
  unfold fiet0
  have lit : ∀ a b c : Int, k = a → fieldN a = b → fieldE a = c → Is (.tup [.val (.int .i64 (fieldN k)), .val (.int .i64 (fieldE k))]) (.tup [.val (.int .i64 b), .val (.int .i64 c)], []) := fun a b c h1 h2 h3 => is_refl (by rw [h1, h2, h3])
  iterate 23 refine ask (fun h => lit _ _ _ (beq_iff_eq.1 h) (by decide) (by decide)) (fun h => ?_)
  simp only [beq_eq_false_iff_ne] at *
  have e : fieldN k = 0 := by simp only [fieldN, *, false_or, if_false]
  refine is_refl ?_
  rw [fieldE, e, if_pos ⟨rfl, by assumption, by assumption⟩]
def Tr.okB : Tr → Option Bool
  | .ret (.val (.bool b), []) => some b
  | .ask true t _ => t.okB
  | .ask false _ f => f.okB
  | _ => none
theorem Tr.okB_prop {I : Info} {fn : Nat × Func × Nat} {b : Bool} : ∀ {t : Tr}, t.okB = some b → t.prop I fn (Is (.val (.bool b)))
  | .ret (.val (.bool _), []), h => by cases h; exact is_refl rfl
  | .ask true t f, h => askT rfl (Tr.okB_prop (t := t) h)
  | .ask false t f, h => askF rfl (Tr.okB_prop (t := f) h)
  | .fail, h => by cases h
  | .go _ _ _, h => by cases h
theorem hsT_all : ∀ k : Fin 256, ((hsTt0 2260595906707456 (k.1 : Int)).okB = some (hasB 2260595906707456 (k.1 : Int)) ∧ (hsTt0 2251799864016896 (k.1 : Int)).okB = some (hasB 2251799864016896 (k.1 : Int))) ∧ (hsTt0 2190433320966 (k.1 : Int)).okB = some (hasB 2190433320966 (k.1 : Int)) := by decide +kernel
theorem con_hsT : ∀ vs v, pHasT vs = true → gHasT vs = some v → Contract Try.prog 185 vs [] (v, []) := by
  intro vs v hp h
  unfold gHasT at h
  split at h <;> cases h
  rename_i s k
  simp only [pHasT, Bool.and_eq_true, decide_eq_true_eq, Bool.or_eq_true, beq_iff_eq] at hp
  obtain ⟨⟨hs, h0⟩, h1⟩ := hp
  obtain ⟨k, rfl⟩ := Int.eq_ofNat_of_zero_le h0
  refine el_con la6_ok Try.func185 (by kernel_rfl) (by kernel_rfl) rfl (by kernel_rfl) (by kernel_rfl) (Runs.of (fun m => hsTp0 m s _) ?_)
  have := hsT_all ⟨k, by omega⟩
  rcases hs with (rfl | rfl) | rfl
  · exact Tr.okB_prop this.1.1
  · exact Tr.okB_prop this.1.2
  · exact Tr.okB_prop this.2
theorem con_ixS : ∀ vs v, gIxS vs = some v → Contract Try.prog 166 vs [] (v, []) := by
  intro vs v h
  unfold gIxS at h
  split at h <;> cases h
  rename_i s c
  exact el_con la6_ok Try.func166 (by kernel_rfl) (by kernel_rfl) rfl (by kernel_rfl) (by kernel_rfl) (Runs.of (fun m => ixSp0 m s c) (is_refl rfl))
theorem con_ixB : ∀ vs v, gIxB vs = some v → Contract Try.prog 150 vs [] (v, []) := by
  intro vs v h
  unfold gIxB at h
  split at h <;> cases h
  rename_i xs c
  exact el_con la6_ok Try.func150 (by kernel_rfl) (by kernel_rfl) rfl (by kernel_rfl) (by kernel_rfl) (Runs.of (fun m => ixBp0 m xs c) (is_refl rfl))
theorem con_chk : ∀ vs v, gChk vs = some v → Contract Try.prog 149 vs [] (v, []) := by
  intro vs v h
  unfold gChk at h
  split at h <;> cases h
  rename_i xs
  refine el_con la6_ok Try.func149 (by kernel_rfl) (by kernel_rfl) rfl (by kernel_rfl) (by kernel_rfl) (Runs.of (fun m => chkp0 m xs) ?_)
  unfold chkt0
  have bad : (xs.length = 0 ∨ 65536 < xs.length ∨ cellI xs 0 0 ≠ 0 ∨ cellI xs (xs.length - 1) 0 ≠ 0) → V.val (.int .i64 8) = V.val (.int .i64 (chkR xs)) := fun h => by rw [chkR, if_pos h]
  refine ask (fun h => is_refl (bad (.inl (by simpa using h)))) (fun h0 => ?_)
  refine ask (fun h => is_refl (bad (.inr (.inl (by simp at h; omega))))) (fun h1 => ?_)
  simp only [beq_eq_false_iff_ne, decide_eq_false_iff_not] at h0 h1
  refine askT (decT (by omega)) ?_
  refine ask (fun h => is_refl (bad (.inr (.inr (.inl (by simpa using h)))))) (fun h2 => ?_)
  have hw : IntKind.wrap .i64 ((xs.length : Int) - 1) = ((xs.length - 1 : Nat) : Int) := by rw [wrap64 (by omega) (by omega)]; omega
  rw [hw]
  refine askT (andT (decT (by omega)) (decT (by omega))) ?_
  rw [Int.toNat_natCast]
  refine ask (fun h => is_refl (bad (.inr (.inr (.inr (by simpa using h)))))) (fun h3 => is_refl ?_)
  simp only [bne_eq_false_iff_eq] at h2 h3
  rw [chkR, if_neg (by rintro (h | h | h | h); omega; omega; exact h h2; exact h h3)]
theorem numsB_drop (k : Int) (l : List (List D)) (i : Nat) (hi : i < l.length) : numsB k (l.drop i) = putB (cellI l i 0) k ++ numsB k (l.drop (i + 1)) := by
  rw [List.drop_eq_getElem_cons hi]
  simp only [numsB, List.map_cons, List.flatten_cons, cellI, List.getD_eq_getElem?_getD, List.getElem?_eq_getElem hi, Option.getD_some]
theorem putB_le8 (n k : Int) : (putB n k).length ≤ 8 := by
  unfold putB
  split
  · rename_i h
    have : siz k = true := by simp only [putOk, Bool.and_eq_true] at h; exact h.1
    rcases siz_cases this with rfl | rfl | rfl | rfl <;> simp [leB]
  · simp
theorem runs_nms (k : Int) (l : List (List D)) (hl : l.length ≤ 1048576) : ∀ (d i : Nat) (xs : List (List D)), d + i = l.length → xs.length ≤ 16777216 + 8 * i → Runs el6 (124, Try.f124, 0) nmsk1 (nmss1 xs k l (l.length : Nat) (i : Nat)) (Is (.own u8s (xs ++ numsB k (l.drop i)))) := by
  intro d
  induction d with
  | zero =>
    intro i xs hi hx
    refine Runs.of (fun m => nmsp1 m _ _ _ _ _) ?_
    unfold nmst1
    refine askF (decF (by omega)) (is_refl ?_)
    rw [List.drop_eq_nil_of_le (by omega)]
    simp [numsB]
  | succ d ih =>
    intro i xs hi hx
    have h8 := putB_le8 (cellI l i 0) k
    refine Runs.of (fun m => nmsp1 m _ _ _ _ _) ?_
    unfold nmst1
    rw [Int.toNat_natCast]
    refine askT (decT (by omega)) (askT (andT (decT (by omega)) (decT (by omega))) (askT (andT (decT (by omega)) (decT (by omega))) ?_))
    have hw : IntKind.wrap IntKind.i64 ((i : Int) + 1) = ((i + 1 : Nat) : Int) := by rw [wrap64 (by omega) (by omega)]; omega
    show Runs _ _ _ (nmss1 _ _ _ _ _) _
    rw [hw, numsB_drop k l i (by omega), ← List.append_assoc]
    exact ih (i + 1) _ (by omega) (by rw [List.length_append]; omega)
theorem con_nms : ∀ vs v, pNums vs = true → gNums vs = some v → Contract Try.prog 124 vs [] (v, []) := by
  intro vs v hp h
  unfold gNums at h
  split at h <;> cases h
  · rename_i xs k l
    simp only [pNums, Bool.and_eq_true, decide_eq_true_eq] at hp
    refine el_con la6_ok Try.func124 (by kernel_rfl) (by kernel_rfl) rfl (by kernel_rfl) (by kernel_rfl) (Runs.of (fun m => nmsp0 m xs k l) ?_)
    unfold nmst0
    exact runs_nms k l hp.2 l.length 0 xs (by omega) (by omega)
  · rename_i k l
    simp only [pNums, decide_eq_true_eq] at hp
    refine el_con la6_ok Try.func124 (by kernel_rfl) (by kernel_rfl) rfl (by kernel_rfl) (by kernel_rfl) (Runs.of (fun m => nmnp0 m k l) ?_)
    unfold nmnt0
    refine Runs.of (fun m => nmnp1 m _ _ _ _) ?_
    unfold nmnt1
    by_cases h0 : l.length = 0
    · have : l = [] := List.eq_nil_of_length_eq_zero h0
      refine askF (decF (by omega)) (is_one (rx_nilO ?_))
      rw [this]; rfl
    · have h8 := putB_le8 (cellI l 0 0) k
      refine askT (decT (by omega)) (askT (andT (decT (by omega)) (decT (by omega))) (askT (andT (decT (by show (putB (cellI l 0 0) k).length * 1 ≤ _; omega)) (decT (by show (putB (cellI l 0 0) k).length ≤ _; omega))) ?_))
      have e : numsB k l = putB (cellI l 0 0) k ++ numsB k (l.drop 1) := by simpa using numsB_drop k l 0 (by omega)
      rw [e]
      have same : ∀ (d i : Nat) (xs : List (List D)), d + i = l.length → xs.length ≤ 16777216 + 8 * i → Runs el6 (124, Try.f124, 0) nmnk2 (nmns2 xs k l (l.length : Nat) (i : Nat)) (Is (.own u8s (xs ++ numsB k (l.drop i)))) := runs_nms k l hp
      exact same (l.length - 1) 1 _ (by omega) (by show (putB (cellI l 0 0) k).length ≤ _; omega)
theorem con_sze : ∀ vs v, gSize vs = some v → Contract Try.prog 119 vs [] (v, []) := by
  intro vs v h
  unfold gSize at h
  split at h <;> cases h
  rename_i s a d z
  exact el_con la6_ok Try.func119 (by kernel_rfl) (by kernel_rfl) rfl (by kernel_rfl) (by kernel_rfl) (Runs.of (fun m => szep0 m s a d z) (is_refl rfl))
theorem lb1_ok : ExtAll Try.prog lb1 := .cons con_grow (.norm con_inn (.norm con_nam (.norm con_fie (.normP con_hsT (.norm con_ixS (.norm con_ixB (.norm con_chk (.normP con_nms (.norm con_sze la6_ok)))))))))
theorem catA_take (l : List (List D)) (i : Nat) (hi : i < l.length) : catA (l.take (i + 1)) = catA (l.take i) ++ cellA l i 0 := by
  rw [List.take_add_one, List.getElem?_eq_getElem hi]
  simp only [catA, Option.toList_some, List.map_append, List.map_cons, List.map_nil, List.flatten_append, List.flatten_cons, List.flatten_nil, List.append_nil, cellA, List.getD_eq_getElem?_getD, List.getElem?_eq_getElem hi, Option.getD_some]
theorem catA_split (l : List (List D)) (i : Nat) : catA l = catA (l.take i) ++ catA (l.drop i) := by
  conv => lhs; rw [← List.take_append_drop i l]
  simp only [catA, List.map_append, List.flatten_append]
theorem runs_cat2 (l : List (List D)) (hc : (catA l).length ≤ 4294967296) (hl : l.length ≤ 4294967296) : ∀ (d i : Nat), d + i = l.length → Runs em1 (126, Try.f126, 0) catk2 (cats2 (catA (l.take i)) l (l.length : Nat) (i : Nat)) (Is (.uni u8s (catA l))) := by
  intro d
  induction d with
  | zero =>
    intro i hi
    refine Runs.of (fun m => catp2 m _ _ _ _) ?_
    unfold catt2
    refine askF (decF (by omega)) (is_refl ?_)
    rw [List.take_of_length_le (by omega)]
  | succ d ih =>
    intro i hi
    refine Runs.of (fun m => catp2 m _ _ _ _) ?_
    unfold catt2
    rw [Int.toNat_natCast]
    have e1 := catA_take l i (by omega)
    have e2 := catA_split l (i + 1)
    have e3 : (catA (l.take i)).length + (cellA l i 0).length ≤ 4294967296 := by
      have := congrArg List.length e2
      rw [e1, List.length_append, List.length_append] at this
      omega
    refine askT (decT (by omega)) (askT (andT (decT (by omega)) (decT (by omega))) (askT (andT (decT (by omega)) (decT (by omega))) ?_))
    have hw : IntKind.wrap IntKind.i64 ((i : Int) + 1) = ((i + 1 : Nat) : Int) := by rw [wrap64 (by omega) (by omega)]; omega
    show Runs _ _ _ (cats2 _ _ _ _) _
    rw [hw, ← e1]
    exact ih (i + 1) (by omega)
theorem runs_cat1 (l : List (List D)) (hc : (catA l).length ≤ 4294967296) (hl : l.length ≤ 4294967296) : ∀ (d i : Nat), d + i = l.length → Runs em1 (126, Try.f126, 0) catk1 (cats1 l ((catA (l.take i)).length : Nat) l (l.length : Nat) (i : Nat)) (Is (.uni u8s (catA l))) := by
  intro d
  induction d with
  | zero =>
    intro i hi
    refine Runs.of (fun m => catp1 m _ _ _ _ _) ?_
    unfold catt1
    rw [List.take_of_length_le (by omega)]
    refine askF (decF (by omega)) (askT (show (decide ((0 : Int) ≤ ((catA l).length : Nat)) && decide ((((catA l).length : Nat) : Int) ≤ 70368744177664)) = true from andT (decT (by omega)) (decT (by omega))) ?_)
    have := runs_cat2 l hc hl l.length 0 (by omega)
    rw [List.take_zero] at this
    exact this
  | succ d ih =>
    intro i hi
    refine Runs.of (fun m => catp1 m _ _ _ _ _) ?_
    unfold catt1
    rw [Int.toNat_natCast]
    have e1 := catA_take l i (by omega)
    have e2 := catA_split l (i + 1)
    have e3 : (catA (l.take i)).length + (cellA l i 0).length ≤ 4294967296 := by
      have := congrArg List.length e2
      rw [e1, List.length_append, List.length_append] at this
      omega
    have hs : IntKind.wrap IntKind.i64 (((catA (l.take i)).length : Int) + ((cellA l i 0).length : Int)) = (((catA (l.take (i + 1))).length : Nat) : Int) := by rw [wrap64 (by omega) (by omega), e1, List.length_append]; omega
    rw [hs]
    refine askT (decT (by omega)) (askT (andT (decT (by omega)) (decT (by omega))) (askF (decF (by omega)) ?_))
    have hw : IntKind.wrap IntKind.i64 ((i : Int) + 1) = ((i + 1 : Nat) : Int) := by rw [wrap64 (by omega) (by omega)]; omega
    show Runs _ _ _ (cats1 _ _ _ _ _) _
    rw [hw]
    exact ih (i + 1) (by omega)
theorem con_cat : ∀ vs v, pCat vs = true → gCat vs = some v → Contract Try.prog 126 vs [] (v, []) := by
  intro vs v hp h
  unfold gCat at h
  split at h <;> cases h
  rename_i l
  simp only [pCat, Bool.and_eq_true, decide_eq_true_eq] at hp
  refine el_con lb1_ok Try.func126 (by kernel_rfl) (by kernel_rfl) rfl (by kernel_rfl) (by kernel_rfl) (Runs.of (fun m => catp0 m l) ?_)
  unfold catt0
  exact runs_cat1 l hp.1 hp.2 l.length 0 (by omega)
theorem bss_kind : kindV sBss = 4 := by decide +kernel
theorem secE_bss (v : Int) : (secE sBss v 0 0 == 0) = alignOk v := by
  rw [secE, secOk, bss_kind]
  cases alignOk v <;> rfl
theorem con_sta : ∀ vs v, gStands vs = some v → Contract Try.prog 116 vs [] (v, []) := by
  intro vs v h
  unfold gStands at h
  split at h <;> cases h
  rename_i s b hd w v z n
  refine el_con lb1_ok Try.func116 (by kernel_rfl) (by kernel_rfl) rfl (by kernel_rfl) (by kernel_rfl) (Runs.of (fun m => stap0 m s b hd w v z n) ?_)
  unfold stat0
  rw [show (secE { data := #[46, 98, 115, 115] } v 0 0 == 0) = alignOk v from secE_bss v]
  refine ask (fun h => is_refl ?_) (fun h0 => ?_)
  · simp only [decide_eq_true_eq] at h; rw [standsB, if_pos (.inl (by omega))]
  simp only [decide_eq_false_iff_not] at h0
  have tail : ¬ (2 < b ∨ (hd = true ∧ b = 0)) → Tr.prop em1 (116, Try.f116, 0) (Is (.val (.bool (standsB b hd w v z n)))) (.ask (w == (0 : Int))
      (.ask (!b == (0 : Int)) (.ask (v == (0 : Int)) (.ret (.val (.bool (z == (0 : Int))), [])) (.ret (.val (.bool (false)), []))) (.ret (.val (.bool (false)), [])))
      (.ask (w == (-1 : Int)) (.ask (inB v (-2147483648 : Int) (4294967295 : Int)) (.ret (.val (.bool (z == (0 : Int))), [])) (.ret (.val (.bool (false)), [])))
      (.ask (w == (-2 : Int)) (.ask (alignOk v) (.ask (inB z (1 : Int) (4096 : Int)) (.ret (.val (.bool (b == (1 : Int))), [])) (.ret (.val (.bool (false)), []))) (.ret (.val (.bool (false)), [])))
      (.ask (inB w (1 : Int) n) (.ask (inB v (0 : Int) (4096 : Int)) (.ret (.val (.bool (inB z (0 : Int) (4096 : Int))), [])) (.ret (.val (.bool (false)), []))) (.ret (.val (.bool (false)), [])))))) := by
    intro hn
    have e : standsB b hd w v z n = if w = 0 then !(b == 0) && v == 0 && z == 0 else if w = -1 then inB v (-2147483648) 4294967295 && z == 0 else if w = -2 then alignOk v && inB z 1 4096 && b == 1 else inB w 1 n && inB v 0 4096 && inB z 0 4096 := by rw [standsB, if_neg hn]
    rw [e]
    refine ask (fun h => ?_) (fun h1 => ask (fun h => ?_) (fun h2 => ask (fun h => ?_) (fun h3 => ?_)))
    · rw [if_pos (beq_iff_eq.1 h)]
      refine ask (fun a => ask (fun c => is_refl ?_) (fun c => is_refl ?_)) (fun a => is_refl ?_) <;> simp only [*, Bool.true_and, Bool.false_and, Bool.and_true, Bool.and_false]
    · rw [if_neg (beq_eq_false_iff_ne.1 h1), if_pos (beq_iff_eq.1 h)]
      refine ask (fun a => is_refl ?_) (fun a => is_refl ?_) <;> simp only [*, Bool.true_and, Bool.false_and]
    · rw [if_neg (beq_eq_false_iff_ne.1 h1), if_neg (beq_eq_false_iff_ne.1 h2), if_pos (beq_iff_eq.1 h)]
      refine ask (fun a => ask (fun c => is_refl ?_) (fun c => is_refl ?_)) (fun a => is_refl ?_) <;> simp only [*, Bool.true_and, Bool.false_and, Bool.and_true, Bool.and_false]
    · rw [if_neg (beq_eq_false_iff_ne.1 h1), if_neg (beq_eq_false_iff_ne.1 h2), if_neg (beq_eq_false_iff_ne.1 h3)]
      refine ask (fun a => ask (fun c => is_refl ?_) (fun c => is_refl ?_)) (fun a => is_refl ?_) <;> simp only [*, Bool.true_and, Bool.false_and, Bool.and_true, Bool.and_false]
  refine ask (fun h1 => ask (fun h2 => is_refl ?_) (fun h2 => tail ?_)) (fun h1 => tail ?_)
  · rw [standsB, if_pos (.inr ⟨h1, beq_iff_eq.1 h2⟩)]
  · rintro (h | ⟨_, h⟩)
    · omega
    · exact beq_eq_false_iff_ne.1 h2 h
  · rintro (h | ⟨h, _⟩)
    · omega
    · rw [h1] at h; cases h
theorem con_ixT : ∀ vs v, gIxS vs = some v → Contract Try.prog 125 vs [] (v, []) := by
  intro vs v h
  unfold gIxS at h
  split at h <;> cases h
  rename_i s c
  exact el_con lb1_ok Try.func125 (by kernel_rfl) (by kernel_rfl) rfl (by kernel_rfl) (by kernel_rfl) (Runs.of (fun m => ixTp0 m s c) (is_refl rfl))
theorem rowB_eq (xs : List (List D)) : rowB xs = xs.map fun e => UInt8.ofNat (e.getD 0 default).toInt.toNat := by
  simp only [rowB, Lib.bytesOf, bytesOfRow, List.map_map]
  rfl
theorem rowB_get (xs : List (List D)) (i : Nat) (hi : i < xs.length) : (rowB xs)[i]? = some (UInt8.ofNat (cellI xs i 0).toNat) := by
  rw [rowB_eq, List.getElem?_map, List.getElem?_eq_getElem hi]
  simp [cellI, List.getD_eq_getElem?_getD, List.getElem?_eq_getElem hi]
theorem rowB_cut (xs : List (List D)) (a b : Int) : rowB (cut xs a b) = cut (rowB xs) a b := by
  rw [rowB_eq, rowB_eq]; simp [cut, List.map_take, List.map_drop]
theorem rowB_length (xs : List (List D)) : (rowB xs).length = xs.length := by rw [rowB_eq]; simp
theorem chkR_cases (xs : List (List D)) : chkR xs = 8 ∨ chkR xs = 0 := by unfold chkR; split <;> simp
theorem chkR_ok {xs : List (List D)} (h : chkR xs = 0) : 0 < xs.length ∧ xs.length ≤ 65536 ∧ cellI xs 0 0 = 0 ∧ cellI xs (xs.length - 1) 0 = 0 := by
  unfold chkR at h
  split at h
  · cases h
  · rename_i hh
    simp only [not_or, Classical.not_not] at hh
    exact ⟨by omega, by omega, hh.2.2.1, hh.2.2.2⟩
theorem get_ix {xs : List (List D)} {at_ : Int} (hc : chkR xs = 0) (h0 : 0 ≤ at_) (h1 : at_ < xs.length) : ∃ k : Nat, ixB (rowB (cut xs at_ xs.length)) 0 = (k : Int) ∧ at_ + k < xs.length ∧ (rowB xs)[at_.toNat + k]? = some 0 ∧ ∀ j, j < k → (rowB xs)[at_.toNat + j]? ≠ some 0 := by
  obtain ⟨c1, c2, c3, c4⟩ := chkR_ok hc
  obtain ⟨a, rfl⟩ : ∃ a : Nat, at_ = (a : Int) := ⟨at_.toNat, by omega⟩
  have hl : (rowB xs).length = xs.length := rowB_length xs
  have hm : (0 : UInt8) ∈ cut (rowB xs) (a : Int) (xs.length : Int) := by
    refine List.mem_of_getElem? (i := xs.length - 1 - a) ?_
    rw [cut_get _ _ _ (by omega) _ (by omega), show a + (xs.length - 1 - a) = xs.length - 1 by omega, rowB_get _ _ (by omega), c4]
    rfl
  obtain ⟨k, k1, k2, k3, k4⟩ := ix_found hm
  have hk : (a : Int) + k < xs.length := by
    have := cut_length (xs := rowB xs) (l := (a : Int)) (h := (xs.length : Int)) (by omega) (by omega) (by omega)
    rw [this] at k2
    omega
  refine ⟨k, by rw [rowB_cut]; exact k1, hk, ?_, fun j hj => ?_⟩
  · rw [cut_get _ _ _ (by omega) _ (by omega)] at k3; simpa using k3
  · have := k4 j hj
    rw [cut_get _ _ _ (by omega) _ (by omega)] at this; simpa using this
theorem con_gts : ∀ vs v, gGetS vs = some v → Contract Try.prog 110 vs [] (v, []) := by
  intro vs v h
  unfold gGetS at h
  split at h <;> cases h
  rename_i xs at_
  refine el_con lb1_ok Try.func110 (by kernel_rfl) (by kernel_rfl) rfl (by kernel_rfl) (by kernel_rfl) (Runs.of (fun m => gtsp0 m xs at_) ?_)
  unfold gtst0
  have bad : (chkR xs ≠ 0 ∨ at_ < 0 ∨ (xs.length : Int) ≤ at_) → V.tup [.val (.string { data := #[] }), .val (.int .i64 8)] = V.tup [.val (.string (getS xs at_)), .val (.int .i64 (getSE xs at_))] := fun h => by rw [getS, getSE, if_pos h, if_pos h]; rfl
  refine ask (fun h => is_refl ?_) (fun h1 => ?_)
  · have h' : chkR xs ≠ 0 := by simpa using h
    rcases chkR_cases xs with e | e
    · rw [e]; exact bad (.inl h')
    · exact absurd e h'
  have h1 : chkR xs = 0 := by simpa using h1
  refine ask (fun h => is_refl (bad (.inr (.inl (by simpa using h))))) (fun h2 => ?_)
  refine ask (fun h => is_refl (bad (.inr (.inr (by simpa using h))))) (fun h3 => ?_)
  simp only [decide_eq_false_iff_not] at h2 h3
  obtain ⟨k, k1, k2, -⟩ := get_ix (at_ := at_) h1 (by omega) (by omega)
  obtain ⟨c1, c2, -⟩ := chkR_ok h1
  refine askT (okB (by omega) (by omega) (by omega)) ?_
  have hw : IntKind.wrap IntKind.i64 (at_ + ixB (rowB (cut xs at_ (xs.length : Int))) 0) = at_ + ixB (rowB (cut xs at_ (xs.length : Int))) 0 := by rw [k1]; exact wrap64 (by omega) (by omega)
  have hb : okBounds at_ (at_ + ixB (rowB (cut xs at_ (xs.length : Int))) 0) (xs.length : Int) = true := by rw [k1]; exact okB (by omega) (by omega) (by omega)
  rw [hw]
  refine askT hb (is_refl ?_)
  rw [getS, getSE, if_neg, if_neg] <;> simp only [not_or, Classical.not_not] <;> exact ⟨h1, h2, by omega⟩
theorem lb2_ok : ExtAll Try.prog lb2 := .normP con_cat (.norm con_sta (.norm con_ixT (.norm con_gts lb1_ok)))
theorem padN_eq {l m : Int} (hl : 0 ≤ l) (h1 : 1 ≤ m) (h2 : m ≤ 4096) : Int.tmod (IntKind.wrap .i64 (m - Int.tmod l m)) m = padN l m ∧ 0 ≤ padN l m ∧ padN l m < m := by
  have e1 : Int.tmod l m = l % m := Int.tmod_eq_emod_of_nonneg hl
  have e2 := Int.emod_nonneg l (show m ≠ 0 by omega)
  have e3 := Int.emod_lt_of_pos l (show 0 < m by omega)
  rw [e1, wrap64 (by omega) (by omega), Int.tmod_eq_emod_of_nonneg (by omega)]
  exact ⟨rfl, Int.emod_nonneg _ (by omega), Int.emod_lt_of_pos _ (by omega)⟩
theorem con_pad : ∀ vs v, pPad vs = true → gPad vs = some v → Contract Try.prog 64 vs [] (v, []) := by
  intro vs v hp h
  unfold gPad at h
  split at h <;> cases h
  rename_i xs m
  simp only [pPad, decide_eq_true_eq] at hp
  refine el_con lb2_ok Try.func64 (by kernel_rfl) (by kernel_rfl) rfl (by kernel_rfl) (by kernel_rfl) (Runs.of (fun q => padp0 q xs m) ?_)
  unfold padt0
  have bad : padOk m = false → Is (.tup [.uni u8s (padB xs m), .val (.int .i64 (if padOk m then 0 else 2))]) (.tup [.val nilSlice, .val (.int .i64 2)], []) := fun h => by
    rw [padB, h]; exact is_tup2 (rx_nilU (by simp)) (rx_of rfl)
  refine ask (fun h => bad ?_) (fun h1 => ask (fun h => bad ?_) (fun h2 => ?_))
  · simp only [decide_eq_true_eq] at h; rw [padOk, decF (p := 1 ≤ m) (by omega), Bool.false_and]
  · simp only [decide_eq_true_eq] at h; rw [padOk, decF (p := m ≤ 4096) (by omega), Bool.and_false]
  simp only [decide_eq_false_iff_not] at h1 h2
  obtain ⟨e1, e2, e3⟩ := padN_eq (l := xs.length) (m := m) (by omega) (by omega) (by omega)
  rw [e1]
  have hc : catA [[D.arr xs], [D.arr (List.replicate (padN xs.length m).toNat [D.int 0])]] = xs ++ zeros (padN xs.length m).toNat := by simp [catA, zeros, D.toArr]
  refine askT (decT (by omega)) (askT (decT (by omega)) (askT (andT (andT (decT (by omega)) (decT (by omega))) (decT (by omega))) (askT (show (decide ((catA [[D.arr xs], [D.arr (List.replicate (padN xs.length m).toNat [D.int 0])]]).length ≤ 4294967296) && decide (2 ≤ 4294967296)) = true from andT (decT ?_) rfl) (is_refl ?_))))
  · rw [hc, List.length_append, zeros, List.length_replicate]; omega
  · have ok : padOk m = true := andT (decT (by omega)) (decT (by omega))
    rw [hc, padB, ok]; rfl
theorem con_sym : ∀ vs v, gSym vs = some v → Contract Try.prog 51 vs [] (v, []) := by
  intro vs v h
  unfold gSym at h
  split at h <;> cases h
  rename_i s b hd w v z n
  refine el_con lb2_ok Try.func51 (by kernel_rfl) (by kernel_rfl) rfl (by kernel_rfl) (by kernel_rfl) (Runs.of (fun m => symp0 m s b hd w v z n) ?_)
  unfold symt0
  refine ask (fun h => is_refl ?_) (fun h0 => ask (fun h => is_refl ?_) (fun h1 => ask (fun h => is_refl ?_) (fun h2 => is_refl ?_)))
  · rw [symE, if_pos h]
  · rw [symE, h0, notT h]; rfl
  · rw [symE, h0, notT h, Bool.and_false]; rfl
  · rw [symE, h0, notF h1, notF h2]; rfl
theorem namesOf_drop (xs : List (List D)) (i : Nat) (hi : i < xs.length) : (namesOf xs).drop i = cellS xs i 0 :: (namesOf xs).drop (i + 1) := by
  have hl : i < (namesOf xs).length := by simpa [namesOf] using hi
  rw [List.drop_eq_getElem_cons hl]
  simp [namesOf, cellS, List.getD_eq_getElem?_getD, List.getElem?_eq_getElem hi]
theorem namesOf_length (xs : List (List D)) : (namesOf xs).length = xs.length := by simp [namesOf]
theorem bld_nil {b : Bld} {e : Int} (h : b = ⟨[], [], e⟩) : Is (.tup [.own u8s b.t, .own i64s b.p, .val (.int .i64 b.e)]) (.tup [.val nilSlice, .val nilSlice, .val (.int .i64 e)], []) := by
  subst h
  exact is_tup3 (rx_nilO rfl) (rx_nilO rfl) (rx_of rfl)
theorem bld_nil1 {b : Bld} {t : List (List D)} {e : Int} (h : b = ⟨t, [], e⟩) : Is (.tup [.own u8s b.t, .own i64s b.p, .val (.int .i64 b.e)]) (.tup [.own u8s t, .val nilSlice, .val (.int .i64 e)], []) := by
  subst h
  exact is_tup3 (rx_of rfl) (rx_nilO rfl) (rx_of rfl)
theorem bytesRow_length (s : ByteArray) : (bytesRow s).length = s.size := by simp only [bytesRow, List.length_map, Array.length_toList]; rfl
theorem runs_bld_loop (xs : List (List D)) (hx : xs.length ≤ 1024) : ∀ (d i : Nat) (t p m : List (List D)), d + i = xs.length → t.length ≤ 66 * (i + 1) → p.length = i →
    Runs em2 (61, Try.f61, 0) bldk2 (blds2 t p xs xs.length i m) (Is (.tup [.own u8s (bldGo ((namesOf xs).drop i) t m p).t, .own i64s (bldGo ((namesOf xs).drop i) t m p).p, .val (.int .i64 (bldGo ((namesOf xs).drop i) t m p).e)])) := by
  intro d
  induction d with
  | zero =>
    intro i t p m hd ht hp
    have hdrop : (namesOf xs).drop i = [] := List.drop_eq_nil_of_le (by rw [namesOf_length]; omega)
    rw [hdrop]
    refine Runs.of (fun n => bldp2 n t p xs xs.length i m) ?_
    unfold bldt2
    refine askF (decF (by omega)) ?_
    refine ask (fun h => bld_nil ?_) (fun h => is_refl ?_)
    · simp only [decide_eq_true_eq] at h
      rw [bldGo, if_pos (by omega)]
    · simp only [decide_eq_false_iff_not] at h
      rw [bldGo, if_neg (by omega)]
  | succ d ih =>
    intro i t p m hd ht hp
    refine Runs.of (fun n => bldp2 n t p xs xs.length i m) ?_
    unfold bldt2
    rw [namesOf_drop xs i (by omega), Int.toNat_natCast]
    generalize hs : cellS xs i 0 = s
    have hw2 : IntKind.wrap .i64 ((i : Int) + 1) = ((i + 1 : Nat) : Int) := by rw [wrap64 (by omega) (by omega)]; omega
    rw [hw2]
    refine askT (decT (by omega)) ?_
    refine askT (andT (decT (by omega)) (decT (by omega))) ?_
    refine ask (fun h => bld_nil ?_) (fun h1 => ?_)
    · simp only [decide_eq_true_eq] at h
      rw [bldGo, if_pos (.inl (by omega))]
    simp only [decide_eq_false_iff_not] at h1
    refine ask (fun h => bld_nil ?_) (fun h2 => ?_)
    · simp only [decide_eq_true_eq] at h
      rw [bldGo, if_pos (.inr (by omega))]
    simp only [decide_eq_false_iff_not] at h2
    have hg : bldGo (s :: (namesOf xs).drop (i + 1)) t m p = if hasD .str (.string s) m then bldGo ((namesOf xs).drop (i + 1)) t m (p ++ [[.int (lookD .str (.string s) (.int 0) m).toInt]])
        else bldGo ((namesOf xs).drop (i + 1)) (t ++ bytesRow s ++ [[.int 0]]) (setRow .str (.string s) [.str s, .int t.length] m) (p ++ [[.int t.length]]) := by
      rw [bldGo, if_neg (by rintro (h | h) <;> omega)]
    rw [hg]
    have hl : (bytesRow s).length = s.size := bytesRow_length s
    refine ask (fun h3 => ?_) (fun h3 => ?_)
    · have h3 : hasD .str (.string s) m = false := notT h3
      rw [h3]
      refine askT (andT (decT (by omega)) (decT (by omega))) ?_
      refine askT (andT (decT (by simp only [List.length_append]; omega)) (decT (by simp only [List.length_append]; omega))) ?_
      refine askT (andT (decT (by simp only [List.length_cons, List.length_nil]; omega)) (decT (by simp only [List.length_cons, List.length_nil]; omega))) ?_
      exact ih (i + 1) _ _ _ (by omega) (by simp only [List.length_append, List.length_cons, List.length_nil]; omega) (by simp only [List.length_append, List.length_cons, List.length_nil]; omega)
    · have h3 : hasD .str (.string s) m = true := notF h3
      rw [h3]
      refine askT (andT (decT (by simp only [List.length_cons, List.length_nil]; omega)) (decT (by simp only [List.length_cons, List.length_nil]; omega))) ?_
      exact ih (i + 1) _ _ _ (by omega) (by omega) (by simp only [List.length_append, List.length_cons, List.length_nil]; omega)
theorem con_bld : ∀ vs v, gBld vs = some v → Contract Try.prog 61 vs [] (v, []) := by
  intro vs v h
  unfold gBld at h
  split at h <;> cases h
  rename_i xs
  refine el_con lb2_ok Try.func61 (by kernel_rfl) (by kernel_rfl) rfl (by kernel_rfl) (by kernel_rfl) (Runs.of (fun m => bldp0 m xs) ?_)
  unfold bldt0
  refine ask (fun h => bld_nil ?_) (fun h => ?_)
  · simp only [decide_eq_true_eq] at h
    rw [bldR, if_pos (by omega)]
  simp only [decide_eq_false_iff_not] at h
  rw [bldR, if_neg (by omega)]
  refine Runs.of (fun n => bldp1 n _ xs xs.length 0 _) ?_
  unfold bldt1
  by_cases hx : xs.length = 0
  · refine askF (decF (by omega)) ?_
    have : namesOf xs = [] := List.eq_nil_of_length_eq_zero (by rw [namesOf_length, hx])
    rw [this]
    refine askF (decF (by simp)) (bld_nil1 ?_)
    rw [bldGo, if_neg (by simp)]
  · refine askT (decT (by omega)) ?_
    have e0 : namesOf xs = cellS xs 0 0 :: (namesOf xs).drop 1 := by simpa using namesOf_drop xs 0 (by omega)
    rw [e0]
    have z0 : Int.toNat (0 : Int) = 0 := rfl
    rw [z0]
    generalize hs : cellS xs 0 0 = s
    have hw2 : IntKind.wrap .i64 ((0 : Int) + 1) = ((1 : Nat) : Int) := by rw [wrap64 (by omega) (by omega)]; omega
    rw [hw2]
    refine askT (andT (decT (by omega)) (decT (by omega))) ?_
    refine ask (fun h => bld_nil ?_) (fun h1 => ?_)
    · simp only [decide_eq_true_eq] at h
      rw [bldGo, if_pos (.inl (by omega))]
    simp only [decide_eq_false_iff_not] at h1
    refine ask (fun h => bld_nil ?_) (fun h2 => ?_)
    · simp only [decide_eq_true_eq] at h
      rw [bldGo, if_pos (.inr (by omega))]
    simp only [decide_eq_false_iff_not] at h2
    rw [bldGo, if_neg (by rintro (h | h) <;> omega)]
    have hl : (bytesRow s).length = s.size := bytesRow_length s
    refine ask (fun h3 => ?_) (fun h3 => ?_)
    · have h3 : hasD .str (.string s) [[.str .empty, .int 0]] = false := notT h3
      rw [if_neg (by rw [h3]; simp)]
      refine askT (andT (decT (by simp only [List.length_cons, List.length_nil]; omega)) (decT (by simp only [List.length_cons, List.length_nil]; omega))) ?_
      refine askT (andT (decT (by simp only [List.length_append, List.length_cons, List.length_nil]; omega)) (decT (by simp only [List.length_append, List.length_cons, List.length_nil]; omega))) ?_
      exact runs_bld_loop xs (by omega) (xs.length - 1) 1 _ _ _ (by omega) (by simp only [List.length_append, List.length_cons, List.length_nil]; omega) (by simp)
    · have h3 : hasD .str (.string s) [[.str .empty, .int 0]] = true := notF h3
      rw [if_pos h3]
      exact runs_bld_loop xs (by omega) (xs.length - 1) 1 _ _ _ (by omega) (by simp) (by simp)
theorem lb3_ok : ExtAll Try.prog lb3 := .normP con_pad (.norm con_sym (.norm con_bld lb2_ok))
theorem stands_facts {b : Int} {h : Bool} {w v z n : Int} (hs : standsB b h w v z n = true) : b ≤ 2 ∧ (w = 0 ∨ w = -1 ∨ w = -2 ∨ (1 ≤ w ∧ w ≤ n)) := by
  unfold standsB at hs
  split at hs
  · cases hs
  · rename_i h1
    refine ⟨by omega, ?_⟩
    split at hs
    · exact .inl (by assumption)
    · split at hs
      · exact .inr (.inl (by assumption))
      · split at hs
        · exact .inr (.inr (.inl (by assumption)))
        · simp only [inB, Bool.and_eq_true, decide_eq_true_eq] at hs
          exact .inr (.inr (.inr hs.1.1))
theorem symE16 (s : ByteArray) (b : Int) (h : Bool) (w v z : Int) : symE s b h w v z 16 = 0 ∨ symE s b h w v z 16 = 8 := by
  unfold symE
  rw [if_neg (by decide)]
  split <;> simp
theorem wrapU16 (n : Int) : IntKind.wrap .u16 n = n % 65536 := by simp [IntKind.wrap, IntKind.bits, IntKind.signed]
theorem leB2 (n : Int) : leB n 2 = [[.int (n % 256)], [.int (n / 256 % 256)]] := by
  simp [leB, List.range_succ]
theorem con_syw : ∀ vs v, pSymW vs = true → gSymW vs = some v → Contract Try.prog 97 vs [] (v, []) := by
  intro vs v hp h
  unfold gSymW at h
  split at h <;> cases h
  rename_i s b hd w v z a
  simp only [pSymW, decide_eq_true_eq] at hp
  refine el_con lb3_ok Try.func97 (by kernel_rfl) (by kernel_rfl) rfl (by kernel_rfl) (by kernel_rfl) (Runs.of (fun m => sywp0 m s b hd w v z a) ?_)
  unfold sywt0
  refine ask (fun h => ?_) (fun h0 => ask (fun h => ?_) (fun h1 => ?_))
  · rcases symE16 s b hd w v z with e | e
    · rw [e] at h; cases h
    · have e1 : symWok s b hd w v z a = false := by rw [symWok, e]; rfl
      have e2 : symWE s b hd w v z a = 8 := by rw [symWE, e]; rfl
      rw [e, e1, e2]
      exact is_tup2 (rx_nilU (by simp)) (rx_of rfl)
  · have e : symE s b hd w v z 16 = 0 := by simpa using h0
    have e0 := notT h
    have e1 : symWok s b hd w v z a = false := by rw [symWok, e0, Bool.and_false]
    have e2 : symWE s b hd w v z a = 2 := by rw [symWE, if_pos e, e0]; rfl
    rw [e1, e2]
    exact is_tup2 (rx_nilU (by simp)) (rx_of rfl)
  have e : symE s b hd w v z 16 = 0 := by simpa using h0
  have e0 := notF h1
  have e1 : symWok s b hd w v z a = true := by rw [symWok, e, e0]; rfl
  have e2 : symWE s b hd w v z a = 0 := by rw [symWE, if_pos e, e0]; rfl
  rw [e1, e2]
  have hst : standsB b hd w v z 16 = true := by
    unfold symE at e
    rw [if_neg (by decide)] at e
    split at e
    · rename_i hh; simp only [Bool.and_eq_true] at hh; exact hh.2
    · cases e
  obtain ⟨f1, f2⟩ := stands_facts hst
  have hb : IntKind.wrap IntKind.u8 (b * 16) = b * 16 := by rw [wrapU8]; omega
  have ha : putB a 4 = leB a 4 := putB4 (by simp only [inB, Bool.and_eq_true, decide_eq_true_eq] at e0; simp [f4]; omega)
  have L1 : (leB a 4).length = 4 := by simp [leB]
  have L2 : (leB v 8).length = 8 := by simp [leB]
  have L3 : (leB z 8).length = 8 := by simp [leB]
  rw [hb, ha, putB8, putB8]
  have fin : ∀ (x y q : Int), q = (if hd then 2 else 0) → x = whereN w % 256 → y = whereN w / 256 % 256 → Is (.tup [.uni u8s (if true = true then symB a b hd w v z else []), .val (.int .i64 0)]) (.tup [.uni u8s (leB a 4 ++ [[D.int (b * 16)], [D.int q], [D.int x], [D.int y]] ++ leB v 8 ++ leB z 8), .val (.int .i64 0)], []) := by
    intro x y q h1 h2 h3
    refine is_refl ?_
    rw [if_pos rfl, symB, leB2, h1, h2, h3]
    simp
  have len : ∀ (l : List (List D)), l.length = 4 → (decide (((leB a 4).length + l.length) * 1 ≤ 70368744177664) && decide ((leB a 4).length + l.length ≤ 70368744177664)) = true ∧ (decide (((leB a 4 ++ l).length + (leB v 8).length) * 1 ≤ 70368744177664) && decide ((leB a 4 ++ l).length + (leB v 8).length ≤ 70368744177664)) = true ∧ (decide (((leB a 4 ++ l ++ leB v 8).length + (leB z 8).length) * 1 ≤ 70368744177664) && decide ((leB a 4 ++ l ++ leB v 8).length + (leB z 8).length ≤ 70368744177664)) = true := by
    intro l hl
    refine ⟨andT (decT ?_) (decT ?_), andT (decT ?_) (decT ?_), andT (decT ?_) (decT ?_)⟩ <;> simp only [List.length_append, L1, L2, L3, hl] <;> omega
  have neg : w < 0 → whereN w = 65520 - w ∧ IntKind.wrap IntKind.u16 (65520 + IntKind.wrap IntKind.u16 (IntKind.wrap IntKind.i64 (0 - w))) = 65520 - w := fun hw => by
    refine ⟨by rw [whereN, if_pos hw], ?_⟩
    rw [wrap64 (by omega) (by omega), wrapU16, wrapU16]
    omega
  have pos : ¬ w < 0 → whereN w = w ∧ IntKind.wrap IntKind.u16 w = w := fun hw => by
    refine ⟨by rw [whereN, if_neg hw], ?_⟩
    rw [wrapU16]
    omega
  refine ask (fun h2 => ask (fun h3 => ?_) (fun h3 => ?_)) (fun h2 => ask (fun h3 => ?_) (fun h3 => ?_))
  · obtain ⟨n1, n2⟩ := neg (by simpa using h3)
    rw [n2]
    obtain ⟨l1, l2, l3⟩ := len [[D.int (b * 16)], [D.int 2], [D.int (IntKind.wrap IntKind.u8 (65520 - w))], [D.int (IntKind.wrap IntKind.u8 (Int.fdiv (65520 - w) 256))]] rfl
    refine askT l1 (askT l2 (askT l3 (fin _ _ _ (by rw [if_pos h2]) ?_ ?_)))
    · rw [n1, wrapU8]
    · rw [n1, wrapU8, Int.fdiv_eq_ediv_of_nonneg _ (by decide)]
  · obtain ⟨n1, n2⟩ := pos (by simpa using h3)
    rw [n2]
    obtain ⟨l1, l2, l3⟩ := len [[D.int (b * 16)], [D.int 2], [D.int (IntKind.wrap IntKind.u8 w)], [D.int (IntKind.wrap IntKind.u8 (Int.fdiv w 256))]] rfl
    refine askT l1 (askT l2 (askT l3 (fin _ _ _ (by rw [if_pos h2]) ?_ ?_)))
    · rw [n1, wrapU8]
    · rw [n1, wrapU8, Int.fdiv_eq_ediv_of_nonneg _ (by decide)]
  · obtain ⟨n1, n2⟩ := neg (by simpa using h3)
    rw [n2]
    obtain ⟨l1, l2, l3⟩ := len [[D.int (b * 16)], [D.int 0], [D.int (IntKind.wrap IntKind.u8 (65520 - w))], [D.int (IntKind.wrap IntKind.u8 (Int.fdiv (65520 - w) 256))]] rfl
    refine askT l1 (askT l2 (askT l3 (fin _ _ _ (by rw [h2]; rfl) ?_ ?_)))
    · rw [n1, wrapU8]
    · rw [n1, wrapU8, Int.fdiv_eq_ediv_of_nonneg _ (by decide)]
  · obtain ⟨n1, n2⟩ := pos (by simpa using h3)
    rw [n2]
    obtain ⟨l1, l2, l3⟩ := len [[D.int (b * 16)], [D.int 0], [D.int (IntKind.wrap IntKind.u8 w)], [D.int (IntKind.wrap IntKind.u8 (Int.fdiv w 256))]] rfl
    refine askT l1 (askT l2 (askT l3 (fin _ _ _ (by rw [h2]; rfl) ?_ ?_)))
    · rw [n1, wrapU8]
    · rw [n1, wrapU8, Int.fdiv_eq_ediv_of_nonneg _ (by decide)]
theorem lb4_ok : ExtAll Try.prog lb4 := .normP con_syw lb3_ok
end Go.Proofs.Ytkcopbnaleiocaa.Ev
