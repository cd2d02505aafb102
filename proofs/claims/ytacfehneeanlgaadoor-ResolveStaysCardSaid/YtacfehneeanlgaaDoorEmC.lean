/- Symbols, relocations, tables of names: that the functions compute what XEmD says. -/
import Derived.Test.YtacfehneeanlgaaDoorEmP
import Derived.Test.YtacfehneeanlgaaDoorElC
namespace Go.Proofs.YtacfehneeanlgaaDoor.Ev
open Go
set_option linter.unusedVariables false
set_option linter.unusedSimpArgs false
theorem con_inn : ∀ vs v, gInn vs = some v → Contract Tryd.prog 60 vs [] (v, []) := by
  intro vs v h
  unfold gInn at h
  split at h <;> cases h
  rename_i n a b
  refine el_con la6_ok Tryd.func60 (by kernel_rfl) (by kernel_rfl) rfl (by kernel_rfl) (by kernel_rfl) (Runs.of (fun m => innp0 m n a b) ?_)
  unfold innt0
  refine ask (fun h => is_refl ?_) (fun h => is_refl ?_)
  · have h : decide (a ≤ n) = true := h
    rw [inB, h, Bool.true_and]
  · have h : decide (a ≤ n) = false := h
    rw [inB, h, Bool.false_and]
theorem byteAt_get (s : ByteArray) (i : Nat) (hi : i < s.size) : byteAt s (i : Int) = ((s[i]'hi).toNat : Int) ∧ s.data.toList[i]? = some (s[i]'hi) := by
  have hsz : s.data.toList.length = s.size := by simp
  have hg : s.data.toList[i]? = some (s[i]'hi) := by rw [List.getElem?_eq_getElem (by omega)]; rfl
  refine ⟨?_, hg⟩
  unfold byteAt
  rw [List.getD_eq_getElem?_getD, Int.toNat_natCast, hg]
  rfl
theorem runs_nam (s : ByteArray) (h0 : 0 < s.size) (h1 : s.size ≤ 32) : ∀ (d i : Nat), d + i = s.size → (∀ j, j < i → ∀ b, s.data.toList[j]? = some b → okCh b = true) → Runs el6 (61, Tryd.f61, 0) namk1 (nams1 s (s.size : Nat) (i : Nat)) (Is (.val (.bool (namedB s)))) := by
  intro d
  induction d with
  | zero =>
    intro i hi hall
    refine Runs.of (fun m => namp1 m s _ _) ?_
    unfold namt1
    refine askF (decF (by omega)) (is_refl ?_)
    have : graph s = true := List.all_eq_true.2 fun b hb => by
      obtain ⟨j, hj, rfl⟩ := List.getElem_of_mem hb
      have hsz : s.data.toList.length = s.size := by simp
      exact hall j (by omega) _ (List.getElem?_eq_getElem hj)
    rw [namedB, decT h0, decT h1, this]; rfl
  | succ d ih =>
    intro i hi hall
    have hlt : i < s.size := by omega
    obtain ⟨hb, hg⟩ := byteAt_get s i hlt
    refine Runs.of (fun m => namp1 m s _ _) ?_
    unfold namt1
    rw [hb]
    have bad : okCh (s[i]'hlt) = false → (V.val (.bool false)) = V.val (.bool (namedB s)) := fun h => by
      have : graph s = false := by
        rw [Bool.eq_false_iff]
        intro ha
        have := List.all_eq_true.1 ha _ (List.mem_of_getElem? hg)
        rw [this] at h; cases h
      rw [namedB, this, Bool.and_false]
    refine askT (decT (by omega)) (askT (andT (decT (by omega)) (decT (by omega))) (ask (fun h => is_refl (bad ?_)) (fun h2 => ask (fun h => is_refl (bad ?_)) (fun h3 => ?_))))
    · simp only [decide_eq_true_eq] at h; simp [okCh]; omega
    · simp only [decide_eq_true_eq] at h; simp [okCh]; omega
    · simp only [decide_eq_false_iff_not] at h2 h3
      have hw : IntKind.wrap IntKind.i64 ((i : Int) + 1) = ((i + 1 : Nat) : Int) := by rw [wrap64 (by omega) (by omega)]; omega
      show Runs _ _ _ (nams1 _ _ _) _
      rw [hw]
      refine ih (i + 1) (by omega) fun j hj b h => ?_
      by_cases e : j = i
      · subst e; rw [hg] at h; cases h; simp [okCh]; omega
      · exact hall j (by omega) b h
theorem con_nam : ∀ vs v, gNamed vs = some v → Contract Tryd.prog 61 vs [] (v, []) := by
  intro vs v h
  unfold gNamed at h
  split at h <;> cases h
  rename_i s
  refine el_con la6_ok Tryd.func61 (by kernel_rfl) (by kernel_rfl) rfl (by kernel_rfl) (by kernel_rfl) (Runs.of (fun m => namp0 m s) ?_)
  unfold namt0
  refine ask (fun h => is_refl ?_) (fun h0 => ask (fun h => is_refl ?_) (fun h1 => ?_))
  · rw [bytes_eq, decide_eq_true_eq] at h; subst h; rfl
  · simp only [decide_eq_true_eq] at h; rw [namedB, decF (p := s.size ≤ 32) (by omega), Bool.and_false, Bool.false_and]
  · simp only [decide_eq_false_iff_not] at h1
    rw [bytes_eq, decide_eq_false_iff_not] at h0
    refine runs_nam s ?_ (by omega) s.size 0 (by omega) (fun j hj => by omega)
    rcases Nat.eq_zero_or_pos s.size with h | h
    · exact absurd (ByteArray.ext (Array.eq_empty_of_size_eq_zero h)) h0
    · exact h
theorem con_fie : ∀ vs v, gField vs = some v → Contract Tryd.prog 81 vs [] (v, []) := by
  intro vs v h
  unfold gField at h
  split at h <;> cases h
  rename_i k
  refine el_con la6_ok Tryd.func81 (by kernel_rfl) (by kernel_rfl) rfl (by kernel_rfl) (by kernel_rfl) (Runs.of (fun m => fiep0 m k) ?_)
  unfold fiet0
  have lit : ∀ a b c : Int, k = a → fieldN a = b → fieldE a = c → Is (.tup [.val (.int .i64 (fieldN k)), .val (.int .i64 (fieldE k))]) (.tup [.val (.int .i64 b), .val (.int .i64 c)], []) := fun a b c h1 h2 h3 => is_refl (by rw [h1, h2, h3])
  iterate 23 refine ask (fun h => lit _ _ _ (beq_iff_eq.1 h) (by decide) (by decide)) (fun h => ?_)
  simp only [beq_eq_false_iff_ne] at *
  have e : fieldN k = 0 := by simp only [fieldN, *, false_or, if_false]
  refine is_refl ?_
  rw [fieldE, e, if_pos ⟨rfl, by assumption, by assumption⟩]

/-- What a tree without loops answers, if it is a truth. -/
def Tr.okB : Tr → Option Bool
  | .ret (.val (.bool b), []) => some b
  | .ask true t _ => t.okB
  | .ask false _ f => f.okB
  | _ => none
theorem Tr.okB_prop {I : Info} {fn : Nat × Func × Nat} {b : Bool} : ∀ {t : Tr}, t.okB = some b → t.prop I fn (Is (.val (.bool b)))
  | .ret (.val (.bool _), []), h => by cases h; exact is_refl rfl
  | .ask true t f, h => askT rfl (Tr.okB_prop (t := t) h)
  | .ask false t f, h => askF rfl (Tr.okB_prop (t := f) h)
  | .fail, h => by cases h
  | .go _ _ _, h => by cases h
theorem hsT_all : ∀ k : Fin 256, ((hsTt0 2260595906707456 (k.1 : Int)).okB = some (hasB 2260595906707456 (k.1 : Int)) ∧ (hsTt0 2251799864016896 (k.1 : Int)).okB = some (hasB 2251799864016896 (k.1 : Int))) ∧ (hsTt0 2190433320966 (k.1 : Int)).okB = some (hasB 2190433320966 (k.1 : Int)) := by decide +kernel
theorem con_hsT : ∀ vs v, pHasT vs = true → gHasT vs = some v → Contract Tryd.prog 82 vs [] (v, []) := by
  intro vs v hp h
  unfold gHasT at h
  split at h <;> cases h
  rename_i s k
  simp only [pHasT, Bool.and_eq_true, decide_eq_true_eq, Bool.or_eq_true, beq_iff_eq] at hp
  obtain ⟨⟨hs, h0⟩, h1⟩ := hp
  obtain ⟨k, rfl⟩ := Int.eq_ofNat_of_zero_le h0
  refine el_con la6_ok Tryd.func82 (by kernel_rfl) (by kernel_rfl) rfl (by kernel_rfl) (by kernel_rfl) (Runs.of (fun m => hsTp0 m s _) ?_)
  have := hsT_all ⟨k, by omega⟩
  rcases hs with (rfl | rfl) | rfl
  · exact Tr.okB_prop this.1.1
  · exact Tr.okB_prop this.1.2
  · exact Tr.okB_prop this.2

/-! ### Tables of names -/
/-! ### Numbers in a row -/
theorem numsB_drop (k : Int) (l : List (List D)) (i : Nat) (hi : i < l.length) : numsB k (l.drop i) = putB (cellI l i 0) k ++ numsB k (l.drop (i + 1)) := by
  rw [List.drop_eq_getElem_cons hi]
  simp only [numsB, List.map_cons, List.flatten_cons, cellI, List.getD_eq_getElem?_getD, List.getElem?_eq_getElem hi, Option.getD_some]
theorem putB_le8 (n k : Int) : (putB n k).length ≤ 8 := by
  unfold putB
  split
  · rename_i h
    have : siz k = true := by simp only [putOk, Bool.and_eq_true] at h; exact h.1
    rcases siz_cases this with rfl | rfl | rfl | rfl <;> simp [leB]
  · simp
theorem con_sze : ∀ vs v, gSize vs = some v → Contract Tryd.prog 45 vs [] (v, []) := by
  intro vs v h
  unfold gSize at h
  split at h <;> cases h
  rename_i s a d z
  exact el_con la6_ok Tryd.func45 (by kernel_rfl) (by kernel_rfl) rfl (by kernel_rfl) (by kernel_rfl) (Runs.of (fun m => szep0 m s a d z) (is_refl rfl))
theorem lb1_ok : ExtAll Tryd.prog lb1 := .norm con_inn (.norm con_nam (.norm con_fie (.normP con_hsT (.norm con_sze la6_ok))))

/-! ### Concat -/
theorem catA_drop (l : List (List D)) (i : Nat) (hi : i < l.length) : catA (l.drop i) = cellA l i 0 ++ catA (l.drop (i + 1)) := by
  rw [List.drop_eq_getElem_cons hi]
  simp only [catA, List.map_cons, List.flatten_cons, cellA, List.getD_eq_getElem?_getD, List.getElem?_eq_getElem hi, Option.getD_some]
theorem catA_take (l : List (List D)) (i : Nat) (hi : i < l.length) : catA (l.take (i + 1)) = catA (l.take i) ++ cellA l i 0 := by
  rw [List.take_add_one, List.getElem?_eq_getElem hi]
  simp only [catA, Option.toList_some, List.map_append, List.map_cons, List.map_nil, List.flatten_append, List.flatten_cons, List.flatten_nil, List.append_nil, cellA, List.getD_eq_getElem?_getD, List.getElem?_eq_getElem hi, Option.getD_some]
theorem catA_split (l : List (List D)) (i : Nat) : catA l = catA (l.take i) ++ catA (l.drop i) := by
  conv => lhs; rw [← List.take_append_drop i l]
  simp only [catA, List.map_append, List.flatten_append]
/-! ### Symbols -/
theorem bss_kind : kindV sBss = 4 := by decide +kernel
theorem secE_bss (v : Int) : (secE sBss v 0 0 == 0) = alignOk v := by
  rw [secE, secOk, bss_kind]
  cases alignOk v <;> rfl
theorem con_sta : ∀ vs v, gStands vs = some v → Contract Tryd.prog 62 vs [] (v, []) := by
  intro vs v h
  unfold gStands at h
  split at h <;> cases h
  rename_i s b hd w v z n
  refine el_con lb1_ok Tryd.func62 (by kernel_rfl) (by kernel_rfl) rfl (by kernel_rfl) (by kernel_rfl) (Runs.of (fun m => stap0 m s b hd w v z n) ?_)
  unfold stat0
  rw [show (secE { data := #[46, 98, 115, 115] } v 0 0 == 0) = alignOk v from secE_bss v]
  refine ask (fun h => is_refl ?_) (fun h0 => ?_)
  · simp only [decide_eq_true_eq] at h; rw [standsB, if_pos (.inl (by omega))]
  simp only [decide_eq_false_iff_not] at h0
  have tail : ¬ (2 < b ∨ (hd = true ∧ b = 0)) → Tr.prop em1 (62, Tryd.f62, 0) (Is (.val (.bool (standsB b hd w v z n)))) (.ask (w == (0 : Int))
      (.ask (!b == (0 : Int)) (.ask (v == (0 : Int)) (.ret (.val (.bool (z == (0 : Int))), [])) (.ret (.val (.bool (false)), []))) (.ret (.val (.bool (false)), [])))
      (.ask (w == (-1 : Int)) (.ask (inB v (-2147483648 : Int) (4294967295 : Int)) (.ret (.val (.bool (z == (0 : Int))), [])) (.ret (.val (.bool (false)), [])))
      (.ask (w == (-2 : Int)) (.ask (alignOk v) (.ask (inB z (1 : Int) (4096 : Int)) (.ret (.val (.bool (b == (1 : Int))), [])) (.ret (.val (.bool (false)), []))) (.ret (.val (.bool (false)), [])))
      (.ask (inB w (1 : Int) n) (.ask (inB v (0 : Int) (4096 : Int)) (.ret (.val (.bool (inB z (0 : Int) (4096 : Int))), [])) (.ret (.val (.bool (false)), []))) (.ret (.val (.bool (false)), [])))))) := by
    intro hn
    have e : standsB b hd w v z n = if w = 0 then !(b == 0) && v == 0 && z == 0 else if w = -1 then inB v (-2147483648) 4294967295 && z == 0 else if w = -2 then alignOk v && inB z 1 4096 && b == 1 else inB w 1 n && inB v 0 4096 && inB z 0 4096 := by rw [standsB, if_neg hn]
    rw [e]
    refine ask (fun h => ?_) (fun h1 => ask (fun h => ?_) (fun h2 => ask (fun h => ?_) (fun h3 => ?_)))
    · rw [if_pos (beq_iff_eq.1 h)]
      refine ask (fun a => ask (fun c => is_refl ?_) (fun c => is_refl ?_)) (fun a => is_refl ?_) <;> simp only [*, Bool.true_and, Bool.false_and, Bool.and_true, Bool.and_false]
    · rw [if_neg (beq_eq_false_iff_ne.1 h1), if_pos (beq_iff_eq.1 h)]
      refine ask (fun a => is_refl ?_) (fun a => is_refl ?_) <;> simp only [*, Bool.true_and, Bool.false_and]
    · rw [if_neg (beq_eq_false_iff_ne.1 h1), if_neg (beq_eq_false_iff_ne.1 h2), if_pos (beq_iff_eq.1 h)]
      refine ask (fun a => ask (fun c => is_refl ?_) (fun c => is_refl ?_)) (fun a => is_refl ?_) <;> simp only [*, Bool.true_and, Bool.false_and, Bool.and_true, Bool.and_false]
    · rw [if_neg (beq_eq_false_iff_ne.1 h1), if_neg (beq_eq_false_iff_ne.1 h2), if_neg (beq_eq_false_iff_ne.1 h3)]
      refine ask (fun a => ask (fun c => is_refl ?_) (fun c => is_refl ?_)) (fun a => is_refl ?_) <;> simp only [*, Bool.true_and, Bool.false_and, Bool.and_true, Bool.and_false]
  refine ask (fun h1 => ask (fun h2 => is_refl ?_) (fun h2 => tail ?_)) (fun h1 => tail ?_)
  · rw [standsB, if_pos (.inr ⟨h1, beq_iff_eq.1 h2⟩)]
  · rintro (h | ⟨_, h⟩)
    · omega
    · exact beq_eq_false_iff_ne.1 h2 h
  · rintro (h | ⟨h, _⟩)
    · omega
    · rw [h1] at h; cases h
theorem rowB_eq (xs : List (List D)) : rowB xs = xs.map fun e => UInt8.ofNat (e.getD 0 default).toInt.toNat := by
  simp only [rowB, Lib.bytesOf, bytesOfRow, List.map_map]
  rfl
theorem rowB_get (xs : List (List D)) (i : Nat) (hi : i < xs.length) : (rowB xs)[i]? = some (UInt8.ofNat (cellI xs i 0).toNat) := by
  rw [rowB_eq, List.getElem?_map, List.getElem?_eq_getElem hi]
  simp [cellI, List.getD_eq_getElem?_getD, List.getElem?_eq_getElem hi]
theorem rowB_cut (xs : List (List D)) (a b : Int) : rowB (cut xs a b) = cut (rowB xs) a b := by
  rw [rowB_eq, rowB_eq]; simp [cut, List.map_take, List.map_drop]
theorem rowB_length (xs : List (List D)) : (rowB xs).length = xs.length := by rw [rowB_eq]; simp
theorem chkR_cases (xs : List (List D)) : chkR xs = 8 ∨ chkR xs = 0 := by unfold chkR; split <;> simp
theorem chkR_ok {xs : List (List D)} (h : chkR xs = 0) : 0 < xs.length ∧ xs.length ≤ 65536 ∧ cellI xs 0 0 = 0 ∧ cellI xs (xs.length - 1) 0 = 0 := by
  unfold chkR at h
  split at h
  · cases h
  · rename_i hh
    simp only [not_or, Classical.not_not] at hh
    exact ⟨by omega, by omega, hh.2.2.1, hh.2.2.2⟩
theorem get_ix {xs : List (List D)} {at_ : Int} (hc : chkR xs = 0) (h0 : 0 ≤ at_) (h1 : at_ < xs.length) : ∃ k : Nat, ixB (rowB (cut xs at_ xs.length)) 0 = (k : Int) ∧ at_ + k < xs.length ∧ (rowB xs)[at_.toNat + k]? = some 0 ∧ ∀ j, j < k → (rowB xs)[at_.toNat + j]? ≠ some 0 := by
  obtain ⟨c1, c2, c3, c4⟩ := chkR_ok hc
  obtain ⟨a, rfl⟩ : ∃ a : Nat, at_ = (a : Int) := ⟨at_.toNat, by omega⟩
  have hl : (rowB xs).length = xs.length := rowB_length xs
  have hm : (0 : UInt8) ∈ cut (rowB xs) (a : Int) (xs.length : Int) := by
    refine List.mem_of_getElem? (i := xs.length - 1 - a) ?_
    rw [cut_get _ _ _ (by omega) _ (by omega), show a + (xs.length - 1 - a) = xs.length - 1 by omega, rowB_get _ _ (by omega), c4]
    rfl
  obtain ⟨k, k1, k2, k3, k4⟩ := ix_found hm
  have hk : (a : Int) + k < xs.length := by
    have := cut_length (xs := rowB xs) (l := (a : Int)) (h := (xs.length : Int)) (by omega) (by omega) (by omega)
    rw [this] at k2
    omega
  refine ⟨k, by rw [rowB_cut]; exact k1, hk, ?_, fun j hj => ?_⟩
  · rw [cut_get _ _ _ (by omega) _ (by omega)] at k3; simpa using k3
  · have := k4 j hj
    rw [cut_get _ _ _ (by omega) _ (by omega)] at this; simpa using this
theorem lb2_ok : ExtAll Tryd.prog lb2 := .norm con_sta lb1_ok

/-! ### Pad, Check, Build -/
theorem padN_eq {l m : Int} (hl : 0 ≤ l) (h1 : 1 ≤ m) (h2 : m ≤ 4096) : Int.tmod (IntKind.wrap .i64 (m - Int.tmod l m)) m = padN l m ∧ 0 ≤ padN l m ∧ padN l m < m := by
  have e1 : Int.tmod l m = l % m := Int.tmod_eq_emod_of_nonneg hl
  have e2 := Int.emod_nonneg l (show m ≠ 0 by omega)
  have e3 := Int.emod_lt_of_pos l (show 0 < m by omega)
  rw [e1, wrap64 (by omega) (by omega), Int.tmod_eq_emod_of_nonneg (by omega)]
  exact ⟨rfl, Int.emod_nonneg _ (by omega), Int.emod_lt_of_pos _ (by omega)⟩
theorem con_sym : ∀ vs v, gSym vs = some v → Contract Tryd.prog 44 vs [] (v, []) := by
  intro vs v h
  unfold gSym at h
  split at h <;> cases h
  rename_i s b hd w v z n
  refine el_con lb2_ok Tryd.func44 (by kernel_rfl) (by kernel_rfl) rfl (by kernel_rfl) (by kernel_rfl) (Runs.of (fun m => symp0 m s b hd w v z n) ?_)
  unfold symt0
  refine ask (fun h => is_refl ?_) (fun h0 => ask (fun h => is_refl ?_) (fun h1 => ask (fun h => is_refl ?_) (fun h2 => is_refl ?_)))
  · rw [symE, if_pos h]
  · rw [symE, h0, notT h]; rfl
  · rw [symE, h0, notT h, Bool.and_false]; rfl
  · rw [symE, h0, notF h1, notF h2]; rfl
theorem namesOf_drop (xs : List (List D)) (i : Nat) (hi : i < xs.length) : (namesOf xs).drop i = cellS xs i 0 :: (namesOf xs).drop (i + 1) := by
  have hl : i < (namesOf xs).length := by simpa [namesOf] using hi
  rw [List.drop_eq_getElem_cons hl]
  simp [namesOf, cellS, List.getD_eq_getElem?_getD, List.getElem?_eq_getElem hi]
theorem namesOf_length (xs : List (List D)) : (namesOf xs).length = xs.length := by simp [namesOf]
theorem bld_nil {b : Bld} {e : Int} (h : b = ⟨[], [], e⟩) : Is (.tup [.own u8s b.t, .own i64s b.p, .val (.int .i64 b.e)]) (.tup [.val nilSlice, .val nilSlice, .val (.int .i64 e)], []) := by
  subst h
  exact is_tup3 (rx_nilO rfl) (rx_nilO rfl) (rx_of rfl)
theorem bld_nil1 {b : Bld} {t : List (List D)} {e : Int} (h : b = ⟨t, [], e⟩) : Is (.tup [.own u8s b.t, .own i64s b.p, .val (.int .i64 b.e)]) (.tup [.own u8s t, .val nilSlice, .val (.int .i64 e)], []) := by
  subst h
  exact is_tup3 (rx_of rfl) (rx_nilO rfl) (rx_of rfl)
theorem bytesRow_length (s : ByteArray) : (bytesRow s).length = s.size := by simp only [bytesRow, List.length_map, Array.length_toList]; rfl
theorem lb3_ok : ExtAll Tryd.prog lb3 := .norm con_sym lb2_ok

/-! ### A symbol's bytes -/
theorem stands_facts {b : Int} {h : Bool} {w v z n : Int} (hs : standsB b h w v z n = true) : b ≤ 2 ∧ (w = 0 ∨ w = -1 ∨ w = -2 ∨ (1 ≤ w ∧ w ≤ n)) := by
  unfold standsB at hs
  split at hs
  · cases hs
  · rename_i h1
    refine ⟨by omega, ?_⟩
    split at hs
    · exact .inl (by assumption)
    · split at hs
      · exact .inr (.inl (by assumption))
      · split at hs
        · exact .inr (.inr (.inl (by assumption)))
        · simp only [inB, Bool.and_eq_true, decide_eq_true_eq] at hs
          exact .inr (.inr (.inr hs.1.1))
theorem symE16 (s : ByteArray) (b : Int) (h : Bool) (w v z : Int) : symE s b h w v z 16 = 0 ∨ symE s b h w v z 16 = 8 := by
  unfold symE
  rw [if_neg (by decide)]
  split <;> simp
theorem wrapU16 (n : Int) : IntKind.wrap .u16 n = n % 65536 := by simp [IntKind.wrap, IntKind.bits, IntKind.signed]
theorem leB2 (n : Int) : leB n 2 = [[.int (n % 256)], [.int (n / 256 % 256)]] := by
  simp [leB, List.range_succ]
theorem lb4_ok : ExtAll Tryd.prog lb4 := lb3_ok

end Go.Proofs.YtacfehneeanlgaaDoor.Ev
