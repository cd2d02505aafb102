/- Strtab: that the functions compute what XStD says. -/
import Derived.Test.YthloggdgdklgmaaStP
import Derived.Test.YthloggdgdklgmaaPure
namespace Go.Proofs.Ythloggdgdklgmaa.Ev
open Go
set_option linter.unusedVariables false
set_option linter.unusedSimpArgs false
theorem st_info (l : List (Nat × ExtF)) : InfoOk Try.prog (infoL Try.prog l ent keepOf) := infoL_ok _ _ _ _ (by kernel_rfl)
theorem st_ext {l : List (Nat × ExtF)} (h : ExtAll Try.prog l) : ExtOk Try.prog (infoL Try.prog l ent keepOf) := infoL_ext h fun f e vs c h hc => by
  have h' : ent f = some e := h
  unfold ent at h'
  split at h'
  · rename_i hf
    cases h'
    rcases hf with rfl | rfl
    · exact indexByte_entry Try.func28 (by kernel_rfl) (by kernel_rfl) (by kernel_rfl) (by kernel_rfl) hc
    · exact indexByte_entry Try.func30 (by kernel_rfl) (by kernel_rfl) (by kernel_rfl) (by kernel_rfl) hc
  · cases h'
theorem st_con {l : List (Nat × ExtF)} (hl : ExtAll Try.prog l) {f : Nat} {fd : Func} {vs : List V} {v : V} (h1 : Try.prog.funcs[f]? = some fd) (h2 : fd.body = some (sub (bodyOf fd) [])) (h3 : (fd.name == "runtime.NumGoroutine") = false) (h4 : extOf l f = none) (h5 : fd.params.size = vs.length) (h6 : fd.nfree = 0)
    (h : Runs (infoL Try.prog l ent keepOf) (f, fd, 0) [.code (sub (bodyOf fd) [])] (initSt vs []) (fun r => Relax r.1 v ∧ r.2 = [])) : Contract Try.prog f vs [] (v, []) :=
  contract_of_runs (st_info l) (st_ext hl) h1 h2 h3 h4 ⟨h5, h6⟩ h
abbrev Is (v : V) : R → Prop := fun r => Relax r.1 v ∧ r.2 = []
theorem is_refl {v v' : V} (h : v = v') : Is v' (v, []) := ⟨by rw [h]; exact .one (.refl _), rfl⟩

/-! ### IndexByte -/
theorem con_ixS27 : ∀ vs outs r, eIxS vs outs = some r → Contract Try.prog 27 vs outs r := by
  intro vs outs r h
  unfold eIxS strE at h
  split at h
  · rename_i s c
    cases h
    refine st_con ExtAll.nil Try.func27 (by kernel_rfl) (by kernel_rfl) rfl (by kernel_rfl) (by kernel_rfl) ?_
    exact Runs.of (fun n => ixSp0 n s c) (is_refl rfl)
  · cases h
theorem con_ixB : ∀ vs outs r, eIxB vs outs = some r → Contract Try.prog 23 vs outs r := by
  intro vs outs r h
  unfold eIxB at h
  split at h
  · rename_i cts xs c heq
    split at h
    · rename_i hc
      cases h
      refine Contract.cast (ks := [some u8s]) ?_
      rw [heq, sameCTs_eq _ _ hc]
      refine st_con ExtAll.nil Try.func23 (by kernel_rfl) (by kernel_rfl) rfl (by kernel_rfl) (by kernel_rfl) ?_
      exact Runs.of (fun n => ixBp0 n xs c) (is_refl rfl)
    · cases h
  · cases h

/-! ### Check -/
theorem runs_chk (xs : List (List D)) : Runs st0 (15, Try.f15, 0) chkk0 (chks0 xs) (Is (.val (.int .i64 (chkR xs)))) := by
  refine Runs.of (fun n => chkp0 n xs) ?_
  have bad : (xs.length = 0 ∨ 65536 < xs.length ∨ cellI xs 0 0 ≠ 0 ∨ cellI xs (xs.length - 1) 0 ≠ 0) → V.val (.int .i64 8) = V.val (.int .i64 (chkR xs)) := fun h => by rw [chkR, if_pos h]
  refine ask (fun h => is_refl (bad (.inl (by simpa using h)))) (fun h0 => ?_)
  refine ask (fun h => is_refl (bad (.inr (.inl (by simp at h; omega))))) (fun h1 => ?_)
  simp only [beq_eq_false_iff_ne, decide_eq_false_iff_not] at h0 h1
  refine askT (decT (by omega)) ?_
  refine ask (fun h => is_refl (bad (.inr (.inr (.inl (by simpa using h)))))) (fun h2 => ?_)
  have hw : IntKind.wrap .i64 ((xs.length : Int) - 1) = ((xs.length - 1 : Nat) : Int) := by rw [wrap64 (by omega) (by omega)]; omega
  rw [hw]
  refine askT (andT (decT (by omega)) (decT (by omega))) ?_
  rw [Int.toNat_natCast]
  refine ask (fun h => is_refl (bad (.inr (.inr (.inr (by simpa using h)))))) (fun h3 => is_refl ?_)
  simp only [bne_eq_false_iff_eq] at h2 h3
  rw [chkR, if_neg (by rintro (h | h | h | h); omega; omega; exact h h2; exact h h3)]
theorem con_chk : ∀ vs outs r, eChk vs outs = some r → Contract Try.prog 15 vs outs r := by
  intro vs outs r h
  unfold eChk at h
  split at h
  · rename_i cts xs heq
    split at h
    · rename_i hc
      cases h
      refine Contract.cast (ks := [some u8s]) ?_
      rw [heq, sameCTs_eq _ _ hc]
      exact st_con ExtAll.nil Try.func15 (by kernel_rfl) (by kernel_rfl) rfl (by kernel_rfl) (by kernel_rfl) (runs_chk xs)
    · cases h
  · cases h

/-! ### alive -/
theorem con_alive : ∀ vs outs r, eTrue vs outs = some r → Contract Try.prog 12 vs outs r := by
  intro vs outs r h
  unfold eTrue at h
  split at h
  · cases h
    exact call_contract (I := infoL Try.prog [] ent keepOf) (n := 100000) (st_info []) (st_ext ExtAll.nil) (by kernel_rfl)
  · cases h
theorem l1_ok : ExtAll Try.prog l1 := .add con_alive (.add con_chk (.add con_ixB (.add con_ixS27 .nil)))
theorem con_ixS22 : ∀ vs outs r, eIxS vs outs = some r → Contract Try.prog 22 vs outs r := by
  intro vs outs r h
  unfold eIxS strE at h
  split at h
  · rename_i s c
    cases h
    refine st_con l1_ok Try.func22 (by kernel_rfl) (by kernel_rfl) rfl (by kernel_rfl) (by kernel_rfl) ?_
    exact Runs.of (fun n => sIxp0 n s c) (is_refl rfl)
  · cases h

/-! ### Get -/
theorem rowB_eq (xs : List (List D)) : rowB xs = xs.map fun e => UInt8.ofNat (e.getD 0 default).toInt.toNat := by
  simp only [rowB, Lib.bytesOf, bytesOfRow, List.map_map]
  rfl
theorem rowB_get (xs : List (List D)) (i : Nat) (hi : i < xs.length) : (rowB xs)[i]? = some (UInt8.ofNat (cellI xs i 0).toNat) := by
  rw [rowB_eq, List.getElem?_map, List.getElem?_eq_getElem hi]
  simp [cellI, List.getD_eq_getElem?_getD, List.getElem?_eq_getElem hi]
theorem rowB_cut (xs : List (List D)) (a b : Int) : rowB (cut xs a b) = cut (rowB xs) a b := by
  rw [rowB_eq, rowB_eq]; simp [cut, List.map_take, List.map_drop]
theorem rowB_length (xs : List (List D)) : (rowB xs).length = xs.length := by rw [rowB_eq]; simp
theorem chkR_cases (xs : List (List D)) : chkR xs = 8 ∨ chkR xs = 0 := by unfold chkR; split <;> simp
theorem chkR_ok {xs : List (List D)} (h : chkR xs = 0) : 0 < xs.length ∧ xs.length ≤ 65536 ∧ cellI xs 0 0 = 0 ∧ cellI xs (xs.length - 1) 0 = 0 := by
  unfold chkR at h
  split at h
  · cases h
  · rename_i hh
    simp only [not_or, Classical.not_not] at hh
    exact ⟨by omega, by omega, hh.2.2.1, hh.2.2.2⟩
theorem get_ix {xs : List (List D)} {at_ : Int} (hc : chkR xs = 0) (h0 : 0 ≤ at_) (h1 : at_ < xs.length) : ∃ k : Nat, ixB (rowB (cut xs at_ xs.length)) 0 = (k : Int) ∧ at_ + k < xs.length ∧ (rowB xs)[at_.toNat + k]? = some 0 ∧ ∀ j, j < k → (rowB xs)[at_.toNat + j]? ≠ some 0 := by
  obtain ⟨c1, c2, c3, c4⟩ := chkR_ok hc
  obtain ⟨a, rfl⟩ : ∃ a : Nat, at_ = (a : Int) := ⟨at_.toNat, by omega⟩
  have hl : (rowB xs).length = xs.length := rowB_length xs
  have hm : (0 : UInt8) ∈ cut (rowB xs) (a : Int) (xs.length : Int) := by
    refine List.mem_of_getElem? (i := xs.length - 1 - a) ?_
    rw [cut_get _ _ _ (by omega) _ (by omega), show a + (xs.length - 1 - a) = xs.length - 1 by omega, rowB_get _ _ (by omega), c4]
    rfl
  obtain ⟨k, k1, k2, k3, k4⟩ := ix_found hm
  have hk : (a : Int) + k < xs.length := by
    have := cut_length (xs := rowB xs) (l := (a : Int)) (h := (xs.length : Int)) (by omega) (by omega) (by omega)
    rw [this] at k2
    omega
  refine ⟨k, by rw [rowB_cut]; exact k1, hk, ?_, fun j hj => ?_⟩
  · rw [cut_get _ _ _ (by omega) _ (by omega)] at k3; simpa using k3
  · have := k4 j hj
    rw [cut_get _ _ _ (by omega) _ (by omega)] at this; simpa using this
theorem runs_get (xs : List (List D)) (at_ : Int) : Runs st1 (16, Try.f16, 0) getk0 (gets0 xs at_) (Is (.tup [.val (.string (getS xs at_)), .val (.int .i64 (getE xs at_))])) := by
  refine Runs.of (fun n => getp0 n xs at_) ?_
  have bad : (chkR xs ≠ 0 ∨ at_ < 0 ∨ (xs.length : Int) ≤ at_) → V.tup [.val (.string { data := #[] }), .val (.int .i64 8)] = V.tup [.val (.string (getS xs at_)), .val (.int .i64 (getE xs at_))] := fun h => by rw [getS, getE, if_pos h, if_pos h]; rfl
  refine ask (fun h => is_refl ?_) (fun h1 => ?_)
  · have h' : chkR xs ≠ 0 := by simpa using h
    rcases chkR_cases xs with e | e
    · rw [e]; exact bad (.inl h')
    · exact absurd e h'
  have h1 : chkR xs = 0 := by simpa using h1
  refine ask (fun h => is_refl (bad (.inr (.inl (by simpa using h))))) (fun h2 => ?_)
  refine ask (fun h => is_refl (bad (.inr (.inr (by simpa using h))))) (fun h3 => ?_)
  simp only [decide_eq_false_iff_not] at h2 h3
  obtain ⟨k, k1, k2, -⟩ := get_ix (at_ := at_) h1 (by omega) (by omega)
  obtain ⟨c1, c2, -⟩ := chkR_ok h1
  refine askT (okB (by omega) (by omega) (by omega)) ?_
  have hw : IntKind.wrap .i64 (at_ + ixB (rowB (cut xs at_ (xs.length : Int))) 0) = at_ + ixB (rowB (cut xs at_ (xs.length : Int))) 0 := by rw [k1]; exact wrap64 (by omega) (by omega)
  have hb : okBounds at_ (at_ + ixB (rowB (cut xs at_ (xs.length : Int))) 0) (xs.length : Int) = true := by rw [k1]; exact okB (by omega) (by omega) (by omega)
  rw [hw]
  refine askT hb (is_refl ?_)
  rw [getS, getE, if_neg, if_neg] <;> simp only [not_or, Classical.not_not] <;> exact ⟨h1, h2, by omega⟩
theorem con_get : ∀ vs outs r, eGet vs outs = some r → Contract Try.prog 16 vs outs r := by
  intro vs outs r h
  unfold eGet at h
  split at h
  · rename_i cts xs at_ heq
    split at h
    · rename_i hc
      cases h
      refine Contract.cast (ks := [some u8s]) ?_
      rw [heq, sameCTs_eq _ _ hc]
      exact st_con l1_ok Try.func16 (by kernel_rfl) (by kernel_rfl) rfl (by kernel_rfl) (by kernel_rfl) (runs_get xs at_)
    · cases h
  · cases h
theorem l2_ok : ExtAll Try.prog l2 := .add con_get (.add con_ixS22 l1_ok)

/-! ### Great -/
theorem namesOf_drop (xs : List (List D)) (i : Nat) (hi : i < xs.length) : (namesOf xs).drop i = cellS xs i 0 :: (namesOf xs).drop (i + 1) := by
  have hl : i < (namesOf xs).length := by simpa [namesOf] using hi
  rw [List.drop_eq_getElem_cons hl]
  simp [namesOf, cellS, List.getD_eq_getElem?_getD, List.getElem?_eq_getElem hi]
theorem namesOf_length (xs : List (List D)) : (namesOf xs).length = xs.length := by simp [namesOf]
theorem tail_grt (xs : List (List D)) (n : Int) : Tr.prop st2 (13, Try.f13, 0) (Is (.val (.bool ((decide (200 < xs.length) && decide (xs.length ≤ 1024)) || decide (2000 < xs.length) || decide (50000 < n)))))
    (.ask (decide ((↑(List.length xs) : Int) > (200 : Int)))
  (.ask (decide ((↑(List.length xs) : Int) ≤ (1024 : Int)))
  (.ret (.val (.bool (true)), []))
  (.ask (decide ((↑(List.length xs) : Int) > (2000 : Int)))
  (.ret (.val (.bool (true)), []))
  (.ret (.val (.bool (decide (n > (50000 : Int)))), []))))
  (.ask (decide ((↑(List.length xs) : Int) > (2000 : Int)))
  (.ret (.val (.bool (true)), []))
  (.ret (.val (.bool (decide (n > (50000 : Int)))), [])))) := by
  have fin : ∀ b : Bool, b = ((decide (200 < xs.length) && decide (xs.length ≤ 1024)) || decide (2000 < xs.length) || decide (50000 < n)) → Is (.val (.bool ((decide (200 < xs.length) && decide (xs.length ≤ 1024)) || decide (2000 < xs.length) || decide (50000 < n)))) (.val (.bool b), []) := fun b h => is_refl (by rw [h])
  refine ask (fun h1 => ask (fun h2 => fin _ ?_) (fun h2 => ask (fun h3 => fin _ ?_) (fun h3 => fin _ ?_))) (fun h1 => ask (fun h3 => fin _ ?_) (fun h3 => fin _ ?_)) <;> simp only [decide_eq_true_eq, decide_eq_false_iff_not] at * <;> by_cases g1 : 200 < xs.length <;> by_cases g2 : xs.length ≤ 1024 <;> by_cases g3 : 2000 < xs.length <;> simp [g1, g2, g3] <;> omega
theorem runs_grt_loop (xs : List (List D)) : ∀ (d i : Nat) (n : Int), d + i = xs.length → 0 ≤ n → n ≤ 100000 * i → i ≤ 2000 →
    Runs st2 (13, Try.f13, 0) grtk1 (grts1 xs n i) (Is (.val (.bool ((decide (200 < xs.length) && decide (xs.length ≤ 1024)) || decide (2000 < xs.length) || decide (50000 < grtGo ((namesOf xs).drop i) (2000 - i) n))))) := by
  intro d
  induction d with
  | zero =>
    intro i n hd h0 h1 h2
    have hdrop : (namesOf xs).drop i = [] := List.drop_eq_nil_of_le (by rw [namesOf_length]; omega)
    have hg : grtGo ((namesOf xs).drop i) (2000 - i) n = n := by rw [hdrop]; unfold grtGo; rfl
    refine Runs.of (fun m => grtp1 m xs n i) ?_
    refine askF (decF (by omega)) ?_
    rw [hg]
    exact tail_grt xs n
  | succ d ih =>
    intro i n hd h0 h1 h2
    refine Runs.of (fun m => grtp1 m xs n i) ?_
    refine askT (decT (by omega)) ?_
    by_cases hi : i < 2000
    · refine askT (decT (by omega)) ?_
      refine askT (andT (decT (by omega)) (decT (by omega))) ?_
      obtain ⟨k, hk⟩ : ∃ k, 2000 - i = k + 1 := ⟨2000 - i - 1, by omega⟩
      have hg : grtGo ((namesOf xs).drop i) (2000 - i) n = grtGo ((namesOf xs).drop (i + 1)) (2000 - (i + 1)) (n + min ((cellS xs i 0).size : Int) 100000) := by
        rw [namesOf_drop xs i (by omega), hk, show 2000 - (i + 1) = k by omega]
        rfl
      rw [hg]
      have hmin : (if (100000 : Int) < (((cellS xs (Int.toNat (i : Int)) 0).size : Nat) : Int) then (100000 : Int) else (((cellS xs (Int.toNat (i : Int)) 0).size : Nat) : Int)) = min ((cellS xs i 0).size : Int) 100000 := by
        rw [Int.toNat_natCast]; split <;> omega
      have hw1 : IntKind.wrap .i64 (n + min ((cellS xs i 0).size : Int) 100000) = n + min ((cellS xs i 0).size : Int) 100000 := wrap64 (by omega) (by omega)
      have hw2 : IntKind.wrap .i64 ((i : Int) + 1) = ((i + 1 : Nat) : Int) := by rw [wrap64 (by omega) (by omega)]; omega
      have := ih (i + 1) (n + min ((cellS xs i 0).size : Int) 100000) (by omega) (by omega) (by omega) (by omega)
      show Runs _ _ _ (grts1 _ _ _) _
      rw [hmin, hw1, hw2]
      exact this
    · refine askF (decF (by omega)) ?_
      have hg : grtGo ((namesOf xs).drop i) (2000 - i) n = n := by
        rw [namesOf_drop xs i (by omega), show 2000 - i = 0 by omega]
        rfl
      rw [hg]
      exact tail_grt xs n
theorem con_grt : ∀ vs outs r, eGrt vs outs = some r → Contract Try.prog 13 vs outs r := by
  intro vs outs r h
  unfold eGrt at h
  split at h
  · rename_i cts xs heq
    split at h
    · rename_i hc
      cases h
      refine Contract.cast (ks := [some [.str]]) ?_
      rw [heq, sameCTs_eq _ _ hc]
      refine st_con l2_ok Try.func13 (by kernel_rfl) (by kernel_rfl) rfl (by kernel_rfl) (by kernel_rfl) ?_
      refine Runs.of (fun n => grtp0 n xs) ?_
      exact runs_grt_loop xs xs.length 0 0 (by omega) (by omega) (by omega) (by omega)
    · cases h
  · cases h

/-! ### Build -/
theorem bld_nil {b : Bld} {e : Int} (h : b = ⟨[], [], e⟩) : Is (.tup [.own u8s b.t, .own i64s b.p, .val (.int .i64 b.e)]) (.tup [.val nilSlice, .val nilSlice, .val (.int .i64 e)], []) := by
  subst h
  refine ⟨.tup rfl fun i v v' hv hv' => ?_, rfl⟩
  match i with
  | 0 => simp at hv hv'; subst hv; subst hv'; exact .nilOwn _
  | 1 => simp at hv hv'; subst hv; subst hv'; exact .nilOwn _
  | 2 => simp at hv hv'; subst hv; subst hv'; exact .refl _
  | i + 3 => simp at hv
theorem bld_nil1 {b : Bld} {t : List (List D)} {e : Int} (h : b = ⟨t, [], e⟩) : Is (.tup [.own u8s b.t, .own i64s b.p, .val (.int .i64 b.e)]) (.tup [.own u8s t, .val nilSlice, .val (.int .i64 e)], []) := by
  subst h
  refine ⟨.tup rfl fun i v v' hv hv' => ?_, rfl⟩
  match i with
  | 0 => simp at hv hv'; subst hv; subst hv'; exact .refl _
  | 1 => simp at hv hv'; subst hv; subst hv'; exact .nilOwn _
  | 2 => simp at hv hv'; subst hv; subst hv'; exact .refl _
  | i + 3 => simp at hv
theorem bytesRow_length (s : ByteArray) : (bytesRow s).length = s.size := by simp only [bytesRow, List.length_map, Array.length_toList]; rfl
theorem runs_bld_loop (xs : List (List D)) (hx : xs.length ≤ 1024) : ∀ (d i : Nat) (t p m : List (List D)), d + i = xs.length → t.length ≤ 66 * (i + 1) → p.length = i →
    Runs st2 (14, Try.f14, 0) bldk2 (blds2 t p xs xs.length i m) (Is (.tup [.own u8s (bldGo ((namesOf xs).drop i) t m p).t, .own i64s (bldGo ((namesOf xs).drop i) t m p).p, .val (.int .i64 (bldGo ((namesOf xs).drop i) t m p).e)])) := by
  intro d
  induction d with
  | zero =>
    intro i t p m hd ht hp
    have hdrop : (namesOf xs).drop i = [] := List.drop_eq_nil_of_le (by rw [namesOf_length]; omega)
    rw [hdrop]
    refine Runs.of (fun n => bldp2 n t p xs xs.length i m) ?_
    refine askF (decF (by omega)) ?_
    refine ask (fun h => bld_nil ?_) (fun h => is_refl ?_)
    · simp only [decide_eq_true_eq] at h
      rw [bldGo, if_pos (by omega)]
    · simp only [decide_eq_false_iff_not] at h
      rw [bldGo, if_neg (by omega)]
  | succ d ih =>
    intro i t p m hd ht hp
    refine Runs.of (fun n => bldp2 n t p xs xs.length i m) ?_
    rw [namesOf_drop xs i (by omega), Int.toNat_natCast]
    generalize hs : cellS xs i 0 = s
    have hw2 : IntKind.wrap .i64 ((i : Int) + 1) = ((i + 1 : Nat) : Int) := by rw [wrap64 (by omega) (by omega)]; omega
    rw [hw2]
    refine askT (decT (by omega)) ?_
    refine askT (andT (decT (by omega)) (decT (by omega))) ?_
    refine ask (fun h => bld_nil ?_) (fun h1 => ?_)
    · simp only [decide_eq_true_eq] at h
      rw [bldGo, if_pos (.inl (by omega))]
    simp only [decide_eq_false_iff_not] at h1
    refine ask (fun h => bld_nil ?_) (fun h2 => ?_)
    · simp only [decide_eq_true_eq] at h
      rw [bldGo, if_pos (.inr (by omega))]
    simp only [decide_eq_false_iff_not] at h2
    have hg : bldGo (s :: (namesOf xs).drop (i + 1)) t m p = if hasD .str (.string s) m then bldGo ((namesOf xs).drop (i + 1)) t m (p ++ [[.int (lookD .str (.string s) (.int 0) m).toInt]])
        else bldGo ((namesOf xs).drop (i + 1)) (t ++ bytesRow s ++ [[.int 0]]) (setRow .str (.string s) [.str s, .int t.length] m) (p ++ [[.int t.length]]) := by
      rw [bldGo, if_neg (by rintro (h | h) <;> omega)]
    rw [hg]
    have hl : (bytesRow s).length = s.size := bytesRow_length s
    refine ask (fun h3 => ?_) (fun h3 => ?_)
    · have h3 : hasD .str (.string s) m = false := notT h3
      rw [h3]
      refine askT (andT (decT (by omega)) (decT (by omega))) ?_
      refine askT (andT (decT (by simp only [List.length_append]; omega)) (decT (by simp only [List.length_append]; omega))) ?_
      refine askT (andT (decT (by simp only [List.length_cons, List.length_nil]; omega)) (decT (by simp only [List.length_cons, List.length_nil]; omega))) ?_
      exact ih (i + 1) _ _ _ (by omega) (by simp only [List.length_append, List.length_cons, List.length_nil]; omega) (by simp only [List.length_append, List.length_cons, List.length_nil]; omega)
    · have h3 : hasD .str (.string s) m = true := notF h3
      rw [h3]
      refine askT (andT (decT (by simp only [List.length_cons, List.length_nil]; omega)) (decT (by simp only [List.length_cons, List.length_nil]; omega))) ?_
      exact ih (i + 1) _ _ _ (by omega) (by omega) (by simp only [List.length_append, List.length_cons, List.length_nil]; omega)
theorem runs_bld (xs : List (List D)) : Runs st2 (14, Try.f14, 0) bldk0 (blds0 xs) (Is (.tup [.own u8s (bldR xs).t, .own i64s (bldR xs).p, .val (.int .i64 (bldR xs).e)])) := by
  refine Runs.of (fun n => bldp0 n xs) ?_
  refine ask (fun h => bld_nil ?_) (fun h => ?_)
  · simp only [decide_eq_true_eq] at h
    rw [bldR, if_pos (by omega)]
  simp only [decide_eq_false_iff_not] at h
  rw [bldR, if_neg (by omega)]
  refine Runs.of (fun n => bldp1 n _ xs xs.length 0 _) ?_
  by_cases hx : xs.length = 0
  · refine askF (decF (by omega)) ?_
    have : namesOf xs = [] := List.eq_nil_of_length_eq_zero (by rw [namesOf_length, hx])
    rw [this]
    refine askF (decF (by simp)) (bld_nil1 ?_)
    rw [bldGo, if_neg (by simp)]
  · refine askT (decT (by omega)) ?_
    have e0 : namesOf xs = cellS xs 0 0 :: (namesOf xs).drop 1 := by simpa using namesOf_drop xs 0 (by omega)
    rw [e0]
    have z0 : Int.toNat (0 : Int) = 0 := rfl
    rw [z0]
    generalize hs : cellS xs 0 0 = s
    have hw2 : IntKind.wrap .i64 ((0 : Int) + 1) = ((1 : Nat) : Int) := by rw [wrap64 (by omega) (by omega)]; omega
    rw [hw2]
    refine askT (andT (decT (by omega)) (decT (by omega))) ?_
    refine ask (fun h => bld_nil ?_) (fun h1 => ?_)
    · simp only [decide_eq_true_eq] at h
      rw [bldGo, if_pos (.inl (by omega))]
    simp only [decide_eq_false_iff_not] at h1
    refine ask (fun h => bld_nil ?_) (fun h2 => ?_)
    · simp only [decide_eq_true_eq] at h
      rw [bldGo, if_pos (.inr (by omega))]
    simp only [decide_eq_false_iff_not] at h2
    rw [bldGo, if_neg (by rintro (h | h) <;> omega)]
    have hl : (bytesRow s).length = s.size := bytesRow_length s
    refine ask (fun h3 => ?_) (fun h3 => ?_)
    · have h3 : hasD .str (.string s) [[.str .empty, .int 0]] = false := notT h3
      rw [if_neg (by rw [h3]; simp)]
      refine askT (andT (decT (by simp only [List.length_cons, List.length_nil]; omega)) (decT (by simp only [List.length_cons, List.length_nil]; omega))) ?_
      refine askT (andT (decT (by simp only [List.length_append, List.length_cons, List.length_nil]; omega)) (decT (by simp only [List.length_append, List.length_cons, List.length_nil]; omega))) ?_
      exact runs_bld_loop xs (by omega) (xs.length - 1) 1 _ _ _ (by omega) (by simp only [List.length_append, List.length_cons, List.length_nil]; omega) (by simp)
    · have h3 : hasD .str (.string s) [[.str .empty, .int 0]] = true := notF h3
      rw [if_pos h3]
      exact runs_bld_loop xs (by omega) (xs.length - 1) 1 _ _ _ (by omega) (by simp) (by simp)
theorem con_bld : ∀ vs outs r, eBld vs outs = some r → Contract Try.prog 14 vs outs r := by
  intro vs outs r h
  unfold eBld at h
  split at h
  · rename_i cts xs heq
    split at h
    · rename_i hc
      cases h
      refine Contract.cast (ks := [some [.str]]) ?_
      rw [heq, sameCTs_eq _ _ hc]
      exact st_con l2_ok Try.func14 (by kernel_rfl) (by kernel_rfl) rfl (by kernel_rfl) (by kernel_rfl) (runs_bld xs)
    · cases h
  · cases h
theorem l3_ok : ExtAll Try.prog l3 := .add con_bld (.add con_grt l2_ok)
end Go.Proofs.Ythloggdgdklgmaa.Ev
