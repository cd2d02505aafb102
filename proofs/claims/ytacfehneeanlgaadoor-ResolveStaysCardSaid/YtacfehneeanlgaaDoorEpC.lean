/- relasMay, Check, Write: that the functions compute what XEpD says. -/
import Derived.Test.YtacfehneeanlgaaDoorEpP
namespace Go.Proofs.YtacfehneeanlgaaDoor.Ev
open Go
set_option linter.unusedVariables false
set_option linter.unusedSimpArgs false
theorem cut0 (xs : List (List D)) (i : Nat) : cut xs 0 (i : Int) = xs.take i := by simp [cut]
theorem relsOk_get {L : List (List D)} (h : relsOk L = true) {e : List D} (he : e ∈ L) : 0 ≤ rI e 2 ∧ rI e 2 ≤ 255 := by
  have := List.all_eq_true.1 h e he
  simp only [Bool.and_eq_true, decide_eq_true_eq] at this
  exact this
theorem ok_no {c : Bool} {t : Tr} (h : ((Tr.ask c (.ret (.val (.bool false), [])) t).okB).getD false = true) : c = false ∧ (t.okB).getD false = true := by
  cases c with
  | true => exact absurd (show false = true from h) (by simp)
  | false => exact ⟨rfl, h⟩
theorem ok_if {c : Bool} {s t : Tr} (h : ((Tr.ask c s t).okB).getD false = true) : (c = true ∧ (s.okB).getD false = true) ∨ (c = false ∧ (t.okB).getD false = true) := by
  cases c with
  | true => exact .inl ⟨rfl, h⟩
  | false => exact .inr ⟨rfl, h⟩
theorem ok_need {c : Bool} {t : Tr} (h : ((Tr.ask c t .fail).okB).getD false = true) : (t.okB).getD false = true := by
  cases c with
  | true => exact h
  | false => exact absurd (show false = true from h) (by simp)
theorem ok_ret {b : Bool} (h : ((Tr.ret (.val (.bool b), [])).okB).getD false = true) : b = true := h
theorem tail_in {c n : Int} {p q : Bool} (h : ((Tr.ask p (.ask q (.ret (.val (.bool (c == -1)), [])) (.ask (decide (c ≥ 0)) (.ret (.val (.bool (decide (c < n))), [])) (.ret (.val (.bool false), [])))) .fail).okB).getD false = true) : c = -1 ∨ (0 ≤ c ∧ c < n) := by
  have h := ok_need h
  rcases ok_if h with ⟨_, h⟩ | ⟨_, h⟩
  · exact .inl (by simpa using ok_ret h)
  · rcases ok_if h with ⟨h1, h⟩ | ⟨_, h⟩
    · exact .inr ⟨by simpa using h1, by simpa using ok_ret h⟩
    · exact absurd (ok_ret h) (by simp)
/-- What holds of a relocation that may be. -/
theorem may_in {b k c d : Int} {nm : ByteArray} {x : List (List D)} {n : Int} (h : mayB b k c d nm x n = true) :
    fieldE k = 0 ∧ 0 ≤ b ∧ (k = 43 → b ≤ IntKind.wrap .i64 (x.length - if fieldN k < d then d else fieldN k)) ∧ (k ≠ 43 → b ≤ IntKind.wrap .i64 (x.length - fieldN k)) ∧ -2147483648 ≤ d ∧ d ≤ 4294967295 ∧ (k = 43 → 0 ≤ d ∧ d ≤ 62) ∧ (c = -1 ∨ (0 ≤ c ∧ c < n)) := by
  unfold mayB mayt0 at h
  rcases ok_if h with ⟨hk, h⟩ | ⟨hk, h⟩ <;> obtain ⟨a1, h⟩ := ok_no h <;> obtain ⟨a2, h⟩ := ok_no h <;> obtain ⟨a3, h⟩ := ok_no h <;> obtain ⟨a4, h⟩ := ok_no h <;> obtain ⟨a5, h⟩ := ok_no h <;> obtain ⟨a6, h⟩ := ok_no h <;> have h := ok_need h <;>
    rcases ok_if h with ⟨_, h⟩ | ⟨_, h⟩ <;> (try (obtain ⟨_, h⟩ := ok_no h; obtain ⟨_, h⟩ := ok_no h)) <;> have h := ok_need h <;>
    rcases ok_if h with ⟨_, h⟩ | ⟨_, h⟩ <;> (try (obtain ⟨_, h⟩ := ok_no h)) <;>
    rcases ok_if h with ⟨k43, h⟩ | ⟨k43, h⟩ <;> simp only [beq_iff_eq, beq_eq_false_iff_ne, ne_eq, bne_eq_false_iff_eq, decide_eq_false_iff_not] at hk k43 a1 a3 a4 a5 a6 <;>
    first
      | exact absurd hk k43
      | exact absurd k43 hk
      | (obtain ⟨b1, h⟩ := ok_no h; obtain ⟨b2, h⟩ := ok_no h; obtain ⟨_, h⟩ := ok_no h; simp only [decide_eq_false_iff_not] at b1 b2; exact ⟨a1, by omega, fun _ => by omega, fun hn => absurd hk hn, by omega, by omega, fun _ => ⟨by omega, by omega⟩, tail_in h⟩)
      | exact ⟨a1, by omega, fun hn => absurd hn hk, fun _ => by omega, by omega, by omega, fun hn => absurd hn hk, tail_in h⟩
theorem fieldN_in (k : Int) : 0 ≤ fieldN k ∧ fieldN k ≤ 8 := by
  unfold fieldN
  repeat' split
  all_goals omega
/-- .. in an object. -/
theorem relCk_in {a b k c d : Int} {S : List (List D)} {n : Int} (h : relCk a b k c d S n = 0) : 1 ≤ a ∧ a ≤ S.length ∧ secAll S = true ∧ n ≤ 64 ∧ mayB b k c d (rS (S.getD (a - 1).toNat []) 0) (rA (S.getD (a - 1).toNat []) 2) n = true ∧ S.length ≤ 16 := by
  unfold relCk at h
  split at h
  · cases h
  · split at h
    · cases h
    · split at h
      · cases h
      · rename_i h3
        split at h
        · cases h
        · split at h
          · rename_i h5
            exact ⟨by omega, by omega, by simpa using h3, by omega, h5, by omega⟩
          · cases h
theorem secAll_len {S : List (List D)} (h : secAll S = true) {e : List D} (he : e ∈ S) : (rA e 2).length ≤ 4096 := by
  have h := List.all_eq_true.1 h e he
  simp only [secOk, Bool.and_eq_true, decide_eq_true_eq] at h
  have := h.2
  split at this <;> simp only [Bool.and_eq_true, decide_eq_true_eq] at this <;> omega
theorem getD_mem {S : List (List D)} {i : Nat} (h : i < S.length) : S.getD i [] ∈ S := by
  rw [List.getD_eq_getElem?_getD, List.getElem?_eq_getElem h]; exact List.getElem_mem h
theorem relCk_wok {a b k c d : Int} {S : List (List D)} {n : Int} (h : relCk a b k c d S n = 0) : relWok b k c d = true := by
  obtain ⟨h1, h2, h3, h4, h5, h6⟩ := relCk_in h
  obtain ⟨m1, m2, m3, m4, m5, m6, m7, m8⟩ := may_in h5
  have hl := secAll_len h3 (getD_mem (S := S) (i := (a - 1).toNat) (by omega))
  have hf := fieldN_in k
  have hb : b ≤ 4096 := by
    by_cases hk : k = 43
    · have m7 := m7 hk
      have m3 := m3 hk
      split at m3 <;> rw [wrap64 (by omega) (by omega)] at m3 <;> omega
    · have m4 := m4 hk
      rw [wrap64 (by omega) (by omega)] at m4; omega
  simp only [relWok, Bool.and_eq_true, decide_eq_true_eq, beq_iff_eq]
  exact ⟨⟨⟨⟨⟨⟨m1, m2⟩, hb⟩, by omega⟩, by omega⟩, m5⟩, m6⟩
theorem runs_rl2 (S Y L G : List (List D)) (j : Nat) (r : List D) (T : List (List D)) (hT : T.length ≤ 1024) {Q : R → Prop} (bad : T.all (fun q => !relBad q r) = false → Q (.val (.bool false), [])) (good : T.all (fun q => !relBad q r) = true → Runs eo3 (35, Tryd.f35, 0) rlsk1 (rlss1 L (L.length : Nat) (IntKind.wrap .i64 ((j : Int) + 1)) S Y L G) Q) :
    ∀ (t : List (List D)) (i : Nat), T.drop i = t → i ≤ T.length → t.all (fun q => !relBad q r) = T.all (fun q => !relBad q r) → Runs eo3 (35, Tryd.f35, 0) rlsk2 (rlss2 L (L.length : Nat) (j : Nat) T (T.length : Nat) (i : Nat) S Y L G (rI r 0) (rI r 1) (rI r 2) (rI r 3) (rI r 4)) Q := by
  intro t
  induction t with
  | nil =>
    intro i ht hi he
    refine Runs.of (fun q => rlsp2 q L _ _ T _ _ S Y L G _ _ _ _ _) ?_
    unfold rlst2
    have := drop_nil ht
    exact askF (decF (by omega)) (good he.symm)
  | cons e t ih =>
    intro i ht hi he
    obtain ⟨h1, h2, h3⟩ := drop_cons ht
    refine Runs.of (fun q => rlsp2 q L _ _ T _ _ S Y L G _ _ _ _ _) ?_
    unfold rlst2
    have hw : IntKind.wrap .i64 ((i : Int) + 1) = ((i + 1 : Nat) : Int) := by rw [wrap64 (by omega) (by omega)]; omega
    refine askT (decT (by omega)) (askT (andT (decT (by omega)) (decT (by omega))) ?_)
    simp only [Int.toNat_natCast, cI h2, cS h2, cB h2, cA h2, hw]
    rw [List.all_cons] at he
    have hb : relBad e r = (decide (rI e 0 > rI r 0) || ((rI e 0 == rI r 0) && (decide (rI e 1 > rI r 1) || !apartB (rI e 1) (rI e 2) (rI e 4) (rI r 1) (rI r 2) (rI r 4)))) := rfl
    have no : relBad e r = true → Q (.val (.bool false), []) := fun h => bad (by rw [← he, h]; rfl)
    have yes : relBad e r = false → Runs eo3 (35, Tryd.f35, 0) rlsk2 (rlss2 L (L.length : Nat) (j : Nat) T (T.length : Nat) ((i + 1 : Nat) : Int) S Y L G (rI r 0) (rI r 1) (rI r 2) (rI r 3) (rI r 4)) Q := fun h => ih (i + 1) h3 (by omega) (by rw [← he, h]; rfl)
    refine ask (fun h => no (by rw [hb, h]; rfl)) (fun ha => ask (fun h => ask (fun hc => no (by rw [hb, ha, h, hc]; rfl)) (fun hc => ask (fun hd => no (by rw [hb, ha, h, hc, hd]; rfl)) (fun hd => yes (by rw [hb, ha, h, hc, hd]; rfl)))) (fun h => yes (by rw [hb, ha, h]; rfl)))
theorem runs_rl1 (S Y L G : List (List D)) (hL : L.length ≤ 256) (hk : relsOk L = true) : ∀ (t : List (List D)) (i : Nat), L.drop i = t → i ≤ L.length → relsGo S Y.length L t i = relsGo S Y.length L L 0 → Runs eo3 (35, Tryd.f35, 0) rlsk1 (rlss1 L (L.length : Nat) (i : Nat) S Y L G) (Is (.val (.bool (relsB S Y L)))) := by
  intro t
  induction t with
  | nil =>
    intro i ht hi he
    refine Runs.of (fun q => rlsp1 q L _ _ S Y L G) ?_
    unfold rlst1
    have := drop_nil ht
    refine askF (decF (by omega)) (is_refl ?_)
    rw [relsB, ← he, decT hL]; rfl
  | cons e t ih =>
    intro i ht hi he
    obtain ⟨h1, h2, h3⟩ := drop_cons ht
    have hm := mem_of_drop ht
    obtain ⟨k0, k1⟩ := relsOk_get hk hm
    refine Runs.of (fun q => rlsp1 q L _ _ S Y L G) ?_
    unfold rlst1
    have hw : IntKind.wrap .i64 ((i : Int) + 1) = ((i + 1 : Nat) : Int) := by rw [wrap64 (by omega) (by omega)]; omega
    refine askT (decT (by omega)) (askT (andT (decT (by omega)) (decT (by omega))) ?_)
    simp only [Int.toNat_natCast, cI h2, cS h2, cB h2, cA h2, hw]
    have c0 : relsGo S Y.length L (e :: t) i = ((relCk (rI e 0) (rI e 1) (rI e 2) (rI e 3) (rI e 4) S Y.length == 0) && (!(rI e 2 == 43) || fillB (cut (rA (S.getD (rI e 0 - 1).toNat []) 2) (rI e 1) (rI e 1 + rI e 4))) && (L.take i).all (fun q => !relBad q e) && relsGo S Y.length L t (i + 1)) := rfl
    have loop : ((L.take i).all (fun q => !relBad q e) && relsGo S Y.length L t (i + 1)) = relsGo S Y.length L L 0 → Tr.prop eo3 (35, Tryd.f35, 0) (Is (.val (.bool (relsB S Y L)))) (Tr.ask (okBounds (0 : Int) (i : Nat) (L.length : Nat)) (.go 0 rlsk2 (rlss2 L (L.length : Nat) (i : Nat) (cut L (0 : Int) (i : Nat)) ((cut L (0 : Int) (i : Nat)).length : Nat) 0 S Y L G (rI e 0) (rI e 1) (rI e 2) (rI e 3) (rI e 4))) .fail) := fun he => by
      refine askT (okB (by omega) (by omega) (by omega)) ?_
      rw [cut0]
      refine runs_rl2 S Y L G i e (L.take i) (by rw [List.length_take]; omega) (fun hb => is_refl ?_) (fun hb => ?_) (L.take i) 0 rfl (by omega) rfl
      · rw [relsB, ← he, hb, Bool.false_and, Bool.and_false]
      · rw [hw]
        rw [hb, Bool.true_and] at he
        exact ih (i + 1) h3 (by omega) he
    rw [c0] at he
    refine askT (show (decide (0 ≤ rI e 2) && decide (rI e 2 ≤ 255)) = true from andT (decT k0) (decT k1)) (ask (fun h => is_refl ?_) (fun h => ?_))
    · have h' : (relCk (rI e 0) (rI e 1) (rI e 2) (rI e 3) (rI e 4) S Y.length == 0) = false := by simpa [bne] using h
      rw [relsB, ← he, h', Bool.false_and, Bool.false_and, Bool.false_and, Bool.and_false]
    · have h' : (relCk (rI e 0) (rI e 1) (rI e 2) (rI e 3) (rI e 4) S Y.length == 0) = true := by simpa [bne] using h
      rw [h', Bool.true_and] at he
      refine ask (fun hk43 => ?_) (fun hk43 => ?_)
      · obtain ⟨n1, n2, n3, n4, n5, n6⟩ := relCk_in (beq_iff_eq.1 h')
        obtain ⟨m1, m2, m3, m4, m5, m6, m7, m8⟩ := may_in n5
        have k43 : rI e 2 = 43 := beq_iff_eq.1 hk43
        have m7 := m7 k43
        have m3 := m3 k43
        have hin : (rI e 0 - 1).toNat < S.length := by omega
        have hl := secAll_len n3 (getD_mem hin)
        have hf := fieldN_in (rI e 2)
        have ew : IntKind.wrap .i64 (rI e 0 - 1) = rI e 0 - 1 := wrap64 (by omega) (by omega)
        have hb : rI e 1 + rI e 4 ≤ (rA (S.getD (rI e 0 - 1).toNat []) 2).length := by
          split at m3 <;> rw [wrap64 (by omega) (by omega)] at m3 <;> omega
        have ew2 : IntKind.wrap .i64 (rI e 1 + rI e 4) = rI e 1 + rI e 4 := wrap64 (by omega) (by omega)
        have ea : cellA S (rI e 0 - 1).toNat 2 = rA (S.getD (rI e 0 - 1).toNat []) 2 := rfl
        simp only [ew, ew2, ea]
        rw [hk43, Bool.not_true, Bool.false_or] at he
        refine askT (andT (decT (by omega)) (decT (by omega))) (askT (okB (by omega) (by omega) (by omega)) (askT (show decide ((cut (rA (S.getD (rI e 0 - 1).toNat []) 2) (rI e 1) (rI e 1 + rI e 4)).length ≤ 1048576) = true from decT ?_) (ask (fun hf => is_refl ?_) (fun hf => ?_))))
        · unfold cut; rw [List.length_take, List.length_drop]; omega
        · rw [relsB, ← he, notT hf, Bool.false_and, Bool.false_and, Bool.and_false]
        · exact loop (by rw [← he, notF hf, Bool.true_and])
      · exact loop (by rw [← he, hk43, Bool.not_false, Bool.true_or, Bool.true_and])
theorem con_rls : ∀ vs v, pRls vs = true → gRls vs = some v → Contract Tryd.prog 35 vs [] (v, []) := by
  intro vs v hp h
  unfold gRls at h
  split at h <;> cases h
  rename_i S Y L G
  refine el_con lc3_ok Tryd.func35 (by kernel_rfl) (by kernel_rfl) rfl (by kernel_rfl) (by kernel_rfl) (Runs.of (fun q => rlsp0 q S Y L G) ?_)
  unfold rlst0
  refine ask (fun h => is_refl ?_) (fun h => ?_)
  · rw [relsB, decF (p := L.length ≤ 256) (by have := of_decide_eq_true h; omega), Bool.false_and]
  · exact runs_rl1 S Y L G (by have := of_decide_eq_false h; omega) hp L 0 rfl (by omega) rfl
theorem lc4_ok : ExtAll Tryd.prog lc4 := .normP con_rls lc3_ok

/-! ### Check -/
theorem runs_chk (S Y L G : List (List D)) (hS : S.length ≤ 1048576) (hY : Y.length ≤ 1048576) (hk : relsOk L = true) (hG : G.length ≤ 1048576) (hg : lensOk 1 1048576 G = true) : ∀ (t : List (List D)) (i : Nat) (ok : Bool), S.drop i = t → i ≤ S.length → (ok && secAll t) = (decide (S.length ≤ 16) && secAll S) → Runs ep4 (25, Tryd.f25, 0) ckok1 (ckos1 ok S (S.length : Nat) (i : Nat) S Y L G) (Is (.val (.int .i64 (if chkB S Y L G = true then 0 else 8)))) := by
  intro t
  induction t with
  | nil =>
    intro i ok ht hi he
    refine Runs.of (fun q => ckop1 q ok S _ _ S Y L G) ?_
    unfold ckot1
    have := drop_nil ht
    have he : ok = (decide (S.length ≤ 16) && secAll S) := by rw [← he]; simp [secAll]
    have c0 : chkB S Y L G = (ok && symsB S Y && relsB S Y L && grpsB S G) := by rw [he]; rfl
    rw [c0]
    refine askF (decF (by omega)) (ask (fun h => is_refl ?_) (fun h1 => askT (show decide (Y.length ≤ 1048576) = true from decT hY) (ask (fun h => is_refl ?_) (fun h2 => askT hk (ask (fun h => is_refl ?_) (fun h3 => askT (show (decide (G.length ≤ 1048576) && lensOk 1 1048576 G) = true from andT (decT hG) hg) (ask (fun h => is_refl ?_) (fun h4 => is_refl ?_))))))))
    · rw [notT h]; rfl
    · rw [notF h1, notT h]; rfl
    · rw [notF h1, notF h2, notT h]; rfl
    · rw [notF h1, notF h2, notF h3, notT h]; rfl
    · rw [notF h1, notF h2, notF h3, notF h4]; rfl
  | cons e t ih =>
    intro i ok ht hi he
    obtain ⟨h1, h2, h3⟩ := drop_cons ht
    refine Runs.of (fun q => ckop1 q ok S _ _ S Y L G) ?_
    unfold ckot1
    have hw : IntKind.wrap .i64 ((i : Int) + 1) = ((i + 1 : Nat) : Int) := by rw [wrap64 (by omega) (by omega)]; omega
    refine askT (decT (by omega)) (askT (andT (decT (by omega)) (decT (by omega))) ?_)
    simp only [Int.toNat_natCast, cI h2, cS h2, cB h2, cA h2, hw]
    have hc : secAll (e :: t) = (secOk (rS e 0) (rI e 1) (rA e 2).length (rI e 3) && secAll t) := rfl
    rw [hc] at he
    refine ask (fun h => ?_) (fun h => ?_)
    · refine ih (i + 1) _ h3 (by omega) ?_
      rw [← he, h, Bool.true_and]
      congr 1
      rw [secE]
      cases secOk (rS e 0) (rI e 1) (rA e 2).length (rI e 3) <;> rfl
    · refine ih (i + 1) _ h3 (by omega) ?_
      rw [← he, h]; rfl
theorem con_chkO : ∀ vs v, pChkO vs = true → gChkO vs = some v → Contract Tryd.prog 25 vs [] (v, []) := by
  intro vs v hp h
  unfold gChkO at h
  split at h <;> cases h
  rename_i S Y L G
  simp only [pChkO, Bool.and_eq_true, decide_eq_true_eq] at hp
  obtain ⟨⟨⟨⟨p1, p2⟩, p3⟩, p4⟩, p5⟩ := hp
  refine el_con lc4_ok Tryd.func25 (by kernel_rfl) (by kernel_rfl) rfl (by kernel_rfl) (by kernel_rfl) (Runs.of (fun q => ckop0 q S Y L G) ?_)
  unfold ckot0
  refine runs_chk S Y L G p1 p2 p3 p4 p5 S 0 _ rfl (by omega) ?_
  congr 1
  rw [decide_eq_decide]; omega
theorem lc5_ok : ExtAll Tryd.prog lc5 := .normP con_chkO lc4_ok

/-! ### Write: how long all is -/
theorem secsF_len (m : List (List D)) : ∀ (t : List (List D)) (i : Nat) (f : Fl), lensOk 2 4096 t = true → (secsF m t i f).b.length ≤ f.b.length + 8192 * t.length ∧ (secsF m t i f).heads.length = f.heads.length + t.length ∧ (secsF m t i f).names.length = f.names.length + t.length
  | [], i, f, _ => by simp [secsF]
  | e :: t, i, f, h => by
    have h' : (decide ((rA e 2).length ≤ 4096) && lensOk 2 4096 t) = true := h
    simp only [Bool.and_eq_true, decide_eq_true_eq] at h'
    have := secsF_len m t (i + 1) (partF f (rS e 0) (secHd m i e) (rA e 2)) h'.2
    have hl := partF_len f (rS e 0) (secHd m i e) (rA e 2)
    have e0 : secsF m (e :: t) i f = secsF m t (i + 1) (partF f (rS e 0) (secHd m i e) (rA e 2)) := rfl
    rw [e0, List.length_cons]
    omega
theorem grpsF_len (N : Int) : ∀ (G : List (List D)) (f : Fl), lensOk 1 16 G = true → (grpsF N G f).b.length ≤ f.b.length + 8192 * G.length ∧ (grpsF N G f).heads.length = f.heads.length + G.length ∧ (grpsF N G f).names.length = f.names.length + G.length
  | [], f, _ => by simp [grpsF]
  | e :: t, f, h => by
    have h' : (decide ((rA e 1).length ≤ 16) && lensOk 1 16 t) = true := h
    simp only [Bool.and_eq_true, decide_eq_true_eq] at h'
    have := grpsF_len N t (partF f (sGrp ++ rS e 0) ⟨0, 17, 0, 0, 0, 0, N, 0, 4, 4⟩ (numsB 4 [[.int 1]] ++ numsB 4 (rA e 1))) h'.2
    have hl := partF_len f (sGrp ++ rS e 0) ⟨0, 17, 0, 0, 0, 0, N, 0, 4, 4⟩ (numsB 4 [[.int 1]] ++ numsB 4 (rA e 1))
    have n1 := numsB_len 4 (by omega) [[.int 1]]
    have n2 := numsB_len 4 (by omega) (rA e 1)
    rw [List.length_append] at hl
    simp only [List.length_cons, List.length_nil] at n1
    have e0 : grpsF N (e :: t) f = grpsF N t (partF f (sGrp ++ rS e 0) ⟨0, 17, 0, 0, 0, 0, N, 0, 4, 4⟩ (numsB 4 [[.int 1]] ++ numsB 4 (rA e 1))) := rfl
    rw [e0, List.length_cons]
    omega
theorem relsF_len (N : Int) (S : List (List D)) : ∀ (W : List (List D)) (i : Nat) (f : Fl), (∀ e ∈ W, (rA e 0).length ≤ 8192) → (relsF N S W i f).b.length ≤ f.b.length + 12288 * W.length ∧ (relsF N S W i f).heads.length ≤ f.heads.length + W.length ∧ (relsF N S W i f).heads.length + f.names.length = (relsF N S W i f).names.length + f.heads.length
  | [], i, f, _ => by simp [relsF]; omega
  | e :: t, i, f, h => by
    have h1 := h e List.mem_cons_self
    have e0 : relsF N S (e :: t) i f = relsF N S t (i + 1) (if 0 < (rA e 0).length then partF f (sRel ++ rS (S.getD i []) 0) ⟨0, 4, 64, 0, 0, 0, N, ((i + 1 : Nat) : Int), 8, 24⟩ (rA e 0) else f) := rfl
    rw [e0, List.length_cons]
    split
    · have := relsF_len N S t (i + 1) (partF f (sRel ++ rS (S.getD i []) 0) ⟨0, 4, 64, 0, 0, 0, N, ((i + 1 : Nat) : Int), 8, 24⟩ (rA e 0)) fun e he => h e (List.mem_cons_of_mem _ he)
      have hl := partF_len f (sRel ++ rS (S.getD i []) 0) ⟨0, 4, 64, 0, 0, 0, N, ((i + 1 : Nat) : Int), 8, 24⟩ (rA e 0)
      omega
    · have := relsF_len N S t (i + 1) f fun e he => h e (List.mem_cons_of_mem _ he)
      omega
theorem symsF_len (P : List (List D)) : ∀ (t : List (List D)) (i : Nat), (symsF P t i).length ≤ 32 * t.length
  | [], i => by simp [symsF]
  | e :: t, i => by
    have := symsF_len P t (i + 1)
    have h2 := symRow_len e (cellI P i 0)
    rw [symsF, List.length_append, List.length_cons]; omega
theorem hdB_len (h : Hd) : (hdB h).length ≤ 64 := by
  unfold hdB
  split
  · simp [Hd.b, leB]
  · simp
/-! ### Write: the run -/
theorem lc6_ok : ExtAll Tryd.prog lc6 := lc5_ok

end Go.Proofs.YtacfehneeanlgaaDoor.Ev
