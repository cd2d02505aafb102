/- A part of the proof: what the statement needs, and nothing else. -/
import Derived.Test.YtkcopbnaleiocaaZb27
namespace Go.Proofs.Ytkcopbnaleiocaa.Ev
open Go
set_option linter.unusedVariables false
set_option linter.unusedSimpArgs false
theorem hd_zero : zeros 64 = hd0.b := by kernel_rfl
theorem secHd_okS {m : List (List D)} (hm : ∀ e ∈ m, InG (e.getD 1 default)) (i : Nat) {e : List D} (h : secOk (rS e 0) (rI e 1) (rA e 2).length (rI e 3) = true) : (⟨rS e 0, secHd m i e, rA e 2⟩ : Pt).okS = true ∧ padOk (secHd m i e).align = true := by
  have hl : InG (lookD (.int .i64) (.int .i64 ((i + 1 : Nat) : Int)) (.int 0) m) := lookD_in (.inl rfl) hm
  have hf := flag_in (kindV (rS e 0)).toNat
  simp only [secOk, Bool.and_eq_true, decide_eq_true_eq, alignOk] at h
  obtain ⟨⟨h1, ⟨h2, h3⟩, h4⟩, h5⟩ := h
  have fl : s8 (secHd m i e).flags = true := by
    show s8 (IntKind.wrap .i64 (List.getD [0, 6, 2, 3, 3] (kindV (rS e 0)).toNat 0 + (lookD (.int .i64) (.int .i64 ((i + 1 : Nat) : Int)) (.int 0) m).toInt)) = true
    rcases hl with hl | hl <;> rw [hl, wrap64 (by omega) (by omega)] <;> exact andT (decT (by omega)) (decT (by omega))
  have ty : f4 (secHd m i e).type = true := by
    show f4 (if kindV (rS e 0) = 4 then 8 else 1) = true
    split <;> rfl
  have sz : s8 (secHd m i e).size = true := by
    show s8 (if kindV (rS e 0) = 4 then rI e 3 else 0) = true
    split
    · rename_i hk
      rw [if_pos hk] at h5
      simp only [Bool.and_eq_true, decide_eq_true_eq] at h5
      exact andT (decT h5.1.2) (decT (by omega))
    · rfl
  refine ⟨andT (andT (andT (andT (andT (andT (andT ty fl) rfl) sz) rfl) rfl) (andT (decT (show 0 ≤ rI e 1 by omega)) (decT (show rI e 1 < 9223372036854775808 by omega)))) rfl, ?_⟩
  exact andT (decT (show 1 ≤ rI e 1 by omega)) (decT (show rI e 1 ≤ 4096 by omega))
theorem secP_ok {m : List (List D)} (hm : ∀ e ∈ m, InG (e.getD 1 default)) : ∀ {S : List (List D)} {i : Nat}, secAll S = true → ∀ p ∈ secP m S i, p.okS = true ∧ padOk p.hd.align = true
  | [], i, _, p, hp => by cases hp
  | e :: t, i, h, p, hp => by
    have h' : (secOk (rS e 0) (rI e 1) (rA e 2).length (rI e 3) && secAll t) = true := h
    simp only [Bool.and_eq_true] at h'
    rcases List.mem_cons.1 hp with rfl | hp
    · exact secHd_okS hm i h'.1
    · exact secP_ok hm h'.2 p hp
theorem grpP_ok {N : Int} (hN : f4 N = true) {G : List (List D)} : ∀ p ∈ grpP N G, p.okS = true ∧ padOk p.hd.align = true := fun p hp => by
  obtain ⟨e, _, rfl⟩ := List.mem_map.1 hp
  exact ⟨andT (andT (andT (andT (andT (andT (andT rfl rfl) rfl) rfl) hN) rfl) rfl) rfl, rfl⟩
theorem relP_ok {N : Int} (hN : f4 N = true) {S : List (List D)} : ∀ {W : List (List D)} {i : Nat}, i + W.length ≤ 1048576 → ∀ p ∈ relP N S W i, p.okS = true ∧ padOk p.hd.align = true
  | [], i, _, p, hp => by cases hp
  | e :: t, i, hi, p, hp => by
    rw [List.length_cons] at hi
    rw [relP] at hp
    rcases List.mem_append.1 hp with hp | hp
    · split at hp
      · rw [List.mem_singleton.1 hp]
        exact ⟨andT (andT (andT (andT (andT (andT (andT rfl rfl) rfl) rfl) hN) (andT (decT (show (0 : Int) ≤ ((i + 1 : Nat) : Int) by omega)) (decT (show ((i + 1 : Nat) : Int) < 4294967296 by omega)))) rfl) rfl, rfl⟩
      · cases hp
    · exact relP_ok hN (by omega) p hp
theorem allP_ok {S Y L G : List (List D)} (h : chkB S Y L G = true) : ∀ p ∈ allP S Y L G, p.okS = true ∧ padOk p.hd.align = true := by
  simp only [chkB, Bool.and_eq_true, decide_eq_true_eq] at h
  obtain ⟨⟨⟨⟨h1, h2⟩, h3⟩, h4⟩, h5⟩ := h
  simp only [symsB, Bool.and_eq_true, decide_eq_true_eq] at h3
  simp only [grpsB, Bool.and_eq_true, decide_eq_true_eq] at h5
  have hf := full_le' (byS S.length L)
  rw [byS_len] at hf
  have hl := locals_le' Y
  have hN : f4 (symFirst S L G : Nat) = true := f4_nat _ (by unfold symFirst; omega)
  have hN1 : f4 ((symFirst S L G + 1 : Nat) : Int) = true := f4_nat _ (by unfold symFirst; omega)
  have hl1 : f4 ((locals Y + 1 : Nat) : Int) = true := f4_nat _ (by omega)
  intro p hp
  rcases List.mem_append.1 hp with hp | hp
  · rcases List.mem_append.1 hp with hp | hp
    · exact secP_ok (grpMap_in (G := G) (m := []) (fun e he => by cases he)) h2 p hp
    · rcases List.mem_append.1 hp with hp | hp
      · exact grpP_ok hN p hp
      · exact relP_ok hN (by rw [byS_len]; omega) p hp
  · simp only [List.mem_cons, List.not_mem_nil, or_false] at hp
    rcases hp with rfl | rfl | rfl
    · exact ⟨andT (andT (andT (andT (andT (andT (andT rfl rfl) rfl) rfl) hN1) hl1) rfl) rfl, rfl⟩
    · exact ⟨rfl, rfl⟩
    · exact ⟨rfl, rfl⟩
structure Laid (S Y L G : List (List D)) (hs : List Hd) : Prop where
  pl : Pl (wrB S Y L G) (allP S Y L G) hs
  hds : Has (wrB S Y L G) (wrPl S Y L G) ((hd0 :: nmd (wrTb S Y L G).p hs 0).map Hd.b).flatten
  ok : ∀ h ∈ hd0 :: nmd (wrTb S Y L G).p hs 0, h.okS = true
  many : hs.length + 1 = wrMn S Y L G
theorem laid {S Y L G : List (List D)} (h : chkB S Y L G = true) (hl : (wrAll S Y L G).length ≤ 65536) : ∃ hs, Laid S Y L G hs := by
  obtain ⟨m1, m2⟩ := wrMn_in h
  have hpl := wrPl_ge h
  have hlen := wrAll_len h
  obtain ⟨hs, c, e1, e2, e3, e4⟩ := placed (allP S Y L G) ⟨zeros 64, [], []⟩ (fun p hp => (allP_ok h p hp).2) (by simp [zeros])
  rw [← wrF3_parts] at e2 e3
  rw [List.nil_append] at e2
  have hF : (firstB (wrPl S Y L G : Nat) (wrMn S Y L G : Nat)).length = 64 := first_len (by omega) (by omega)
  have e0 : padB (wrF3 S Y L G).b 8 = (wrF3 S Y L G).b ++ zeros (padN (wrF3 S Y L G).b.length 8).toNat := by rw [padB, if_pos (show padOk 8 = true from rfl)]
  have hpl2 : Pl (wrB S Y L G) (allP S Y L G) hs := pl_mono (fun o x ho hx => by
    rw [wrB_eq h, wrAll, e0]
    exact has_first (has_app (has_app (has_app hx _) _) _) ho hF) e3
  have hok := nmd_ok (wr_pos h) (by rw [wrB_len h]; omega) 0 hpl2 (fun p hp => (allP_ok h p hp).1)
  have hmany : hs.length + 1 = wrMn S Y L G := by rw [wrMn, e2, List.length_map]
  refine ⟨hs, hpl2, ?_, fun q hq => ?_, hmany⟩
  · rw [wrB_eq h]
    refine has_first ?_ hpl hF
    have e5 : ((hd0 :: nmd (wrTb S Y L G).p hs 0).map Hd.b).flatten = zeros 64 ++ headsF (wrTb S Y L G).p (wrF3 S Y L G).heads 0 := by
      rw [e2, headsF_nmd hs 0 hok, hd_zero]; rfl
    rw [e5, wrAll, List.append_assoc]
    exact ⟨padB (wrF3 S Y L G).b 8, [], by rw [List.append_nil], rfl⟩
  · rcases List.mem_cons.1 hq with rfl | hq
    · rfl
    · exact hok q hq
theorem all_read {S Y L G : List (List D)} (h : chkB S Y L G = true) (hl : (wrAll S Y L G).length ≤ 65536) {hs : List Hd} (hL : Laid S Y L G hs) : allF (rd0 (wrB S Y L G)) = ⟨wrB S Y L G, (hd0 :: nmd (wrTb S Y L G).p hs 0).map Hd.row, [], [], [], [], 0⟩ := by
  obtain ⟨m1, m2⟩ := wrMn_in h
  have hpl := wrPl_ge h
  have hlen := wrAll_len h
  have hlb := wrB_len h
  have g1 : getV (wrB S Y L G) 40 8 = (wrPl S Y L G : Nat) := by
    rcases wrB_place h with q | q
    · exact q
    · omega
  have g2 := wrB_many h
  have ge : ∀ a k : Int, siz k = true → 0 ≤ a → a + k ≤ 64 → getE (wrB S Y L G) a k = 0 := fun a k hk h0 h1 => by
    unfold getE
    rw [hk]
    simp only [Bool.not_true, Bool.false_eq_true, if_false]
    rw [if_neg (by omega)]
  have ea : allE (wrB S Y L G) 0 = 0 := by
    rw [allE, g2, if_neg (by omega), if_neg (by omega), numE, ge 60 2 rfl (by omega) (by omega), if_neg (by simp), numE, ge 40 8 rfl (by omega) (by omega), if_neg (by simp)]
  have hm : ((wrMn S Y L G : Nat) : Int).toNat = (hd0 :: nmd (wrTb S Y L G).p hs 0).length := by
    rw [List.length_cons, nmd_len, hL.many]; omega
  have := all_go (b := wrB S Y L G) (p := wrPl S Y L G) (by omega) (hd0 :: nmd (wrTb S Y L G).p hs 0) 0 (rd0 (wrB S Y L G)) rfl rfl hL.ok (by rw [Nat.mul_zero, Nat.add_zero]; exact hL.hds)
  have e0 : ({ rd0 (wrB S Y L G) with e := allE (rd0 (wrB S Y L G)).b (rd0 (wrB S Y L G)).e } : Rd) = rd0 (wrB S Y L G) := rd_eta rfl ea
  rw [allF, e0]
  show allGo (getV (wrB S Y L G) 40 8) (getV (wrB S Y L G) 60 2).toNat 0 (rd0 (wrB S Y L G)) = _
  rw [g1, g2, hm, this]; rfl
theorem tab_get {b H T : List (List D)} {j o : Nat} (h4 : cellI H j 4 = (o : Nat)) (h5 : cellI H j 5 = (T.length : Nat)) (hT : Has b o T) {r : Rd} (hr : RdB b H r) {a : Int} (ha : getSE T a = 0) : nameS r j a = getS T a ∧ nameE r j a = 0 := by
  have e : cutV r.b (cellI r.h j 4) (cellI r.h j 5) r.e = T := by rw [hr.hb, hr.hh, hr.he, h4, h5, has_cutV hT]
  have e2 : cutE r.b (cellI r.h j 4) (cellI r.h j 5) r.e = 0 := by rw [hr.hb, hr.hh, hr.he, h4, h5, has_cutE hT]
  exact ⟨by rw [nameS, e], by rw [nameE, e, ha, e2, if_neg (by simp)]⟩
theorem sec_nm {S Y L G : List (List D)} (h : chkB S Y L G = true) : nmAll ((wrF2 S Y L G).names ++ [[D.str sShs]]) ∧ ((wrF2 S Y L G).names ++ [[D.str sShs]]).length ≤ 1000 := by
  simp only [chkB, Bool.and_eq_true, decide_eq_true_eq] at h
  obtain ⟨⟨⟨⟨h1, h2⟩, h3⟩, h4⟩, h5⟩ := h
  simp only [grpsB, Bool.and_eq_true, decide_eq_true_eq] at h5
  have hS : ∀ e ∈ S, nmG 32 (rS e 0) := fun e he => (secAll_get h2 he).1
  have hG := grpsGo_get (by omega) h5.1
  have hn := wrF2_nm (Y := Y) (L := L) hS (fun e he => (hG e he).1)
  exact ⟨nmAll_snoc hn.1 shs_g, by rw [List.length_append]; simp only [List.length_cons, List.length_nil]; omega⟩
theorem sym_nm {S Y L G : List (List D)} (h : chkB S Y L G = true) : nmAll (namesY Y) ∧ (namesY Y).length ≤ 1000 ∧ ∀ e ∈ Y, symE (rS e 0) (rI e 1) (rB e 2) (rI e 3) (rI e 4) (rI e 5) S.length = 0 := by
  simp only [chkB, Bool.and_eq_true, decide_eq_true_eq] at h
  obtain ⟨⟨⟨⟨h1, h2⟩, h3⟩, h4⟩, h5⟩ := h
  simp only [symsB, Bool.and_eq_true, decide_eq_true_eq] at h3
  have hE : ∀ e ∈ Y, symE (rS e 0) (rI e 1) (rB e 2) (rI e 3) (rI e 4) (rI e 5) S.length = 0 := fun e he => by
    have := symsGo_get h3.1 e he
    simp only [symIn, Bool.and_eq_true, beq_iff_eq] at this
    exact this.1
  exact ⟨namesY_nm fun e he => symE_g (hE e he), by simp only [namesY, List.length_map]; omega, hE⟩
theorem symE_in {s : ByteArray} {b : Int} {h : Bool} {w v z n : Int} (hn : n ≤ 16) (he : symE s b h w v z n = 0) : symE s b h w v z 16 = 0 ∧ standsB b h w v z 16 = true := by
  unfold symE at he
  split at he
  · cases he
  · split at he
    · rename_i q
      simp only [Bool.and_eq_true] at q
      have := (stands_in q.2 hn).2.2.2.2.2.2.2
      refine ⟨?_, this⟩
      rw [symE, if_neg (by decide), if_pos (by rw [q.1, this]; rfl)]
    · cases he
theorem grpIn_get {n : Int} : ∀ {g : List (List D)} {last : Int} {tk tk' : List (List D)}, grpIn n g last tk = some tk' → ∀ e ∈ g, last < rI e 0 ∧ rI e 0 ≤ n
  | [], _, _, _, _, e, he => by cases he
  | x :: t, last, tk, tk', h, e, he => by
    unfold grpIn at h
    split at h
    · cases h
    · split at h
      · cases h
      · split at h
        · cases h
        · rcases List.mem_cons.1 he with rfl | he
          · omega
          · have := grpIn_get h e he; omega
theorem grpsGo_mem {n : Int} : ∀ {G m tk : List (List D)}, grpsGo n G m tk = true → ∀ e ∈ G, ∀ q ∈ rA e 1, 0 < rI q 0 ∧ rI q 0 ≤ n
  | [], _, _, _, e, he => by cases he
  | g :: t, m, tk, h, e, he => by
    unfold grpsGo at h
    split at h
    · cases h
    · split at h
      · cases h
      · split at h
        · cases h
        · split at h
          · cases h
          · rename_i tk' ht
            rcases List.mem_cons.1 he with rfl | he
            · exact grpIn_get ht
            · exact grpsGo_mem h e he
theorem byS_at {n : Nat} {L : List (List D)} {j : Nat} {e : List D} (h : (byS n L)[j]? = some e) : rA e 0 = relsOf (0 + j + 1) L := by
  rw [byS, List.getElem?_map] at h
  rcases Nat.lt_or_ge j n with hj | hj
  · rw [List.getElem?_range hj] at h
    cases h
    rw [Nat.zero_add]; rfl
  · rw [List.getElem?_eq_none (by rw [List.length_range]; omega)] at h; cases h
theorem read_back {S Y L G : List (List D)} (h : chkB S Y L G = true) (sh : SObj S Y L G) (hl : (wrAll S Y L G).length ≤ 65536) :
    (readF (wrB S Y L G)).s = S ∧ (readF (wrB S Y L G)).y = Y ∧ (readF (wrB S Y L G)).l = L ∧ (readF (wrB S Y L G)).g = G ∧ (readF (wrB S Y L G)).e = 0 := by
  obtain ⟨hs, hL⟩ := laid h hl
  have ha := all_read h hl hL
  obtain ⟨h1, h2, e12, p1, p2⟩ := pl_app hL.pl
  obtain ⟨n1, n2⟩ := sec_nm h
  obtain ⟨y1, y2, y3⟩ := sym_nm h
  have hc := h
  simp only [chkB, Bool.and_eq_true, decide_eq_true_eq] at hc
  obtain ⟨⟨⟨⟨c1, c2⟩, c3⟩, c4⟩, c5⟩ := hc
  simp only [grpsB, Bool.and_eq_true, decide_eq_true_eq] at c5
  simp only [relsB, Bool.and_eq_true, decide_eq_true_eq] at c4
  cases p2 with
  | cons o1 q1 x1 p2 =>
  cases p2 with
  | cons o2 q2 x2 p2 =>
  cases p2 with
  | cons o3 q3 x3 p2 =>
  cases p2
  subst e12
  generalize hP : (wrTb S Y L G).p = P at *
  generalize hH : (hd0 :: nmd P (h1 ++ [(symP S Y L G).put o1, (strP Y).put o2, (shsP S Y L G).put o3]) 0).map Hd.row = H at *
  have eH : ∃ A r1 r2 r3, H = A ++ [r1, r2, r3] ∧ rI r2 4 = (o2 : Nat) ∧ rI r2 5 = ((bldR (namesY Y)).t.length : Nat) ∧ rI r3 4 = (o3 : Nat) ∧ rI r3 5 = ((wrTb S Y L G).t.length : Nat) := by
    rw [← hH, nmd_app, ← List.cons_append, List.map_append]
    exact ⟨_, _, _, _, rfl, rfl, rfl, rfl, rfl⟩
  obtain ⟨A, r1, r2, r3, eH, f2, f3, f4', f5⟩ := eH
  have lH : H.length = A.length + 3 := by rw [eH, List.length_append]; rfl
  have k3 : H.getD (H.length - 1) [] = r3 := by
    rw [lH, eH, getD_right (by omega), show A.length + 3 - 1 - A.length = 2 from by omega]; rfl
  have k2 : H.getD (H.length - 2) [] = r2 := by
    rw [lH, eH, getD_right (by omega), show A.length + 3 - 2 - A.length = 1 from by omega]; rfl
  have t3 : ∀ r, RdB (wrB S Y L G) H r → ∀ a, getSE (wrTb S Y L G).t a = 0 → nameS r (r.h.length - 1) a = getS (wrTb S Y L G).t a ∧ nameE r (r.h.length - 1) a = 0 := fun r hr a ha => by
    rw [hr.hh]
    exact tab_get (by rw [cI k3]; exact f4') (by rw [cI k3]; exact f5) x3 hr ha
  have t2 : ∀ r, RdB (wrB S Y L G) H r → ∀ a, getSE (bldR (namesY Y)).t a = 0 → nameS r (r.h.length - 2) a = getS (bldR (namesY Y)).t a ∧ nameE r (r.h.length - 2) a = 0 := fun r hr a ha => by
    rw [hr.hh]
    exact tab_get (by rw [cI k2]; exact f2) (by rw [cI k2]; exact f3) x2 hr ha
  have nmp : ∀ (j : Nat) p, (allP S Y L G)[j]? = some p → getS (wrTb S Y L G).t (cellI P (0 + j) 0) = p.nm ∧ getSE (wrTb S Y L G).t (cellI P (0 + j) 0) = 0 := fun j p hj => by
    obtain ⟨_, _, _, _, _, e4⟩ := placed (allP S Y L G) ⟨zeros 64, [], []⟩ (fun p hp => (allP_ok h p hp).2) (by simp [zeros])
    rw [← wrF3_parts, List.nil_append] at e4
    have e5 : (wrF2 S Y L G).names ++ [[D.str sShs]] = (allP S Y L G).map fun p => [.str p.nm] := e4
    have := bldR_get n1 n2 (i := j) (e := [.str p.nm]) (by rw [e5, List.getElem?_map, hj]; rfl)
    rw [Nat.zero_add, ← hP]
    exact this
  have nmy : ∀ (i : Nat) e, Y[i]? = some e → ∀ r, RdB (wrB S Y L G) H r → nameS r (r.h.length - 2) (cellI (bldR (namesY Y)).p i 0) = rS e 0 ∧ nameE r (r.h.length - 2) (cellI (bldR (namesY Y)).p i 0) = 0 := fun i e hi r hr => by
    have := bldR_get y1 y2 (i := i) (e := [.str (rS e 0)]) (by rw [namesY, List.getElem?_map, hi]; rfl)
    obtain ⟨u1, u2⟩ := t2 r hr _ this.2
    exact ⟨u1.trans this.1, u2⟩
  have syo : ∀ (j : Nat) e, Y[j]? = some e → SymOk (bldR (namesY Y)).p j e := fun j e hj => by
    have he := List.mem_of_getElem? hj
    obtain ⟨s, b, hd, w, v, z, rfl, b0, b1⟩ := sh.y e he
    obtain ⟨u1, u2⟩ := symE_in (by omega) (y3 _ he)
    have := bldR_pos y1 y2 j
    exact ⟨⟨s, b, hd, w, v, z, rfl, u1, u2, b0⟩, this.1, this.2⟩
  have hR : ∀ e ∈ L, RelOk (rI e 0) e := fun e he => by
    obtain ⟨a, b, k, c, d, rfl, k0, k1⟩ := sh.l e he
    exact ⟨b, k, c, d, rfl, relCk_wok (relsGo_get c4.2 _ he), k0, k1⟩
  have gl := gdl_of (H := H) t3 0 hL.pl nmp
  rw [nmd_app] at gl
  obtain ⟨g1, g2, e3, d1, d2⟩ := gdl_app gl
  obtain ⟨g11, g12, rfl, d11, d12⟩ := gdl_app d1
  obtain ⟨g121, g122, rfl, d121, d122⟩ := gdl_app d12
  have eff : Eff (wrB S Y L G) H ((g11 ++ (g121 ++ g122)) ++ g2) ((effS S ++ (effG G ++ effL L (byS S.length L) 0)) ++ [fun r => { r with y := r.y ++ Y }, fun r => r, fun r => r]) := by
    refine eff_app (eff_app (eff_sec S 0 (fun e he => ?_) c2 d11) (eff_app (eff_grp G (fun e he => ?_) d121) (eff_rel hR (byS S.length L) 0 (fun j e he => byS_at he) d122))) ?_
    · obtain ⟨s, a, x, z, rfl, _⟩ := sh.s e he
      exact ⟨s, a, x, z, rfl⟩
    · obtain ⟨s, x, rfl, hx⟩ := sh.g e he
      refine ⟨s, x, rfl, fun q hq => ?_⟩
      obtain ⟨n, rfl⟩ := hx q hq
      have := grpsGo_mem c5.1 _ he [D.int n] hq
      have : 0 < n ∧ n ≤ S.length := this
      exact ⟨n, rfl, by omega, by omega⟩
    · cases d2 with
      | cons a1 a2 a3 a4 ga d2 =>
      cases d2 with
      | cons b1 b2 b3 b4 gb d2 =>
      cases d2 with
      | cons c1 c2 c3 c4 gc d2 =>
      cases d2
      exact .cons (fun r hr => step_sym nmy syo a1 ga r hr) (.cons (fun r hr => step_tab b1 gb r hr) (.cons (fun r hr => step_tab c1 gc r hr) .nil))
  have hr0 : RdB (wrB S Y L G) H ⟨wrB S Y L G, H, [], [], [], [], 0⟩ := ⟨rfl, rfl, rfl⟩
  have hd1 : H.drop 1 = ((g11 ++ (g121 ++ g122)) ++ g2).map Hd.row := by
    rw [← e3, ← nmd_app, ← hH]; rfl
  have hfin := go_eff eff 1 H.length _ hr0 hd1 (by
    have := congrArg List.length hd1
    rw [List.length_drop, List.length_map] at this
    omega)
  have hrun : runE ((effS S ++ (effG G ++ effL L (byS S.length L) 0)) ++ [fun r => { r with y := r.y ++ Y }, fun r => r, fun r => r]) ⟨wrB S Y L G, H, [], [], [], [], 0⟩ = ⟨wrB S Y L G, H, S, Y, L, G, 0⟩ := by
    have hrl := relF_all (n := S.length) (rels_pw c4.2) (fun e he => by
      have := relCk_in (relsGo_get c4.2 _ he)
      exact ⟨this.1, this.2.1⟩)
    rw [runE_app, runE_app, runE_app, run_S, run_G, run_L hR (byS S.length L) 0 _ (fun j e he => byS_at he), byS_len, hrl]
    rfl
  rw [readF, ha]
  show (partsGo H.length 1 ⟨wrB S Y L G, H, [], [], [], [], 0⟩).s = S ∧ (partsGo H.length 1 ⟨wrB S Y L G, H, [], [], [], [], 0⟩).y = Y ∧ (partsGo H.length 1 ⟨wrB S Y L G, H, [], [], [], [], 0⟩).l = L ∧ (partsGo H.length 1 ⟨wrB S Y L G, H, [], [], [], [], 0⟩).g = G ∧ (partsGo H.length 1 ⟨wrB S Y L G, H, [], [], [], [], 0⟩).e = 0
  rw [hfin, hrun]
  exact ⟨rfl, rfl, rfl, rfl, rfl⟩
theorem readE_back {S Y L G : List (List D)} (h : chkB S Y L G = true) (sh : SObj S Y L G) (hl : (wrAll S Y L G).length ≤ 65536) : readE (wrB S Y L G) = 0 := by
  obtain ⟨e1, e2, e3, e4, e5⟩ := read_back h sh hl
  have hw : wrE S Y L G = 0 := by rw [wrE, if_pos h, if_neg (by omega)]
  have hv : wrV S Y L G = wrB S Y L G := by rw [wrV, if_pos hw]
  rw [readE, e1, e2, e3, e4, e5, hw, hv, if_neg (by rw [wrB_len h, ← wrAll_len h]; omega), if_neg (by simp), if_neg (by simp), if_pos (same_self _)]
end Go.Proofs.Ytkcopbnaleiocaa.Ev
namespace Go.Proofs.Ytkcopbnaleiocaa.Ev
open Go
set_option linter.unusedVariables false
set_option linter.unusedSimpArgs false
theorem i64_app {x y : List (List D)} (hx : I64s x) (hy : I64s y) : I64s (x ++ y) := fun e he => by
  rcases List.mem_append.1 he with he | he
  · exact hx e he
  · exact hy e he
theorem i64_nil : I64s [] := fun e he => (nomatch he)
theorem i64_leB (n : Int) (k : Nat) : I64s (leB n k) := fun e he => by
  obtain ⟨i, _, rfl⟩ := List.mem_map.1 he
  exact ⟨_, rfl⟩
theorem i64_zeros (n : Nat) : I64s (zeros n) := fun e he => by
  obtain ⟨_, rfl⟩ := List.mem_replicate.1 he
  exact ⟨_, rfl⟩
theorem i64_row (s : ByteArray) : I64s (bytesRow s) := fun e he => by
  obtain ⟨b, _, rfl⟩ := List.mem_map.1 he
  exact ⟨_, rfl⟩
theorem i64_putB (n k : Int) : I64s (putB n k) := by
  unfold putB
  split
  · exact i64_leB _ _
  · exact i64_nil
theorem i64_padB {x : List (List D)} (h : I64s x) (m : Int) : I64s (padB x m) := by
  unfold padB
  split
  · exact i64_app h (i64_zeros _)
  · exact i64_nil
theorem i64_flat {f : List D → List (List D)} (hf : ∀ e, I64s (f e)) : ∀ (L : List (List D)), I64s (L.map f).flatten
  | [] => i64_nil
  | e :: t => by rw [List.map_cons, List.flatten_cons]; exact i64_app (hf e) (i64_flat hf t)
theorem i64_nums (k : Int) (l : List (List D)) : I64s (numsB k l) := i64_flat (fun e => i64_putB _ _) l
theorem i64_relRow (e : List D) : I64s (relRow e) := by
  unfold relRow
  split
  · exact i64_app (i64_app (i64_app (i64_putB _ _) (i64_putB _ _)) (i64_putB _ _)) (i64_putB _ _)
  · exact i64_nil
theorem i64_two (a b : Int) : I64s [[.int a], [.int b]] := fun e he => by
  simp only [List.mem_cons, List.not_mem_nil, or_false] at he
  rcases he with rfl | rfl <;> exact ⟨_, rfl⟩
theorem i64_symRow (e : List D) (a : Int) : I64s (symRow e a) := by
  unfold symRow
  split
  · exact i64_app (i64_app (i64_app (i64_app (i64_leB _ _) (i64_two _ _)) (i64_leB _ _)) (i64_leB _ _)) (i64_leB _ _)
  · exact i64_nil
theorem i64_symsF (P : List (List D)) : ∀ (t : List (List D)) (i : Nat), I64s (symsF P t i)
  | [], i => i64_nil
  | e :: t, i => by rw [symsF]; exact i64_app (i64_symRow _ _) (i64_symsF P t (i + 1))
theorem i64_one (n : Int) : I64s [[.int n]] := fun e he => ⟨n, List.mem_singleton.1 he⟩
theorem i64_bldGo : ∀ (ns : List ByteArray) (t m p : List (List D)), I64s t → I64s (bldGo ns t m p).t
  | [], t, m, p, h => by
    unfold bldGo
    split
    · exact i64_nil
    · exact h
  | s :: r, t, m, p, h => by
    unfold bldGo
    split
    · exact i64_nil
    · split
      · exact i64_bldGo r t m _ h
      · exact i64_bldGo r _ _ _ (i64_app (i64_app h (i64_row s)) (i64_one 0))
theorem i64_bldR (xs : List (List D)) : I64s (bldR xs).t := by
  unfold bldR
  split
  · exact i64_nil
  · exact i64_bldGo _ _ _ _ (i64_one 0)
theorem i64_parts : ∀ (ps : List Pt) (f : Fl), (∀ p ∈ ps, I64s p.x) → I64s f.b → I64s (partsF f ps).b
  | [], f, _, h => h
  | p :: t, f, hp, h => i64_parts t (partF f p.nm p.hd p.x) (fun q hq => hp q (List.mem_cons_of_mem _ hq)) (i64_app (i64_padB h _) (hp p List.mem_cons_self))
theorem i64_secP {m : List (List D)} : ∀ {S : List (List D)} {i : Nat}, (∀ e ∈ S, I64s (rA e 2)) → ∀ p ∈ secP m S i, I64s p.x
  | [], i, _, p, hp => by cases hp
  | e :: t, i, h, p, hp => by
    rcases List.mem_cons.1 hp with rfl | hp
    · exact h e List.mem_cons_self
    · exact i64_secP (fun q hq => h q (List.mem_cons_of_mem _ hq)) p hp
theorem i64_relP {N : Int} {S : List (List D)} : ∀ {W : List (List D)} {i : Nat}, (∀ e ∈ W, I64s (rA e 0)) → ∀ p ∈ relP N S W i, I64s p.x
  | [], i, _, p, hp => by cases hp
  | e :: t, i, h, p, hp => by
    rw [relP] at hp
    rcases List.mem_append.1 hp with hp | hp
    · split at hp
      · rw [List.mem_singleton.1 hp]
        exact h e List.mem_cons_self
      · cases hp
    · exact i64_relP (fun q hq => h q (List.mem_cons_of_mem _ hq)) p hp
theorem i64_hd (h : Hd) : I64s h.b := i64_app (i64_app (i64_app (i64_app (i64_app (i64_app (i64_app (i64_app (i64_app (i64_leB _ _) (i64_leB _ _)) (i64_leB _ _)) (i64_leB _ _)) (i64_leB _ _)) (i64_leB _ _)) (i64_leB _ _)) (i64_leB _ _)) (i64_leB _ _)) (i64_leB _ _)
theorem i64_heads (P : List (List D)) : ∀ (t : List (List D)) (i : Nat), I64s (headsF P t i)
  | [], i => i64_nil
  | e :: t, i => by
    rw [headsF]
    refine i64_app ?_ (i64_heads P t (i + 1))
    unfold hdB
    split
    · exact i64_hd _
    · exact i64_nil
theorem i64_ints (l : List Int) : I64s (l.map fun n => [D.int n]) := fun e he => by
  obtain ⟨n, _, rfl⟩ := List.mem_map.1 he
  exact ⟨n, rfl⟩
theorem i64_wrB {S Y L G : List (List D)} (h : chkB S Y L G = true) (sh : SObj S Y L G) : I64s (wrB S Y L G) := by
  obtain ⟨m1, m2⟩ := wrMn_in h
  have hb : I64s (wrF3 S Y L G).b := by
    rw [wrF3_parts]
    refine i64_parts _ _ (fun p hp => ?_) (i64_zeros 64)
    rcases List.mem_append.1 hp with hp | hp
    · rcases List.mem_append.1 hp with hp | hp
      · refine i64_secP (fun e he => ?_) p hp
        obtain ⟨s, a, x, z, rfl, hx⟩ := sh.s e he
        exact fun q hq => by
          obtain ⟨n, e, _⟩ := hx q hq
          exact ⟨n, e⟩
      · rcases List.mem_append.1 hp with hp | hp
        · obtain ⟨e, _, rfl⟩ := List.mem_map.1 hp
          exact i64_app (i64_nums _ _) (i64_nums _ _)
        · refine i64_relP (fun e he => ?_) p hp
          obtain ⟨i, _, rfl⟩ := List.mem_map.1 he
          exact i64_flat i64_relRow _
    · simp only [List.mem_cons, List.not_mem_nil, or_false] at hp
      rcases hp with rfl | rfl | rfl
      · exact i64_app (i64_zeros _) (i64_symsF _ _ _)
      · exact i64_bldR _
      · exact i64_bldR _
  have ha : I64s (wrAll S Y L G) := i64_app (i64_app (i64_padB hb _) (i64_zeros _)) (i64_heads _ _ _)
  rw [wrB_eq h, first_eq (by omega) (by omega)]
  exact i64_app (i64_app (i64_ints _) (i64_app (i64_leB _ _) (i64_app (i64_ints _) (i64_app (i64_leB _ _) (i64_leB _ _))))) fun e he => ha e (List.mem_of_mem_drop he)
theorem u8_wrB {S Y L G : List (List D)} (h : chkB S Y L G = true) (sh : SObj S Y L G) : U8s (wrB S Y L G) := by
  have hb := wrB_bytes h (fun e he => by
    obtain ⟨s, a, x, z, rfl, hx⟩ := sh.s e he
    refine List.all_eq_true.2 fun q hq => ?_
    obtain ⟨n, rfl, n0, n1⟩ := hx q hq
    exact andT (decT n0) (decT n1)) (List.all_eq_true.2 fun e he => by
    obtain ⟨s, b, hd, w, v, z, rfl, b0, b1⟩ := sh.y e he
    exact decT b0)
  intro e he
  obtain ⟨n, rfl⟩ := i64_wrB h sh e he
  have := List.all_eq_true.1 hb _ he
  simp only [Bool.and_eq_true, decide_eq_true_eq] at this
  exact ⟨n, rfl, this.1, this.2⟩
theorem wr_yes {S Y L G : List (List D)} (h : wrE S Y L G = 0) : chkB S Y L G = true ∧ (wrAll S Y L G).length ≤ 65536 ∧ wrV S Y L G = wrB S Y L G := by
  have hv : wrV S Y L G = wrB S Y L G := by rw [wrV, if_pos h]
  by_cases hk : chkB S Y L G = true
  · rw [wrE, if_pos hk] at h
    by_cases hl : (wrAll S Y L G).length > 65536
    · rw [if_pos hl] at h; omega
    · exact ⟨hk, by omega, hv⟩
  · rw [wrE, if_neg hk] at h; omega
end Go.Proofs.Ytkcopbnaleiocaa.Ev
namespace Go.Proofs.Ytkcopbnaleiocaa.Ev
open Go
set_option linter.unusedVariables false
noncomputable def rptk0 : List T := [.code (sub (bodyOf Try.f93) [])]
def rpts0 (t1_0 t1_1 t1_2 t1_3 t1_4 t1_5 t1_6 t1_7 t1_8 t1_9 : Int) (o0_0 o0_1 o0_2 o0_3 o0_4 o0_5 : List (List D)) (o0_6 : Int) : St := ⟨[(0, .ptr (.out 0) 0), (1, .agg [.val (.int .i64 t1_0), .val (.int .i64 t1_1), .val (.int .i64 t1_2), .val (.int .i64 t1_3), .val (.int .i64 t1_4), .val (.int .i64 t1_5), .val (.int .i64 t1_6), .val (.int .i64 t1_7), .val (.int .i64 t1_8), .val (.int .i64 t1_9)])], [(.out 0, [.arr u8s o0_0, .own hdT o0_1, .own secC o0_2, .own symC o0_3, .own relC o0_4, .own grpC o0_5, .val (.int .i64 o0_6)])]⟩
noncomputable def rptk1 : List T := [.code (sub (bodyOf Try.f93) [1, 1, 1, 1, 1, 0, 1, 1, 1, 0, 1, 0, 1, 0, 0]), .lp (sub (bodyOf Try.f93) [1, 1, 1, 1, 1, 0, 1, 1, 1, 0, 1, 0, 1, 0, 0]), .blk 1, .code (sub (bodyOf Try.f93) [1, 1, 1, 1, 1, 0, 1, 1, 1, 0, 1, 1]), .blk 0]
def rpts1 (t5 : List (List D)) (t7 : Int) (o0_0 o0_1 o0_2 o0_3 o0_4 o0_5 : List (List D)) (o0_6 : Int) (b6_0 : ByteArray) : St := ⟨[(0, .ptr (.out 0) 0), (5, .arr u8s t5), (6, .ptr (.loc 6) 0), (7, .val (.int .i64 t7))], [(.out 0, [.arr u8s o0_0, .own hdT o0_1, .own secC o0_2, .own symC o0_3, .own relC o0_4, .own grpC o0_5, .val (.int .i64 o0_6)]), (.loc 6, [.val (.string b6_0), .val nilSlice])]⟩
noncomputable def rptk2 : List T := [.code (sub (bodyOf Try.f93) [1, 1, 1, 1, 1, 0, 1, 1, 1, 1, 1, 0, 0, 0]), .lp (sub (bodyOf Try.f93) [1, 1, 1, 1, 1, 0, 1, 1, 1, 1, 1, 0, 0, 0]), .blk 3, .blk 0]
def rpts2 (t5 : List (List D)) (t51 : Int) (t106 : Bool) (o0_0 o0_1 o0_2 o0_3 o0_4 o0_5 : List (List D)) (o0_6 b3_0 b3_1 b3_2 b3_3 b3_4 b3_5 b3_6 b3_7 b3_8 b3_9 : Int) : St := ⟨[(0, .ptr (.out 0) 0), (3, .ptr (.loc 3) 0), (5, .arr u8s t5), (51, .val (.int .i64 t51)), (106, .val (.bool t106))], [(.out 0, [.arr u8s o0_0, .own hdT o0_1, .own secC o0_2, .own symC o0_3, .own relC o0_4, .own grpC o0_5, .val (.int .i64 o0_6)]), (.loc 3, [.val (.int .i64 b3_0), .val (.int .i64 b3_1), .val (.int .i64 b3_2), .val (.int .i64 b3_3), .val (.int .i64 b3_4), .val (.int .i64 b3_5), .val (.int .i64 b3_6), .val (.int .i64 b3_7), .val (.int .i64 b3_8), .val (.int .i64 b3_9)])]⟩
noncomputable def rptk3 : List T := [.code (sub (bodyOf Try.f93) [1, 1, 1, 1, 1, 0, 1, 1, 1, 1, 1, 1, 1, 0, 1, 0, 0]), .lp (sub (bodyOf Try.f93) [1, 1, 1, 1, 1, 0, 1, 1, 1, 1, 1, 1, 1, 0, 1, 0, 0]), .blk 5, .blk 0]
def rpts3 (t5 : List (List D)) (t10 : Int) (o0_0 o0_1 o0_2 o0_3 o0_4 o0_5 : List (List D)) (o0_6 : Int) : St := ⟨[(0, .ptr (.out 0) 0), (5, .arr u8s t5), (10, .val (.int .i64 t10))], [(.out 0, [.arr u8s o0_0, .own hdT o0_1, .own secC o0_2, .own symC o0_3, .own relC o0_4, .own grpC o0_5, .val (.int .i64 o0_6)])]⟩
noncomputable def rptk4 : List T := [.code (sub (bodyOf Try.f93) [1, 1, 1, 1, 1, 0, 1, 1, 1, 0, 1, 0, 1, 0, 0]), .lp (sub (bodyOf Try.f93) [1, 1, 1, 1, 1, 0, 1, 1, 1, 0, 1, 0, 1, 0, 0]), .blk 1, .code (sub (bodyOf Try.f93) [1, 1, 1, 1, 1, 0, 1, 1, 1, 0, 1, 1]), .blk 0]
def rpts4 (t5 : List (List D)) (t7 : Int) (o0_0 o0_1 o0_2 o0_3 o0_4 o0_5 : List (List D)) (o0_6 : Int) (b6_0 : ByteArray) (b6_1 : List (List D)) : St := ⟨[(0, .ptr (.out 0) 0), (5, .arr u8s t5), (6, .ptr (.loc 6) 0), (7, .val (.int .i64 t7))], [(.out 0, [.arr u8s o0_0, .own hdT o0_1, .own secC o0_2, .own symC o0_3, .own relC o0_4, .own grpC o0_5, .val (.int .i64 o0_6)]), (.loc 6, [.val (.string b6_0), .own [CT.int .i64] b6_1])]⟩
noncomputable def rptk5 : List T := [.code (sub (bodyOf Try.f93) [1, 1, 1, 1, 1, 0, 1, 1, 1, 1, 1, 0, 0, 0]), .lp (sub (bodyOf Try.f93) [1, 1, 1, 1, 1, 0, 1, 1, 1, 1, 1, 0, 0, 0]), .blk 3, .blk 0]
def rpts5 (t5 o0_0 o0_1 o0_2 o0_3 o0_4 o0_5 : List (List D)) (o0_6 b3_0 b3_1 b3_2 b3_3 b3_4 b3_5 b3_6 b3_7 b3_8 b3_9 : Int) : St := ⟨[(0, .ptr (.out 0) 0), (3, .ptr (.loc 3) 0), (5, .arr u8s t5)], [(.out 0, [.arr u8s o0_0, .own hdT o0_1, .own secC o0_2, .own symC o0_3, .own relC o0_4, .own grpC o0_5, .val (.int .i64 o0_6)]), (.loc 3, [.val (.int .i64 b3_0), .val (.int .i64 b3_1), .val (.int .i64 b3_2), .val (.int .i64 b3_3), .val (.int .i64 b3_4), .val (.int .i64 b3_5), .val (.int .i64 b3_6), .val (.int .i64 b3_7), .val (.int .i64 b3_8), .val (.int .i64 b3_9)])]⟩
noncomputable def rptt0 (t1_0 t1_1 t1_2 t1_3 t1_4 t1_5 t1_6 t1_7 t1_8 t1_9 : Int) (o0_0 o0_1 o0_2 o0_3 o0_4 o0_5 : List (List D)) (o0_6 : Int) : Tr := (.ask (pName [handed [Key.out (0 : Nat)] (V.ptr (Key.out (0 : Nat)) (0 : Nat)), handed [Key.out (0 : Nat)] (V.val (.int .i64 (IntKind.wrap .i64 ((↑(List.length o0_1) : Int) - (1 : Int))))), handed [Key.out (0 : Nat)] (V.val (.int .i64 t1_0))] [V.arr u8s o0_0, V.own hdT o0_1, V.own secC o0_2, V.own symC o0_3, V.own relC o0_4, V.own grpC o0_5, V.val (.int .i64 o0_6)])
  (.ask (t1_1 == (8 : Int))
  (.ask (decide ((List.length o0_2 + List.length [[D.str (nameS { b := o0_0, h := o0_1, s := o0_2, y := o0_3, l := o0_4, g := o0_5, e := o0_6 } (Int.toNat (IntKind.wrap .i64 ((↑(List.length o0_1) : Int) - (1 : Int)))) t1_0), D.int t1_8, D.arr [], D.int t1_5]]) * (56 : Nat) ≤ (70368744177664 : Nat)) && decide (List.length o0_2 + List.length [[D.str (nameS { b := o0_0, h := o0_1, s := o0_2, y := o0_3, l := o0_4, g := o0_5, e := o0_6 } (Int.toNat (IntKind.wrap .i64 ((↑(List.length o0_1) : Int) - (1 : Int)))) t1_0), D.int t1_8, D.arr [], D.int t1_5]] ≤ (70368744177664 : Nat)))
  (.ret (.tup [], [[.arr u8s (o0_0), .own hdT (o0_1), .own secC (o0_2 ++ [[D.str (nameS { b := o0_0, h := o0_1, s := o0_2, y := o0_3, l := o0_4, g := o0_5, e := o0_6 } (Int.toNat (IntKind.wrap .i64 ((↑(List.length o0_1) : Int) - (1 : Int)))) t1_0), D.int t1_8, D.arr [], D.int t1_5]]), .own symC (o0_3), .own relC (o0_4), .own grpC (o0_5), .val (.int .i64 (nameE { b := o0_0, h := o0_1, s := o0_2, y := o0_3, l := o0_4, g := o0_5, e := o0_6 } (Int.toNat (IntKind.wrap .i64 ((↑(List.length o0_1) : Int) - (1 : Int)))) t1_0))]]))
  .fail)
  (.ask (pCut [handed [Key.out (0 : Nat)] (V.ptr (Key.out (0 : Nat)) (0 : Nat)), handed [Key.out (0 : Nat)] (V.val (.int .i64 t1_4)), handed [Key.out (0 : Nat)] (V.val (.int .i64 t1_5))] [V.arr u8s o0_0, V.own hdT o0_1, V.own secC o0_2, V.own symC o0_3, V.own relC o0_4, V.own grpC o0_5, V.val (.int .i64 (nameE { b := o0_0, h := o0_1, s := o0_2, y := o0_3, l := o0_4, g := o0_5, e := o0_6 } (Int.toNat (IntKind.wrap .i64 ((↑(List.length o0_1) : Int) - (1 : Int)))) t1_0))])
  (.ask (t1_1 == (1 : Int))
  (.ask (pBcl [normV (.sl u8s) (handed [] (.arr u8s (cutV o0_0 t1_4 t1_5 (nameE { b := o0_0, h := o0_1, s := o0_2, y := o0_3, l := o0_4, g := o0_5, e := o0_6 } (Int.toNat (IntKind.wrap .i64 ((↑(List.length o0_1) : Int) - (1 : Int)))) t1_0))))])
  (.ask (decide ((List.length o0_2 + List.length [[D.str (nameS { b := o0_0, h := o0_1, s := o0_2, y := o0_3, l := o0_4, g := o0_5, e := o0_6 } (Int.toNat (IntKind.wrap .i64 ((↑(List.length o0_1) : Int) - (1 : Int)))) t1_0), D.int t1_8, D.arr (cutV o0_0 t1_4 t1_5 (nameE { b := o0_0, h := o0_1, s := o0_2, y := o0_3, l := o0_4, g := o0_5, e := o0_6 } (Int.toNat (IntKind.wrap .i64 ((↑(List.length o0_1) : Int) - (1 : Int)))) t1_0)), D.int (0 : Int)]]) * (56 : Nat) ≤ (70368744177664 : Nat)) && decide (List.length o0_2 + List.length [[D.str (nameS { b := o0_0, h := o0_1, s := o0_2, y := o0_3, l := o0_4, g := o0_5, e := o0_6 } (Int.toNat (IntKind.wrap .i64 ((↑(List.length o0_1) : Int) - (1 : Int)))) t1_0), D.int t1_8, D.arr (cutV o0_0 t1_4 t1_5 (nameE { b := o0_0, h := o0_1, s := o0_2, y := o0_3, l := o0_4, g := o0_5, e := o0_6 } (Int.toNat (IntKind.wrap .i64 ((↑(List.length o0_1) : Int) - (1 : Int)))) t1_0)), D.int (0 : Int)]] ≤ (70368744177664 : Nat)))
  (.ret (.tup [], [[.arr u8s (o0_0), .own hdT (o0_1), .own secC (o0_2 ++ [[D.str (nameS { b := o0_0, h := o0_1, s := o0_2, y := o0_3, l := o0_4, g := o0_5, e := o0_6 } (Int.toNat (IntKind.wrap .i64 ((↑(List.length o0_1) : Int) - (1 : Int)))) t1_0), D.int t1_8, D.arr (cutV o0_0 t1_4 t1_5 (nameE { b := o0_0, h := o0_1, s := o0_2, y := o0_3, l := o0_4, g := o0_5, e := o0_6 } (Int.toNat (IntKind.wrap .i64 ((↑(List.length o0_1) : Int) - (1 : Int)))) t1_0)), D.int (0 : Int)]]), .own symC (o0_3), .own relC (o0_4), .own grpC (o0_5), .val (.int .i64 (cutE o0_0 t1_4 t1_5 (nameE { b := o0_0, h := o0_1, s := o0_2, y := o0_3, l := o0_4, g := o0_5, e := o0_6 } (Int.toNat (IntKind.wrap .i64 ((↑(List.length o0_1) : Int) - (1 : Int)))) t1_0)))]]))
  .fail)
  .fail)
  (.ask (t1_1 == (17 : Int))
  (.ask (okBounds (if (↑(ByteArray.size (nameS { b := o0_0, h := o0_1, s := o0_2, y := o0_3, l := o0_4, g := o0_5, e := o0_6 } (Int.toNat (IntKind.wrap .i64 ((↑(List.length o0_1) : Int) - (1 : Int)))) t1_0)) : Int) < (7 : Int) then (↑(ByteArray.size (nameS { b := o0_0, h := o0_1, s := o0_2, y := o0_3, l := o0_4, g := o0_5, e := o0_6 } (Int.toNat (IntKind.wrap .i64 ((↑(List.length o0_1) : Int) - (1 : Int)))) t1_0)) : Int) else (7 : Int)) (↑(ByteArray.size (nameS { b := o0_0, h := o0_1, s := o0_2, y := o0_3, l := o0_4, g := o0_5, e := o0_6 } (Int.toNat (IntKind.wrap .i64 ((↑(List.length o0_1) : Int) - (1 : Int)))) t1_0)) : Int) (↑(ByteArray.size (nameS { b := o0_0, h := o0_1, s := o0_2, y := o0_3, l := o0_4, g := o0_5, e := o0_6 } (Int.toNat (IntKind.wrap .i64 ((↑(List.length o0_1) : Int) - (1 : Int)))) t1_0)) : Int))
  (.go 0 rptk1 (rpts1 (cutV o0_0 t1_4 t1_5 (nameE { b := o0_0, h := o0_1, s := o0_2, y := o0_3, l := o0_4, g := o0_5, e := o0_6 } (Int.toNat (IntKind.wrap .i64 ((↑(List.length o0_1) : Int) - (1 : Int)))) t1_0)) ((4 : Int)) (o0_0) (o0_1) (o0_2) (o0_3) (o0_4) (o0_5) (cutE o0_0 t1_4 t1_5 (nameE { b := o0_0, h := o0_1, s := o0_2, y := o0_3, l := o0_4, g := o0_5, e := o0_6 } (Int.toNat (IntKind.wrap .i64 ((↑(List.length o0_1) : Int) - (1 : Int)))) t1_0)) (ByteArray.extract (nameS { b := o0_0, h := o0_1, s := o0_2, y := o0_3, l := o0_4, g := o0_5, e := o0_6 } (Int.toNat (IntKind.wrap .i64 ((↑(List.length o0_1) : Int) - (1 : Int)))) t1_0) (Int.toNat (if (↑(ByteArray.size (nameS { b := o0_0, h := o0_1, s := o0_2, y := o0_3, l := o0_4, g := o0_5, e := o0_6 } (Int.toNat (IntKind.wrap .i64 ((↑(List.length o0_1) : Int) - (1 : Int)))) t1_0)) : Int) < (7 : Int) then (↑(ByteArray.size (nameS { b := o0_0, h := o0_1, s := o0_2, y := o0_3, l := o0_4, g := o0_5, e := o0_6 } (Int.toNat (IntKind.wrap .i64 ((↑(List.length o0_1) : Int) - (1 : Int)))) t1_0)) : Int) else (7 : Int))) (ByteArray.size (nameS { b := o0_0, h := o0_1, s := o0_2, y := o0_3, l := o0_4, g := o0_5, e := o0_6 } (Int.toNat (IntKind.wrap .i64 ((↑(List.length o0_1) : Int) - (1 : Int)))) t1_0)))))
  .fail)
  (.ask (t1_1 == (4 : Int))
  (.go 10 rptk2 (rpts2 (cutV o0_0 t1_4 t1_5 (nameE { b := o0_0, h := o0_1, s := o0_2, y := o0_3, l := o0_4, g := o0_5, e := o0_6 } (Int.toNat (IntKind.wrap .i64 ((↑(List.length o0_1) : Int) - (1 : Int)))) t1_0)) (t1_1) (true) (o0_0) (o0_1) (o0_2) (o0_3) (o0_4) (o0_5) (cutE o0_0 t1_4 t1_5 (nameE { b := o0_0, h := o0_1, s := o0_2, y := o0_3, l := o0_4, g := o0_5, e := o0_6 } (Int.toNat (IntKind.wrap .i64 ((↑(List.length o0_1) : Int) - (1 : Int)))) t1_0)) (t1_0) (t1_1) (t1_2) (t1_3) (t1_4) (t1_5) (t1_6) (t1_7) (t1_8) (t1_9)))
  (.ask (t1_1 == (2 : Int))
  (.go 0 rptk3 (rpts3 (cutV o0_0 t1_4 t1_5 (nameE { b := o0_0, h := o0_1, s := o0_2, y := o0_3, l := o0_4, g := o0_5, e := o0_6 } (Int.toNat (IntKind.wrap .i64 ((↑(List.length o0_1) : Int) - (1 : Int)))) t1_0)) ((24 : Int)) (o0_0) (o0_1) (o0_2) (o0_3) (o0_4) (o0_5) (cutE o0_0 t1_4 t1_5 (nameE { b := o0_0, h := o0_1, s := o0_2, y := o0_3, l := o0_4, g := o0_5, e := o0_6 } (Int.toNat (IntKind.wrap .i64 ((↑(List.length o0_1) : Int) - (1 : Int)))) t1_0))))
  (.ret (.tup [], [[.arr u8s (o0_0), .own hdT (o0_1), .own secC (o0_2), .own symC (o0_3), .own relC (o0_4), .own grpC (o0_5), .val (.int .i64 (cutE o0_0 t1_4 t1_5 (nameE { b := o0_0, h := o0_1, s := o0_2, y := o0_3, l := o0_4, g := o0_5, e := o0_6 } (Int.toNat (IntKind.wrap .i64 ((↑(List.length o0_1) : Int) - (1 : Int)))) t1_0)))]]))))))
  .fail))
  .fail)
set_option maxRecDepth 100000 in
theorem rptp0 (n : Nat) (t1_0 t1_1 t1_2 t1_3 t1_4 t1_5 t1_6 t1_7 t1_8 t1_9 : Int) (o0_0 o0_1 o0_2 o0_3 o0_4 o0_5 : List (List D)) (o0_6 : Int) : exec es3 (n + 73) (93, Try.f93, 1) rptk0 (rpts0 t1_0 t1_1 t1_2 t1_3 t1_4 t1_5 t1_6 t1_7 t1_8 t1_9 o0_0 o0_1 o0_2 o0_3 o0_4 o0_5 o0_6) = Tr.val es3 (93, Try.f93, 1) n (rptt0 t1_0 t1_1 t1_2 t1_3 t1_4 t1_5 t1_6 t1_7 t1_8 t1_9 o0_0 o0_1 o0_2 o0_3 o0_4 o0_5 o0_6) := by kernel_rfl
noncomputable def rptt1 (t5 : List (List D)) (t7 : Int) (o0_0 o0_1 o0_2 o0_3 o0_4 o0_5 : List (List D)) (o0_6 : Int) (b6_0 : ByteArray) : Tr := (.ask (decide (t7 < (↑(List.length t5) : Int)))
  (.ask (pNum [normV CK.no (handed [Key.out (0 : Nat)] (V.ptr (Key.out (0 : Nat)) (0 : Nat))), normV (.sl u8s) (handed [Key.out (0 : Nat)] (V.arr u8s t5)), handed [Key.out (0 : Nat)] (V.val (.int .i64 t7)), handed [Key.out (0 : Nat)] (V.val (.int .i64 (4 : Int)))] [V.arr u8s o0_0, V.own hdT o0_1, V.own secC o0_2, V.own symC o0_3, V.own relC o0_4, V.own grpC o0_5, V.val (.int .i64 o0_6)])
  (.go 0 rptk4 (rpts4 (t5) (IntKind.wrap .i64 (t7 + (4 : Int))) (o0_0) (o0_1) (o0_2) (o0_3) (o0_4) (o0_5) (numE t5 t7 (4 : Int) o0_6) (b6_0) ([[D.int (getV t5 t7 (4 : Int))]])))
  .fail)
  (.ask (decide ((List.length o0_5 + List.length [[D.str b6_0, D.arr []]]) * (40 : Nat) ≤ (70368744177664 : Nat)) && decide (List.length o0_5 + List.length [[D.str b6_0, D.arr []]] ≤ (70368744177664 : Nat)))
  (.ret (.tup [], [[.arr u8s (o0_0), .own hdT (o0_1), .own secC (o0_2), .own symC (o0_3), .own relC (o0_4), .own grpC (o0_5 ++ [[D.str b6_0, D.arr []]]), .val (.int .i64 (o0_6))]]))
  .fail))
set_option maxRecDepth 100000 in
theorem rptp1 (n : Nat) (t5 : List (List D)) (t7 : Int) (o0_0 o0_1 o0_2 o0_3 o0_4 o0_5 : List (List D)) (o0_6 : Int) (b6_0 : ByteArray) : exec es3 (n + 31) (93, Try.f93, 1) rptk1 (rpts1 t5 t7 o0_0 o0_1 o0_2 o0_3 o0_4 o0_5 o0_6 b6_0) = Tr.val es3 (93, Try.f93, 1) n (rptt1 t5 t7 o0_0 o0_1 o0_2 o0_3 o0_4 o0_5 o0_6 b6_0) := by kernel_rfl
noncomputable def rptt2 (t5 o0_0 o0_1 o0_2 o0_3 o0_4 o0_5 : List (List D)) (o0_6 b3_0 b3_1 b3_2 b3_3 b3_4 b3_5 b3_6 b3_7 b3_8 b3_9 : Int) : Tr := (.ask (decide ((↑(List.length t5) : Int) ≥ (24 : Int)))
  (.ask (okBounds (0 : Int) (24 : Int) (↑(List.length t5) : Int))
  (.ask (pB1 [normV (.sl u8s) (handed [] (.arr u8s (cut t5 (0 : Int) (24 : Int))))])
  (.ask (relRe (cut t5 (0 : Int) (24 : Int)) != (0 : Int))
  (.ask (decide ((List.length o0_4 + List.length [[D.int b3_7, D.int (okI (relRe (cut t5 (0 : Int) (24 : Int))) (getV (cut t5 (0 : Int) (24 : Int)) (0 : Int) (8 : Int))), D.int (okI (relRe (cut t5 (0 : Int) (24 : Int))) (relRk (cut t5 (0 : Int) (24 : Int)))), D.int (okI (relRe (cut t5 (0 : Int) (24 : Int))) (relRc (cut t5 (0 : Int) (24 : Int)))), D.int (okI (relRe (cut t5 (0 : Int) (24 : Int))) (getV (cut t5 (0 : Int) (24 : Int)) (16 : Int) (8 : Int)))]]) * (40 : Nat) ≤ (70368744177664 : Nat)) && decide (List.length o0_4 + List.length [[D.int b3_7, D.int (okI (relRe (cut t5 (0 : Int) (24 : Int))) (getV (cut t5 (0 : Int) (24 : Int)) (0 : Int) (8 : Int))), D.int (okI (relRe (cut t5 (0 : Int) (24 : Int))) (relRk (cut t5 (0 : Int) (24 : Int)))), D.int (okI (relRe (cut t5 (0 : Int) (24 : Int))) (relRc (cut t5 (0 : Int) (24 : Int)))), D.int (okI (relRe (cut t5 (0 : Int) (24 : Int))) (getV (cut t5 (0 : Int) (24 : Int)) (16 : Int) (8 : Int)))]] ≤ (70368744177664 : Nat)))
  (.ask (okBounds (24 : Int) (↑(List.length t5) : Int) (↑(List.length t5) : Int))
  (.go 0 rptk5 (rpts5 (cut t5 (24 : Int) (↑(List.length t5) : Int)) (o0_0) (o0_1) (o0_2) (o0_3) (o0_4 ++ [[D.int b3_7, D.int (okI (relRe (cut t5 (0 : Int) (24 : Int))) (getV (cut t5 (0 : Int) (24 : Int)) (0 : Int) (8 : Int))), D.int (okI (relRe (cut t5 (0 : Int) (24 : Int))) (relRk (cut t5 (0 : Int) (24 : Int)))), D.int (okI (relRe (cut t5 (0 : Int) (24 : Int))) (relRc (cut t5 (0 : Int) (24 : Int)))), D.int (okI (relRe (cut t5 (0 : Int) (24 : Int))) (getV (cut t5 (0 : Int) (24 : Int)) (16 : Int) (8 : Int)))]]) (o0_5) (relRe (cut t5 (0 : Int) (24 : Int))) (b3_0) (b3_1) (b3_2) (b3_3) (b3_4) (b3_5) (b3_6) (b3_7) (b3_8) (b3_9)))
  .fail)
  .fail)
  (.ask (decide ((List.length o0_4 + List.length [[D.int b3_7, D.int (okI (relRe (cut t5 (0 : Int) (24 : Int))) (getV (cut t5 (0 : Int) (24 : Int)) (0 : Int) (8 : Int))), D.int (okI (relRe (cut t5 (0 : Int) (24 : Int))) (relRk (cut t5 (0 : Int) (24 : Int)))), D.int (okI (relRe (cut t5 (0 : Int) (24 : Int))) (relRc (cut t5 (0 : Int) (24 : Int)))), D.int (okI (relRe (cut t5 (0 : Int) (24 : Int))) (getV (cut t5 (0 : Int) (24 : Int)) (16 : Int) (8 : Int)))]]) * (40 : Nat) ≤ (70368744177664 : Nat)) && decide (List.length o0_4 + List.length [[D.int b3_7, D.int (okI (relRe (cut t5 (0 : Int) (24 : Int))) (getV (cut t5 (0 : Int) (24 : Int)) (0 : Int) (8 : Int))), D.int (okI (relRe (cut t5 (0 : Int) (24 : Int))) (relRk (cut t5 (0 : Int) (24 : Int)))), D.int (okI (relRe (cut t5 (0 : Int) (24 : Int))) (relRc (cut t5 (0 : Int) (24 : Int)))), D.int (okI (relRe (cut t5 (0 : Int) (24 : Int))) (getV (cut t5 (0 : Int) (24 : Int)) (16 : Int) (8 : Int)))]] ≤ (70368744177664 : Nat)))
  (.ask (okBounds (24 : Int) (↑(List.length t5) : Int) (↑(List.length t5) : Int))
  (.go 6 rptk5 (rpts5 (cut t5 (24 : Int) (↑(List.length t5) : Int)) (o0_0) (o0_1) (o0_2) (o0_3) (o0_4 ++ [[D.int b3_7, D.int (okI (relRe (cut t5 (0 : Int) (24 : Int))) (getV (cut t5 (0 : Int) (24 : Int)) (0 : Int) (8 : Int))), D.int (okI (relRe (cut t5 (0 : Int) (24 : Int))) (relRk (cut t5 (0 : Int) (24 : Int)))), D.int (okI (relRe (cut t5 (0 : Int) (24 : Int))) (relRc (cut t5 (0 : Int) (24 : Int)))), D.int (okI (relRe (cut t5 (0 : Int) (24 : Int))) (getV (cut t5 (0 : Int) (24 : Int)) (16 : Int) (8 : Int)))]]) (o0_5) (o0_6) (b3_0) (b3_1) (b3_2) (b3_3) (b3_4) (b3_5) (b3_6) (b3_7) (b3_8) (b3_9)))
  .fail)
  .fail))
  .fail)
  .fail)
  (.ret (.tup [], [[.arr u8s (o0_0), .own hdT (o0_1), .own secC (o0_2), .own symC (o0_3), .own relC (o0_4), .own grpC (o0_5), .val (.int .i64 (o0_6))]])))
set_option maxRecDepth 100000 in
theorem rptp2 (n : Nat) (t5 : List (List D)) (t51 : Int) (t106 : Bool) (o0_0 o0_1 o0_2 o0_3 o0_4 o0_5 : List (List D)) (o0_6 b3_0 b3_1 b3_2 b3_3 b3_4 b3_5 b3_6 b3_7 b3_8 b3_9 : Int) : exec es3 (n + 66) (93, Try.f93, 1) rptk2 (rpts2 t5 t51 t106 o0_0 o0_1 o0_2 o0_3 o0_4 o0_5 o0_6 b3_0 b3_1 b3_2 b3_3 b3_4 b3_5 b3_6 b3_7 b3_8 b3_9) = Tr.val es3 (93, Try.f93, 1) n (rptt2 t5 o0_0 o0_1 o0_2 o0_3 o0_4 o0_5 o0_6 b3_0 b3_1 b3_2 b3_3 b3_4 b3_5 b3_6 b3_7 b3_8 b3_9) := by kernel_rfl
noncomputable def rptt3 (t5 : List (List D)) (t10 : Int) (o0_0 o0_1 o0_2 o0_3 o0_4 o0_5 : List (List D)) (o0_6 : Int) : Tr := (.ask (decide (IntKind.wrap .i64 (t10 + (24 : Int)) ≤ (↑(List.length t5) : Int)))
  (.ask (o0_6 == (0 : Int))
  (.ask (okBounds t10 (IntKind.wrap .i64 (t10 + (24 : Int))) (↑(List.length t5) : Int))
  (.ask (pB1 [normV (.sl u8s) (handed [] (.arr u8s (cut t5 t10 (IntKind.wrap .i64 (t10 + (24 : Int))))))])
  (.ask (symRe (cut t5 t10 (IntKind.wrap .i64 (t10 + (24 : Int)))) != (0 : Int))
  (.ret (.tup [], [[.arr u8s (o0_0), .own hdT (o0_1), .own secC (o0_2), .own symC (o0_3), .own relC (o0_4), .own grpC (o0_5), .val (.int .i64 (symRe (cut t5 t10 (IntKind.wrap .i64 (t10 + (24 : Int))))))]]))
  (.ask (pName [handed [Key.out (0 : Nat)] (V.ptr (Key.out (0 : Nat)) (0 : Nat)), handed [Key.out (0 : Nat)] (V.val (.int .i64 (IntKind.wrap .i64 ((↑(List.length o0_1) : Int) - (2 : Int))))), handed [Key.out (0 : Nat)] (V.val (.int .i64 (okI (symRe (cut t5 t10 (IntKind.wrap .i64 (t10 + (24 : Int))))) (getV (cut t5 t10 (IntKind.wrap .i64 (t10 + (24 : Int)))) (0 : Int) (4 : Int)))))] [V.arr u8s o0_0, V.own hdT o0_1, V.own secC o0_2, V.own symC o0_3, V.own relC o0_4, V.own grpC o0_5, V.val (.int .i64 o0_6)])
  (.ask (decide ((List.length o0_3 + List.length [[D.str (nameS { b := o0_0, h := o0_1, s := o0_2, y := o0_3, l := o0_4, g := o0_5, e := o0_6 } (Int.toNat (IntKind.wrap .i64 ((↑(List.length o0_1) : Int) - (2 : Int)))) (okI (symRe (cut t5 t10 (IntKind.wrap .i64 (t10 + (24 : Int))))) (getV (cut t5 t10 (IntKind.wrap .i64 (t10 + (24 : Int)))) (0 : Int) (4 : Int)))), D.int (okI (symRe (cut t5 t10 (IntKind.wrap .i64 (t10 + (24 : Int))))) (symRb (cut t5 t10 (IntKind.wrap .i64 (t10 + (24 : Int)))))), D.bool (okT (symRe (cut t5 t10 (IntKind.wrap .i64 (t10 + (24 : Int))))) (symRh (cut t5 t10 (IntKind.wrap .i64 (t10 + (24 : Int)))))), D.int (okI (symRe (cut t5 t10 (IntKind.wrap .i64 (t10 + (24 : Int))))) (symRw (cut t5 t10 (IntKind.wrap .i64 (t10 + (24 : Int)))))), D.int (okI (symRe (cut t5 t10 (IntKind.wrap .i64 (t10 + (24 : Int))))) (getV (cut t5 t10 (IntKind.wrap .i64 (t10 + (24 : Int)))) (8 : Int) (8 : Int))), D.int (okI (symRe (cut t5 t10 (IntKind.wrap .i64 (t10 + (24 : Int))))) (getV (cut t5 t10 (IntKind.wrap .i64 (t10 + (24 : Int)))) (16 : Int) (8 : Int)))]]) * (48 : Nat) ≤ (70368744177664 : Nat)) && decide (List.length o0_3 + List.length [[D.str (nameS { b := o0_0, h := o0_1, s := o0_2, y := o0_3, l := o0_4, g := o0_5, e := o0_6 } (Int.toNat (IntKind.wrap .i64 ((↑(List.length o0_1) : Int) - (2 : Int)))) (okI (symRe (cut t5 t10 (IntKind.wrap .i64 (t10 + (24 : Int))))) (getV (cut t5 t10 (IntKind.wrap .i64 (t10 + (24 : Int)))) (0 : Int) (4 : Int)))), D.int (okI (symRe (cut t5 t10 (IntKind.wrap .i64 (t10 + (24 : Int))))) (symRb (cut t5 t10 (IntKind.wrap .i64 (t10 + (24 : Int)))))), D.bool (okT (symRe (cut t5 t10 (IntKind.wrap .i64 (t10 + (24 : Int))))) (symRh (cut t5 t10 (IntKind.wrap .i64 (t10 + (24 : Int)))))), D.int (okI (symRe (cut t5 t10 (IntKind.wrap .i64 (t10 + (24 : Int))))) (symRw (cut t5 t10 (IntKind.wrap .i64 (t10 + (24 : Int)))))), D.int (okI (symRe (cut t5 t10 (IntKind.wrap .i64 (t10 + (24 : Int))))) (getV (cut t5 t10 (IntKind.wrap .i64 (t10 + (24 : Int)))) (8 : Int) (8 : Int))), D.int (okI (symRe (cut t5 t10 (IntKind.wrap .i64 (t10 + (24 : Int))))) (getV (cut t5 t10 (IntKind.wrap .i64 (t10 + (24 : Int)))) (16 : Int) (8 : Int)))]] ≤ (70368744177664 : Nat)))
  (.go 0 rptk3 (rpts3 (t5) (IntKind.wrap .i64 (t10 + (24 : Int))) (o0_0) (o0_1) (o0_2) (o0_3 ++ [[D.str (nameS { b := o0_0, h := o0_1, s := o0_2, y := o0_3, l := o0_4, g := o0_5, e := o0_6 } (Int.toNat (IntKind.wrap .i64 ((↑(List.length o0_1) : Int) - (2 : Int)))) (okI (symRe (cut t5 t10 (IntKind.wrap .i64 (t10 + (24 : Int))))) (getV (cut t5 t10 (IntKind.wrap .i64 (t10 + (24 : Int)))) (0 : Int) (4 : Int)))), D.int (okI (symRe (cut t5 t10 (IntKind.wrap .i64 (t10 + (24 : Int))))) (symRb (cut t5 t10 (IntKind.wrap .i64 (t10 + (24 : Int)))))), D.bool (okT (symRe (cut t5 t10 (IntKind.wrap .i64 (t10 + (24 : Int))))) (symRh (cut t5 t10 (IntKind.wrap .i64 (t10 + (24 : Int)))))), D.int (okI (symRe (cut t5 t10 (IntKind.wrap .i64 (t10 + (24 : Int))))) (symRw (cut t5 t10 (IntKind.wrap .i64 (t10 + (24 : Int)))))), D.int (okI (symRe (cut t5 t10 (IntKind.wrap .i64 (t10 + (24 : Int))))) (getV (cut t5 t10 (IntKind.wrap .i64 (t10 + (24 : Int)))) (8 : Int) (8 : Int))), D.int (okI (symRe (cut t5 t10 (IntKind.wrap .i64 (t10 + (24 : Int))))) (getV (cut t5 t10 (IntKind.wrap .i64 (t10 + (24 : Int)))) (16 : Int) (8 : Int)))]]) (o0_4) (o0_5) (nameE { b := o0_0, h := o0_1, s := o0_2, y := o0_3, l := o0_4, g := o0_5, e := o0_6 } (Int.toNat (IntKind.wrap .i64 ((↑(List.length o0_1) : Int) - (2 : Int)))) (okI (symRe (cut t5 t10 (IntKind.wrap .i64 (t10 + (24 : Int))))) (getV (cut t5 t10 (IntKind.wrap .i64 (t10 + (24 : Int)))) (0 : Int) (4 : Int))))))
  .fail)
  .fail))
  .fail)
  .fail)
  (.ret (.tup [], [[.arr u8s (o0_0), .own hdT (o0_1), .own secC (o0_2), .own symC (o0_3), .own relC (o0_4), .own grpC (o0_5), .val (.int .i64 (o0_6))]])))
  (.ret (.tup [], [[.arr u8s (o0_0), .own hdT (o0_1), .own secC (o0_2), .own symC (o0_3), .own relC (o0_4), .own grpC (o0_5), .val (.int .i64 (o0_6))]])))
set_option maxRecDepth 100000 in
theorem rptp3 (n : Nat) (t5 : List (List D)) (t10 : Int) (o0_0 o0_1 o0_2 o0_3 o0_4 o0_5 : List (List D)) (o0_6 : Int) : exec es3 (n + 81) (93, Try.f93, 1) rptk3 (rpts3 t5 t10 o0_0 o0_1 o0_2 o0_3 o0_4 o0_5 o0_6) = Tr.val es3 (93, Try.f93, 1) n (rptt3 t5 t10 o0_0 o0_1 o0_2 o0_3 o0_4 o0_5 o0_6) := by kernel_rfl
noncomputable def rptt4 (t5 : List (List D)) (t7 : Int) (o0_0 o0_1 o0_2 o0_3 o0_4 o0_5 : List (List D)) (o0_6 : Int) (b6_0 : ByteArray) (b6_1 : List (List D)) : Tr := (.ask (decide (t7 < (↑(List.length t5) : Int)))
  (.ask (pNum [normV CK.no (handed [Key.out (0 : Nat)] (V.ptr (Key.out (0 : Nat)) (0 : Nat))), normV (.sl u8s) (handed [Key.out (0 : Nat)] (V.arr u8s t5)), handed [Key.out (0 : Nat)] (V.val (.int .i64 t7)), handed [Key.out (0 : Nat)] (V.val (.int .i64 (4 : Int)))] [V.arr u8s o0_0, V.own hdT o0_1, V.own secC o0_2, V.own symC o0_3, V.own relC o0_4, V.own grpC o0_5, V.val (.int .i64 o0_6)])
  (.ask (decide ((List.length b6_1 + List.length [[D.int (getV t5 t7 (4 : Int))]]) * (8 : Nat) ≤ (70368744177664 : Nat)) && decide (List.length b6_1 + List.length [[D.int (getV t5 t7 (4 : Int))]] ≤ (70368744177664 : Nat)))
  (.go 0 rptk4 (rpts4 (t5) (IntKind.wrap .i64 (t7 + (4 : Int))) (o0_0) (o0_1) (o0_2) (o0_3) (o0_4) (o0_5) (numE t5 t7 (4 : Int) o0_6) (b6_0) (b6_1 ++ [[D.int (getV t5 t7 (4 : Int))]])))
  .fail)
  .fail)
  (.ask (decide ((List.length o0_5 + List.length [[D.str b6_0, D.arr b6_1]]) * (40 : Nat) ≤ (70368744177664 : Nat)) && decide (List.length o0_5 + List.length [[D.str b6_0, D.arr b6_1]] ≤ (70368744177664 : Nat)))
  (.ret (.tup [], [[.arr u8s (o0_0), .own hdT (o0_1), .own secC (o0_2), .own symC (o0_3), .own relC (o0_4), .own grpC (o0_5 ++ [[D.str b6_0, D.arr b6_1]]), .val (.int .i64 (o0_6))]]))
  .fail))
set_option maxRecDepth 100000 in
theorem rptp4 (n : Nat) (t5 : List (List D)) (t7 : Int) (o0_0 o0_1 o0_2 o0_3 o0_4 o0_5 : List (List D)) (o0_6 : Int) (b6_0 : ByteArray) (b6_1 : List (List D)) : exec es3 (n + 31) (93, Try.f93, 1) rptk4 (rpts4 t5 t7 o0_0 o0_1 o0_2 o0_3 o0_4 o0_5 o0_6 b6_0 b6_1) = Tr.val es3 (93, Try.f93, 1) n (rptt4 t5 t7 o0_0 o0_1 o0_2 o0_3 o0_4 o0_5 o0_6 b6_0 b6_1) := by kernel_rfl
set_option maxRecDepth 100000 in
theorem rptp5 (n : Nat) (t5 o0_0 o0_1 o0_2 o0_3 o0_4 o0_5 : List (List D)) (o0_6 b3_0 b3_1 b3_2 b3_3 b3_4 b3_5 b3_6 b3_7 b3_8 b3_9 : Int) : exec es3 (n + 66) (93, Try.f93, 1) rptk5 (rpts5 t5 o0_0 o0_1 o0_2 o0_3 o0_4 o0_5 o0_6 b3_0 b3_1 b3_2 b3_3 b3_4 b3_5 b3_6 b3_7 b3_8 b3_9) = Tr.val es3 (93, Try.f93, 1) n (rptt2 t5 o0_0 o0_1 o0_2 o0_3 o0_4 o0_5 o0_6 b3_0 b3_1 b3_2 b3_3 b3_4 b3_5 b3_6 b3_7 b3_8 b3_9) := by kernel_rfl
end Go.Proofs.Ytkcopbnaleiocaa.Ev
