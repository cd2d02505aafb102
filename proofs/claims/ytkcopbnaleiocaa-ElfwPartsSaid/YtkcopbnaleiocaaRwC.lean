/- ElfwParts: that it answers true, for any object. -/
import Derived.Test.YtkcopbnaleiocaaRbF
import Derived.Test.YtkcopbnaleiocaaRwP
namespace Go.Proofs.Ytkcopbnaleiocaa.Ev
open Go
set_option linter.unusedVariables false
set_option linter.unusedSimpArgs false
/-! ### Parts one behind the other -/
inductive Ch (b : List (List D)) (pl : Nat) : Nat → List Pt → List Hd → Prop
  | nil {e : Nat} (h : e ≤ pl) : Ch b pl e [] []
  | cons {e : Nat} {p : Pt} {ps : List Pt} {hs : List Hd} (o : Nat) (ho : e ≤ o) (hm : (o : Int) % p.hd.align = 0) (ha : 1 ≤ p.hd.align) (h : Has b o p.x) (he : e ≤ pl) (hp : p.hd.type ≠ 8 → o + p.x.length ≤ pl) (t : Ch b pl (if p.hd.type = 8 then e else o + p.x.length) ps hs) : Ch b pl e (p :: ps) (p.put o :: hs)
theorem ch_pl {b : List (List D)} {pl : Nat} : ∀ {e : Nat} {ps : List Pt} {hs : List Hd}, Ch b pl e ps hs → 64 ≤ e → Pl b ps hs
  | _, _, _, .nil _, _ => .nil
  | _, _, _, .cons o ho hm ha h he hp t, h64 => .cons o (by omega) h (ch_pl t (by split <;> omega))
theorem ch_mono {b b' : List (List D)} {pl : Nat} (m : ∀ o x, 64 ≤ o → Has b o x → Has b' o x) : ∀ {e : Nat} {ps : List Pt} {hs : List Hd}, Ch b pl e ps hs → 64 ≤ e → Ch b' pl e ps hs
  | _, _, _, .nil h, _ => .nil h
  | _, _, _, .cons o ho hm ha h he hp t, h64 => .cons o ho hm ha (m o _ (by omega) h) he hp (ch_mono m t (by split <;> omega))
theorem pad_mod (x : List (List D)) {m : Int} (hm : padOk m = true) : (((padB x m).length : Nat) : Int) % m = 0 := by
  have h := hm
  simp only [padOk, Bool.and_eq_true, decide_eq_true_eq] at h
  have r0 := Int.emod_nonneg ((x.length : Nat) : Int) (show m ≠ 0 by omega)
  have r1 := Int.emod_lt_of_pos ((x.length : Nat) : Int) (show 0 < m by omega)
  have r2 := Int.emod_add_mul_ediv ((x.length : Nat) : Int) m
  rw [padB, if_pos hm, List.length_append, show (zeros (padN x.length m).toNat).length = (padN x.length m).toNat from by simp [zeros]]
  have e0 : padN (x.length : Nat) m = if ((x.length : Nat) : Int) % m = 0 then 0 else m - ((x.length : Nat) : Int) % m := by
    unfold padN
    split
    · rename_i hz; rw [hz, Int.sub_zero, Int.emod_self]
    · exact Int.emod_eq_of_lt (by omega) (by omega)
  rw [e0]
  split
  · rename_i hz
    rw [show (Int.toNat 0) = 0 from rfl, Nat.add_zero]; exact hz
  · have : ((x.length + (m - ((x.length : Nat) : Int) % m).toNat : Nat) : Int) = m * (((x.length : Nat) : Int) / m + 1) := by
      rw [Int.mul_add, Int.mul_one]; omega
    rw [this, Int.mul_emod_right]
theorem chained (pl : Nat) : ∀ (ps : List Pt) (f : Fl) (e : Nat), (∀ p ∈ ps, padOk p.hd.align = true) → e ≤ f.b.length → (partsF f ps).b.length ≤ pl → ∃ hs c, (partsF f ps).b = f.b ++ c ∧ (partsF f ps).heads = f.heads ++ hs.map Hd.row ∧ Ch (partsF f ps).b pl e ps hs
  | [], f, e, _, he, hl => ⟨[], [], (List.append_nil _).symm, (List.append_nil _).symm, .nil (Nat.le_trans he hl)⟩
  | p :: t, f, e, ha, he, hl => by
    have hp := ha p List.mem_cons_self
    have hb : padB f.b p.hd.align = f.b ++ zeros (padN f.b.length p.hd.align).toNat := by rw [padB, if_pos hp]
    have hb1 : (partF f p.nm p.hd p.x).b = padB f.b p.hd.align ++ p.x := rfl
    have hge := padB_ge f.b p.hd.align hp
    have hl1 : (partF f p.nm p.hd p.x).b.length = (padB f.b p.hd.align).length + p.x.length := by rw [hb1, List.length_append]
    have e0 : partsF f (p :: t) = partsF (partF f p.nm p.hd p.x) t := rfl
    rw [e0] at hl ⊢
    obtain ⟨hs, c, e1, e2, e3⟩ := chained pl t (partF f p.nm p.hd p.x) (if p.hd.type = 8 then e else (padB f.b p.hd.align).length + p.x.length) (fun q hq => ha q (List.mem_cons_of_mem _ hq)) (by split <;> omega) hl
    have hl2 : (padB f.b p.hd.align).length + p.x.length ≤ pl := by
      have := congrArg List.length e1
      rw [List.length_append] at this
      omega
    refine ⟨p.put (padB f.b p.hd.align).length :: hs, (zeros (padN f.b.length p.hd.align).toNat ++ p.x) ++ c, ?_, ?_, ?_⟩
    · rw [e1, hb1, hb]; simp only [List.append_assoc]
    · rw [e2]; simp only [partF, List.append_assoc, List.map_cons, List.cons_append, List.nil_append]; rfl
    · refine .cons _ (by omega) (pad_mod f.b hp) ?_ ?_ (by omega) (fun _ => hl2) e3
      · simp only [padOk, Bool.and_eq_true, decide_eq_true_eq] at hp; exact hp.1
      · rw [e1, hb1]
        exact has_app ⟨padB f.b p.hd.align, [], by rw [List.append_nil], rfl⟩ c
theorem laid2 {S Y L G : List (List D)} (h : chkB S Y L G = true) (hl : (wrAll S Y L G).length ≤ 65536) : ∃ hs, Laid S Y L G hs ∧ Ch (wrB S Y L G) (wrPl S Y L G) 64 (allP S Y L G) hs := by
  obtain ⟨m1, m2⟩ := wrMn_in h
  have hpl := wrPl_ge h
  have hlen := wrAll_len h
  obtain ⟨hs, c, e1, e2, e3⟩ := chained (wrPl S Y L G) (allP S Y L G) ⟨zeros 64, [], []⟩ 64 (fun p hp => (allP_ok h p hp).2) (by simp [zeros]) (by rw [← wrF3_parts]; exact padB_ge _ _ rfl)
  rw [← wrF3_parts] at e2 e3
  rw [List.nil_append] at e2
  have hF : (firstB (wrPl S Y L G : Nat) (wrMn S Y L G : Nat)).length = 64 := first_len (by omega) (by omega)
  have e0 : padB (wrF3 S Y L G).b 8 = (wrF3 S Y L G).b ++ zeros (padN (wrF3 S Y L G).b.length 8).toNat := by rw [padB, if_pos (show padOk 8 = true from rfl)]
  have hch : Ch (wrB S Y L G) (wrPl S Y L G) 64 (allP S Y L G) hs := ch_mono (fun o x ho hx => by
    rw [wrB_eq h, wrAll, e0]
    exact has_first (has_app (has_app (has_app hx _) _) _) ho hF) e3 (Nat.le_refl _)
  have hpl2 := ch_pl hch (Nat.le_refl _)
  have hok := nmd_ok (wr_pos h) (by rw [wrB_len h]; omega) 0 hpl2 (fun p hp => (allP_ok h p hp).1)
  have hmany : hs.length + 1 = wrMn S Y L G := by rw [wrMn, e2, List.length_map]
  refine ⟨hs, ⟨hpl2, ?_, fun q hq => ?_, hmany⟩, hch⟩
  · rw [wrB_eq h]
    refine has_first ?_ hpl hF
    have e5 : ((hd0 :: nmd (wrTb S Y L G).p hs 0).map Hd.b).flatten = zeros 64 ++ headsF (wrTb S Y L G).p (wrF3 S Y L G).heads 0 := by
      rw [e2, headsF_nmd hs 0 hok, hd_zero]; rfl
    rw [e5, wrAll, List.append_assoc]
    exact ⟨padB (wrF3 S Y L G).b 8, [], by rw [List.append_nil], rfl⟩
  · rcases List.mem_cons.1 hq with rfl | hq
    · rfl
    · exact hok q hq
theorem secP_at {m : List (List D)} : ∀ {S : List (List D)} {i j : Nat} {s : List D}, S[j]? = some s → (secP m S i)[j]? = some ⟨rS s 0, secHd m (i + j) s, rA s 2⟩
  | e :: t, i, 0, s, h => by cases h; rfl
  | e :: t, i, j + 1, s, h => by
    have := secP_at (m := m) (S := t) (i := i + 1) (j := j) h
    rw [show i + 1 + j = i + (j + 1) from by omega] at this
    exact this
/-! ### The loop -/
theorem lk1_okP : ExtAll Try.prog lk1 := .normP con_sam (.normP con_twn (.norm con_grt lc7_ok))
theorem runs_pts {S Y L G m P b : List (List D)} {place many : Nat} (hlen : b.length = place + 64 * many) (hmax : b.length ≤ 65536) (hS : S.length ≤ 16) :
    ∀ {e : Nat} {ps : List Pt} {hs : List Hd}, Ch b place e ps hs → ∀ k : Nat, Has b (place + 64 * (k + 1)) ((nmd P hs k).map Hd.b).flatten → (∀ h ∈ nmd P hs k, h.okS = true) → k + 1 + hs.length = many →
      (∀ (j : Nat) p s, ps[j]? = some p → S[k + j]? = some s → p = ⟨rS s 0, secHd m (k + j) s, rA s 2⟩) →
      Runs lk1i (5, Try.f5, 0) ptsk3 (ptss3 true b (place : Nat) (many : Nat) (e : Nat) ((k + 1 : Nat) : Int) S Y L G) (Is (.val (.bool true)))
  | _, _, _, .nil _, k, _, _, hk, _ => by
    refine Runs.of (fun q => ptsp3 q true b _ _ _ _ S Y L G) ?_
    unfold ptst3
    simp only [List.length_nil] at hk
    exact askF (decF (by omega)) (is_refl rfl)
  | _, _, _, .cons (e := e) (p := p) (ps := ps) (hs := hs) o ho hm ha hx he hp t, k, hh, hok, hk, hsec => by
    rw [List.length_cons] at hk
    have w4 : IntKind.wrap .i64 (((k + 1 : Nat) : Int) + 1) = ((k + 1 + 1 : Nat) : Int) := by rw [wrap64 (by omega) (by omega)]; omega
    have r7 : ∀ (e' : Nat) (x : Bool), x = false → Runs lk1i (5, Try.f5, 0) ptsk3 (ptss3 true b (place : Nat) (many : Nat) (e' : Nat) ((k + 1 + 1 : Nat) : Int) S Y L G) (Is (.val (.bool true))) →
        Runs lk1i (5, Try.f5, 0) ptsk7 (ptss7 true b (place : Nat) (many : Nat) (e' : Nat) ((k + 1 : Nat) : Int) x S Y L G) (Is (.val (.bool true))) := fun e' x hx' hr => by
      refine Runs.of (fun q => ptsp7 q true b _ _ _ _ x S Y L G) ?_
      unfold ptst7
      rw [w4]
      exact askF hx' hr
    refine Runs.of (fun q => ptsp3 q true b _ _ _ _ S Y L G) ?_
    unfold ptst3
    have hxl := has_le hx
    have h0 := hok { p.put o with name := cellI P k 0 } List.mem_cons_self
    have hC := has_cut (has_head (x := ({ p.put o with name := cellI P k 0 } : Hd).b) (y := ((nmd P hs (k + 1)).map Hd.b).flatten) hh)
    have hT := has_tail (x := ({ p.put o with name := cellI P k 0 } : Hd).b) (y := ((nmd P hs (k + 1)).map Hd.b).flatten) hh (hd_len _)
    rw [show place + 64 * (k + 1) + 64 = place + 64 * (k + 1 + 1) from by omega] at hT
    have ih := runs_pts (S := S) (Y := Y) (L := L) (G := G) (m := m) (P := P) hlen hmax hS t (k + 1) hT (fun q hq => hok q (List.mem_cons_of_mem _ hq)) (by omega) (fun j q s hq hs' => by
      have := hsec (j + 1) q s hq (by rw [show k + (j + 1) = k + 1 + j from by omega]; exact hs')
      rw [show k + (j + 1) = k + 1 + j from by omega] at this
      exact this)
    have hs0 : ∀ s, S[k]? = some s → p = ⟨rS s 0, secHd m k s, rA s 2⟩ := fun s hs' => hsec 0 p s rfl hs'
    rw [hd_len] at hC
    have fo : ({ p.put o with name := cellI P k 0 } : Hd).offset = (o : Nat) := rfl
    have ft : ({ p.put o with name := cellI P k 0 } : Hd).type = p.hd.type := rfl
    have fa : ({ p.put o with name := cellI P k 0 } : Hd).align = p.hd.align := rfl
    have fz : ({ p.put o with name := cellI P k 0 } : Hd).size = if p.hd.type = 8 then p.hd.size else (p.x.length : Nat) := rfl
    generalize ({ p.put o with name := cellI P k 0 } : Hd) = h at hC h0 fo ft fa fz
    obtain ⟨rv1, rv2⟩ := hd_rv h0
    have w1 : IntKind.wrap .i64 (64 * ((k + 1 : Nat) : Int)) = ((64 * (k + 1) : Nat) : Int) := by rw [wrap64 (by omega) (by omega)]; omega
    have w2 : IntKind.wrap .i64 (((place : Nat) : Int) + ((64 * (k + 1) : Nat) : Int)) = ((place + 64 * (k + 1) : Nat) : Int) := by rw [wrap64 (by omega) (by omega)]; omega
    have w3 : IntKind.wrap .i64 (((place + 64 * (k + 1) : Nat) : Int) + 64) = ((place + 64 * (k + 1) : Nat) : Int) + ((64 : Nat) : Int) := wrap64 (by omega) (by omega)
    have w5 : IntKind.wrap .i64 (((k + 1 : Nat) : Int) - 1) = ((k : Nat) : Int) := by rw [wrap64 (by omega) (by omega)]; omega
    simp only [w1, w2, w3, hC, rv1, rv2, fo, ft, fa]
    refine askT (decT (by omega)) (askT (okB (by omega) (by omega) (by omega)) (askT (show bytesIn h.b = true from hd_bytes h) (askF rfl ?_)))
    refine askF (decF (by omega)) (askF (decF (by omega)) (askT (decT (by omega)) ?_))
    refine Runs.of (fun q => ptsp4 q true b _ _ _ _ _ S Y L G _ _ _ _ _ _ _ _ _ _) ?_
    unfold ptst4
    refine askF (by rw [Int.tmod_eq_emod_of_nonneg (by omega), hm]; rfl) (ask (fun t8 => ?_) (fun t8 => ?_))
    · have h8 : ¬ p.hd.type = 8 := bne_iff_ne.1 t8
      have hp := hp h8
      rw [if_neg h8] at fz ih
      have w6 : IntKind.wrap .i64 (((o : Nat) : Int) + h.size) = ((o + p.x.length : Nat) : Int) := by rw [fz, wrap64 (by omega) (by omega)]; omega
      simp only [w6]
      refine askF (decF (by omega)) (ask (fun hi => ?_) (fun hi => ?_))
      · refine Runs.of (fun q => ptsp5 q true b _ _ _ _ _ S Y L G _ _ _ _ _ _ _ _ _ _) ?_
        unfold ptst5
        rw [w4]
        exact ih
      have hi := of_decide_eq_false hi
      have hkS : k < S.length := by omega
      have gk : S.getD k [] = S[k] := by rw [List.getD_eq_getElem?_getD, List.getElem?_eq_getElem hkS]; rfl
      have hp0 := hs0 _ (List.getElem?_eq_getElem hkS)
      have ga : p.hd.align = rI S[k] 1 := by rw [hp0]; rfl
      have gx : p.x = rA S[k] 2 := by rw [hp0]
      have hd := has_cut hx
      rw [← Int.natCast_add] at hd
      refine Runs.of (fun q => ptsp6 q true b _ _ _ _ _ S Y L G _ _ _ _ _ _ _ _ _ _) ?_
      unfold ptst6
      simp only [w5, Int.toNat_natCast, cI gk, cA gk]
      refine askT (andT (decT (by omega)) (decT (by omega))) (askF (by rw [ga]; exact bne_self_eq_false _) (askT t8 (askT (okB (by omega) (by omega) (by omega)) (askF (by rw [hd, gx, beq_self_eq_true]; rfl) (askF (beq_eq_false_iff_ne.2 h8) (r7 _ _ rfl ih))))))
    · have h8 : p.hd.type = 8 := by simpa [bne] using t8
      rw [if_pos h8] at fz ih
      refine askF (decF (by omega)) (ask (fun hi => ?_) (fun hi => ?_))
      · refine Runs.of (fun q => ptsp5 q true b _ _ _ _ _ S Y L G _ _ _ _ _ _ _ _ _ _) ?_
        unfold ptst5
        rw [w4]
        exact ih
      have hi := of_decide_eq_false hi
      have hkS : k < S.length := by omega
      have gk : S.getD k [] = S[k] := by rw [List.getD_eq_getElem?_getD, List.getElem?_eq_getElem hkS]; rfl
      have hp0 := hs0 _ (List.getElem?_eq_getElem hkS)
      have ga : p.hd.align = rI S[k] 1 := by rw [hp0]; rfl
      have k4 : kindV (rS S[k] 0) = 4 := by
        have h8 : p.hd.type = 8 := h8
        rw [hp0] at h8
        have h8 : (if kindV (rS S[k] 0) = 4 then 8 else 1 : Int) = 8 := h8
        by_cases q : kindV (rS S[k] 0) = 4
        · exact q
        · rw [if_neg q] at h8; omega
      have fz : h.size = rI S[k] 3 := by
        rw [fz, hp0]
        show (if kindV (rS S[k] 0) = 4 then rI S[k] 3 else 0) = rI S[k] 3
        exact if_pos k4
      refine Runs.of (fun q => ptsp6 q true b _ _ _ _ _ S Y L G _ _ _ _ _ _ _ _ _ _) ?_
      unfold ptst6
      simp only [w5, Int.toNat_natCast, cI gk, cA gk]
      exact askT (andT (decT (by omega)) (decT (by omega))) (askF (by rw [ga]; exact bne_self_eq_false _) (askF t8 (askT (beq_iff_eq.2 h8) (r7 _ _ (by rw [fz]; exact bne_self_eq_false _) ih))))
theorem wrt_pre3 {S Y L G : List (List D)} (h : GObj S Y L G) (hs : Small S Y L G) : (decide (S.length ≤ 1048576) && decide (Y.length ≤ 1048576) && relsOk L && decide (G.length ≤ 1048576) && lensOk 1 1048576 G && (!chkB S Y L G || wrOk S Y L G)) = true := by
  refine andT (chk_pre h hs) ?_
  cases hk : chkB S Y L G with
  | false => rfl
  | true => rw [wrOk_of hk (pos_ok h.y)]; rfl
theorem con_pts (S Y L G : List (List D)) (h : GObj S Y L G) : Contract Try.prog 5 [.agg [.arr secC S, .arr symC Y, .arr relC L, .arr grpC G]] [] (.val (.bool true), []) := by
  refine el_con lk1_okP Try.func5 (by kernel_rfl) (by kernel_rfl) rfl (by kernel_rfl) (by kernel_rfl) (Runs.of (fun q => ptsp0 q S Y L G) ?_)
  unfold ptst0
  refine ask (fun _ => is_refl rfl) (fun hg => ?_)
  have hs := small_of hg
  refine askT (wrt_pre3 h hs) (ask (fun e => is_refl ?_) (fun e => ?_))
  · rw [wrV, if_neg (bne_iff_ne.1 e)]; rfl
  have e : wrE S Y L G = 0 := by simpa [bne] using e
  obtain ⟨k, l, v⟩ := wr_yes e
  obtain ⟨m1, m2⟩ := wrMn_in k
  have hpl := wrPl_ge k
  have hlen := wrAll_len k
  have hlb := wrB_len k
  have hu := u8_wrB k h.shp
  obtain ⟨hh, hL, hch⟩ := laid2 k l
  have hb : bytesIn (wrB S Y L G) = true := List.all_eq_true.2 fun q hq => by
    obtain ⟨n, rfl, n0, n1⟩ := hu q hq
    exact andT (decT n0) (decT n1)
  have g1 : getV (wrB S Y L G) 40 8 = (wrPl S Y L G : Nat) := by
    rcases wrB_place k with q | q
    · exact q
    · omega
  have g2 := wrB_many k
  have ge : ∀ a k : Int, siz k = true → 0 ≤ a → a + k ≤ 64 → getE (wrB S Y L G) a k = 0 := fun a k hk h0 h1 => by
    unfold getE
    rw [hk]
    simp only [Bool.not_true, Bool.false_eq_true, if_false]
    rw [if_neg (by omega)]
  have hS : S.length ≤ 16 := by
    simp only [chkB, Bool.and_eq_true, decide_eq_true_eq] at k
    exact k.1.1.1.1
  have w1 : IntKind.wrap .i64 ((4 : Int) + (S.length : Nat)) = ((4 + S.length : Nat) : Int) := by rw [wrap64 (by omega) (by omega)]; omega
  have w2 : IntKind.wrap .i64 ((64 : Int) * (wrMn S Y L G : Nat)) = ((64 * wrMn S Y L G : Nat) : Int) := by rw [wrap64 (by omega) (by omega)]; omega
  have w3 : IntKind.wrap .i64 (((wrPl S Y L G : Nat) : Int) + ((64 * wrMn S Y L G : Nat) : Int)) = ((wrB S Y L G).length : Nat) := by rw [wrap64 (by omega) (by omega)]; omega
  have pg : (bytesIn (wrB S Y L G) && decide ((wrB S Y L G).length ≤ 140737488351232)) = true := andT hb (decT (by omega))
  rw [v]
  refine askT (Eq.trans (by kernel_rfl) pg) ?_
  refine Runs.of (fun q => ptsp1 q true (wrB S Y L G) _ _ S Y L G) ?_
  unfold ptst1
  simp only [g1, g2, w1, w2, w3, ge 40 8 rfl (by omega) (by omega), ge 60 2 rfl (by omega) (by omega)]
  refine askT pg (askF rfl (askF rfl (askF (decF (by omega)) (askF (decF (by omega)) ?_))))
  refine Runs.of (fun q => ptsp2 q true (wrB S Y L G) _ _ _ S Y L G) ?_
  unfold ptst2
  refine askF (bne_self_eq_false _) ?_
  refine runs_pts (m := grpMap G []) (P := (wrTb S Y L G).p) hlb (by omega) hS hch 0 ?_ (fun q hq => hL.ok q (List.mem_cons_of_mem _ hq)) (by have := hL.many; omega) (fun j p s hp hs' => ?_)
  · have := has_tail (x := hd0.b) (y := ((nmd (wrTb S Y L G).p hh 0).map Hd.b).flatten) hL.hds (hd_len _)
    exact this
  · rw [Nat.zero_add] at hs' ⊢
    have h1 := secP_at (m := grpMap G []) (S := S) (i := 0) hs'
    have hj := (List.getElem?_eq_some_iff.1 h1).1
    rw [allP, datP, List.append_assoc, List.getElem?_append_left hj, h1, Nat.zero_add] at hp
    exact (Option.some.inj hp).symm
end Go.Proofs.Ytkcopbnaleiocaa.Ev
