/- A part of the proof: what the statement needs, and nothing else. -/
import Derived.Test.YtkcopbnaleiocaaZb20
namespace Go.Proofs.Ytkcopbnaleiocaa.Ev
open Go
set_option linter.unusedVariables false
set_option linter.unusedSimpArgs false
theorem okB_ask (b : Bool) (t f : Tr) : (Tr.ask b t f).okB = if b = true then t.okB else f.okB := by cases b <;> rfl
theorem okB_ret (b : Bool) : (Tr.ret (.val (.bool b), [])).okB = some b := rfl
theorem ite_some {α : Type} {p : Prop} [Decidable p] {a b : Option α} (ha : a.isSome = true) (hb : b.isSome = true) : (if p then a else b).isSome = true := by
  split
  · exact ha
  · exact hb
theorem pHasT_ok {s k : Int} (hs : (s == 2260595906707456 || s == 2251799864016896 || s == 2190433320966) = true) (h0 : 0 ≤ k) (h1 : k ≤ 255) : pHasT [handed [] (V.val (Value.int IntKind.u64 s)), handed [] (V.val (Value.int IntKind.u8 k))] = true := by
  show ((s == 2260595906707456 || s == 2251799864016896 || s == 2190433320966) && decide (0 ≤ k) && decide (k ≤ 255)) = true
  rw [hs, decT h0, decT h1]; rfl
theorem may_ok (b k c d : Int) (nm : ByteArray) (x : List (List D)) (n : Int) (h0 : 0 ≤ k) (h1 : k ≤ 255) : (mayt0 b k c d nm x n).okB.isSome = true := by
  have e1 := pHasT_ok (s := 2260595906707456) (k := k) rfl h0 h1
  have e2 := pHasT_ok (s := 2251799864016896) (k := k) rfl h0 h1
  have e3 := pHasT_ok (s := 2190433320966) (k := k) rfl h0 h1
  unfold mayt0
  simp only [okB_ask, okB_ret, e1, e2, e3, if_true]
  repeat' (first | exact rfl | apply ite_some)
theorem con_may : ∀ vs v, pMay vs = true → gMay vs = some v → Contract Try.prog 161 vs [] (v, []) := by
  intro vs v hp h
  unfold gMay at h
  split at h <;> cases h
  rename_i a b k c d nm al x z n
  simp only [pMay, Bool.and_eq_true, decide_eq_true_eq] at hp
  refine el_con lb4_ok Try.func161 (by kernel_rfl) (by kernel_rfl) rfl (by kernel_rfl) (by kernel_rfl) (Runs.of (fun q => mayp0 q a b k c d nm al x z n) ?_)
  obtain ⟨r, hr⟩ := Option.isSome_iff_exists.1 (may_ok b k c d nm x n hp.1 hp.2)
  rw [mayB, hr]
  exact Tr.okB_prop hr
theorem con_apt : ∀ vs v, gApt vs = some v → Contract Try.prog 122 vs [] (v, []) := by
  intro vs v h
  unfold gApt at h
  split at h <;> cases h
  rename_i a b k c d a' b' k' c' d'
  refine el_con lc1_ok Try.func122 (by kernel_rfl) (by kernel_rfl) rfl (by kernel_rfl) (by kernel_rfl) (Runs.of (fun q => aptp0 q a b k c d a' b' k' c' d') ?_)
  unfold aptt0
  refine ask (fun h => is_refl ?_) (fun h1 => ask (fun h => is_refl ?_) (fun h2 => ask (fun h => is_refl ?_) (fun h3 => ask (fun h => is_refl ?_) (fun h4 => ask (fun h => is_refl ?_) (fun h5 => is_refl ?_)))))
  · rw [apartB, h]; rfl
  · rw [apartB, h1, h]; rfl
  · rw [apartB, h1, h2, h]; rfl
  · rw [apartB, h1, h2, h3, h]; rfl
  · rw [apartB, h1, h2, h3, h4, h]; rfl
  · rw [apartB, h1, h2, h3, h4, h5]; rfl
theorem kindV_le (s : ByteArray) : 0 ≤ kindV s ∧ kindV s < 5 := by
  unfold kindV
  repeat' split
  all_goals omega
theorem partF_len (f : Fl) (nm : ByteArray) (h : Hd) (x : List (List D)) : (partF f nm h x).b.length ≤ f.b.length + 4096 + x.length ∧ (partF f nm h x).heads.length = f.heads.length + 1 ∧ (partF f nm h x).names.length = f.names.length + 1 := by
  have := padB_len f.b h.align
  refine ⟨?_, ?_, ?_⟩
  · show (padB f.b h.align ++ x).length ≤ _
    rw [List.length_append]; omega
  · show (f.heads ++ [_]).length = _
    rw [List.length_append]; rfl
  · show (f.names ++ [_]).length = _
    rw [List.length_append]; rfl
theorem runs_sc3 (S : List (List D)) (m : List (List D)) (hS : S.length ≤ 16) (hl : lensOk 2 4096 S = true) (f0 : Fl) (h1 : f0.b.length ≤ 64) (h2 : f0.heads.length ≤ 0) (h3 : f0.names.length ≤ 0) : ∀ (t : List (List D)) (i : Nat) (f : Fl), S.drop i = t → i ≤ S.length → f.b.length ≤ 64 + 8192 * i → f.heads.length = i → f.names.length = i →
    Runs en1 (59, Try.f59, 1) scsk3 (scss3 S (S.length : Nat) (i : Nat) f.b f.heads f.names m) (fun r => Relax r.1 (.tup []) ∧ r.2 = [(secsF m t i f).cells]) := by
  intro t
  induction t with
  | nil =>
    intro i f ht hi hb hh hn
    refine Runs.of (fun q => scsp3 q S _ _ f.b f.heads f.names m) ?_
    unfold scst3
    have := drop_nil ht
    exact askF (decF (by omega)) ⟨.one (.one (.refl _)), rfl⟩
  | cons e t ih =>
    intro i f ht hi hb hh hn
    obtain ⟨d1, d2, d3⟩ := drop_cons ht
    refine Runs.of (fun q => scsp3 q S _ _ f.b f.heads f.names m) ?_
    unfold scst3
    have hw : IntKind.wrap .i64 ((i : Int) + 1) = ((i + 1 : Nat) : Int) := by rw [wrap64 (by omega) (by omega)]; omega
    have hm : e ∈ S := by
      have : e ∈ S.drop i := by rw [ht]; exact List.mem_cons_self
      exact List.mem_of_mem_drop this
    have hk := kindV_le (rS e 0)
    have hx := lensOk_get hl hm
    refine askT (decT (by omega)) (askT (andT (decT (by omega)) (decT (by omega))) ?_)
    simp only [Int.toNat_natCast, cI d2, cS d2, cB d2, cA d2, hw]
    refine askT (andT (decT (by omega)) (decT (by omega))) ?_
    have hp : (flOk f && decide ((rA e 2).length ≤ 1048576)) = true := andT (andT (andT (decT (by omega)) (decT (by omega))) (decT (by omega))) (decT (by omega))
    have hl := partF_len f (rS e 0) (secHd m i e) (rA e 2)
    have := ih (i + 1) (partF f (rS e 0) (secHd m i e) (rA e 2)) d3 (by omega) (by omega) (by omega) (by omega)
    have e0 : secsF m (e :: t) i f = secsF m t (i + 1) (partF f (rS e 0) (secHd m i e) (rA e 2)) := rfl
    rw [e0]
    refine ask (fun h => askT hp ?_) (fun h => askT hp ?_)
    · have h : kindV (rS e 0) = 4 := beq_iff_eq.1 h
      rw [secHd, if_pos h, if_pos h] at this ⊢
      exact this
    · have h : ¬ kindV (rS e 0) = 4 := beq_eq_false_iff_ne.1 h
      rw [secHd, if_neg h, if_neg h] at this ⊢
      exact this
theorem runs_sc2 (S Y L G : List (List D)) (j : Nat) (f : Fl) (g : List (List D)) (hg : g.length ≤ 1048576) {Q : R → Prop} (m0 : List (List D)) (good : Runs en1 (59, Try.f59, 1) scsk1 (scss1 G (G.length : Nat) (IntKind.wrap .i64 ((j : Int) + 1)) f.b f.heads f.names S Y L G (grpOne g m0)) Q) :
    ∀ (t : List (List D)) (i : Nat) (m : List (List D)), g.drop i = t → i ≤ g.length → grpOne t m = grpOne g m0 → Runs en1 (59, Try.f59, 1) scsk2 (scss2 G (G.length : Nat) (j : Nat) g (g.length : Nat) (i : Nat) f.b f.heads f.names S Y L G m) Q := by
  intro t
  induction t with
  | nil =>
    intro i m ht hi he
    refine Runs.of (fun q => scsp2 q G _ _ g _ _ f.b f.heads f.names S Y L G m) ?_
    unfold scst2
    have := drop_nil ht
    have he : m = grpOne g m0 := he
    rw [he]
    exact askF (decF (by omega)) good
  | cons e t ih =>
    intro i m ht hi he
    obtain ⟨h1, h2, h3⟩ := drop_cons ht
    refine Runs.of (fun q => scsp2 q G _ _ g _ _ f.b f.heads f.names S Y L G m) ?_
    unfold scst2
    have hw : IntKind.wrap .i64 ((i : Int) + 1) = ((i + 1 : Nat) : Int) := by rw [wrap64 (by omega) (by omega)]; omega
    refine askT (decT (by omega)) (askT (andT (decT (by omega)) (decT (by omega))) ?_)
    simp only [Int.toNat_natCast, cI h2, cS h2, cB h2, cA h2, hw]
    exact ih (i + 1) _ h3 (by omega) he
theorem runs_sc1 (S Y L G : List (List D)) (f : Fl) (hg : G.length ≤ 1048576) (hl : lensOk 1 1048576 G = true) {Q : R → Prop} (good : Runs en1 (59, Try.f59, 1) scsk3 (scss3 S (S.length : Nat) 0 f.b f.heads f.names (grpMap G [])) Q) :
    ∀ (t : List (List D)) (i : Nat) (m : List (List D)), G.drop i = t → i ≤ G.length → grpMap t m = grpMap G [] → Runs en1 (59, Try.f59, 1) scsk1 (scss1 G (G.length : Nat) (i : Nat) f.b f.heads f.names S Y L G m) Q := by
  intro t
  induction t with
  | nil =>
    intro i m ht hi he
    refine Runs.of (fun q => scsp1 q G _ _ f.b f.heads f.names S Y L G m) ?_
    unfold scst1
    have := drop_nil ht
    have he : m = grpMap G [] := he
    rw [he]
    exact askF (decF (by omega)) good
  | cons e t ih =>
    intro i m ht hi he
    obtain ⟨h1, h2, h3⟩ := drop_cons ht
    refine Runs.of (fun q => scsp1 q G _ _ f.b f.heads f.names S Y L G m) ?_
    unfold scst1
    have hw : IntKind.wrap .i64 ((i : Int) + 1) = ((i + 1 : Nat) : Int) := by rw [wrap64 (by omega) (by omega)]; omega
    have hm : e ∈ G := by
      have : e ∈ G.drop i := by rw [ht]; exact List.mem_cons_self
      exact List.mem_of_mem_drop this
    refine askT (decT (by omega)) (askT (andT (decT (by omega)) (decT (by omega))) ?_)
    simp only [Int.toNat_natCast, cI h2, cS h2, cB h2, cA h2]
    exact runs_sc2 S Y L G i f (rA e 1) (lensOk_get hl hm) m (by rw [hw]; exact ih (i + 1) _ h3 (by omega) he) (rA e 1) 0 m rfl (by omega) rfl
theorem con_scs : ∀ vs os r, pScs vs os = true → gScs vs os = some r → Contract Try.prog 59 vs [os] (r.1, [r.2]) := by
  intro vs os r hp h
  unfold gScs at h
  split at h
  · rename_i S Y L G
    split at h
    · rename_i f hf
      cases h
      have := flOf_eq hf
      subst this
      simp only [pScs, hf, Bool.and_eq_true, decide_eq_true_eq] at hp
      obtain ⟨⟨⟨⟨⟨⟨p1, p2⟩, p3⟩, p4⟩, p5⟩, p6⟩, p7⟩ := hp
      refine el_conO lc1_ok Try.func59 (by kernel_rfl) (by kernel_rfl) rfl (by kernel_rfl) (by kernel_rfl) (Runs.of (fun q => scsp0 q S Y L G f.b f.heads f.names) ?_)
      unfold scst0
      exact runs_sc1 S Y L G f p6 p7 (runs_sc3 S (grpMap G []) p4 p5 f p1 p2 p3 S 0 f rfl (by omega) (by omega) (by omega) (by omega)) G 0 [] rfl (by omega) rfl
    · cases h
  · cases h
theorem lc2_ok : ExtAll Try.prog lc2 := .normP con_may (.normP con_fil (.normP con_bys (.box con_scs (.norm con_apt lc1_ok))))
theorem runs_rck (S : List (List D)) (hS : S.length ≤ 16) (a b k c d n : Int) (h0 : 0 ≤ k) (h1 : k ≤ 255) (hn0 : 0 ≤ n) (hn1 : n ≤ 64) : ∀ (t : List (List D)) (i : Nat), S.drop i = t → i ≤ S.length → secAll t = secAll S → Runs eo2 (120, Try.f120, 0) rckk1 (rcks1 S n S (S.length : Nat) (i : Nat) a b k c d) (Is (.val (.int .i64 (relCk a b k c d S n)))) := by
  intro t
  induction t with
  | nil =>
    intro i ht hi he
    refine Runs.of (fun q => rckp1 q S n S _ _ a b k c d) ?_
    unfold rckt1
    have := drop_nil ht
    have hall : ¬ secAll S = false := by rw [← he]; simp [secAll]
    have c0 : relCk a b k c d S n = if a < 1 ∨ (S.length : Int) < a then 8 else if mayB b k c d (rS (S.getD (a - 1).toNat []) 0) (rA (S.getD (a - 1).toNat []) 2) n = true then 0 else 8 := by
      rw [relCk, if_neg (by omega), if_neg (by omega), if_neg hall]
    refine askF (decF (by omega)) (ask (fun h => is_refl ?_) (fun ha => ask (fun h => is_refl ?_) (fun hb => ?_)))
    · rw [c0, if_pos (.inl (of_decide_eq_true h))]
    · rw [c0, if_pos (.inr (of_decide_eq_true h))]
    have ha := of_decide_eq_false ha
    have hb := of_decide_eq_false hb
    have ew : IntKind.wrap .i64 (a - 1) = a - 1 := wrap64 (by omega) (by omega)
    rw [c0, if_neg (by omega)]
    refine askT (andT (decT (by rw [ew]; omega)) (decT (by rw [ew]; omega))) (askT (show (decide (0 ≤ k) && decide (k ≤ 255)) = true from andT (decT h0) (decT h1)) ?_)
    rw [ew, cS rfl, cA rfl]
    refine ask (fun h => is_refl ?_) (fun h => is_refl ?_)
    · rw [if_neg (by rw [show mayB _ _ _ _ _ _ _ = false from notT h]; simp)]
    · rw [if_pos (notF h)]
  | cons e t ih =>
    intro i ht hi he
    obtain ⟨d1, d2, d3⟩ := drop_cons ht
    refine Runs.of (fun q => rckp1 q S n S _ _ a b k c d) ?_
    unfold rckt1
    have hw : IntKind.wrap .i64 ((i : Int) + 1) = ((i + 1 : Nat) : Int) := by rw [wrap64 (by omega) (by omega)]; omega
    refine askT (decT (by omega)) (askT (andT (decT (by omega)) (decT (by omega))) ?_)
    simp only [Int.toNat_natCast, cI d2, cS d2, cB d2, cA d2, hw]
    have hc : secAll (e :: t) = (secOk (rS e 0) (rI e 1) (rA e 2).length (rI e 3) && secAll t) := rfl
    cases ho : secOk (rS e 0) (rI e 1) (rA e 2).length (rI e 3) with
    | true =>
      have : secE (rS e 0) (rI e 1) (rA e 2).length (rI e 3) = 0 := by rw [secE, ho]; rfl
      rw [hc, ho, Bool.true_and] at he
      exact askF (by rw [this]; rfl) (ih (i + 1) d3 (by omega) he)
    | false =>
      have e8 : secE (rS e 0) (rI e 1) (rA e 2).length (rI e 3) = 8 := by rw [secE, ho]; rfl
      rw [hc, ho, Bool.false_and] at he
      refine askT (by rw [e8]; rfl) (is_refl ?_)
      rw [e8, relCk, if_neg (by omega), if_neg (by omega), if_pos he.symm]
theorem con_rck : ∀ vs v, pRck vs = true → gRck vs = some v → Contract Try.prog 120 vs [] (v, []) := by
  intro vs v hp h
  unfold gRck at h
  split at h <;> cases h
  rename_i a b k c d S n
  simp only [pRck, Bool.and_eq_true, decide_eq_true_eq] at hp
  refine el_con lc2_ok Try.func120 (by kernel_rfl) (by kernel_rfl) rfl (by kernel_rfl) (by kernel_rfl) (Runs.of (fun q => rckp0 q a b k c d S n) ?_)
  unfold rckt0
  refine ask (fun h => is_refl ?_) (fun h1 => ask (fun h => is_refl ?_) (fun h2 => ask (fun h => is_refl ?_) (fun h3 => ?_)))
  · have h := of_decide_eq_true h
    rw [relCk, if_pos (by omega)]
  · have h := of_decide_eq_true h
    have h1 := of_decide_eq_false h1
    rw [relCk, if_neg (by omega), if_pos (.inl h)]
  · have h := of_decide_eq_true h
    have h1 := of_decide_eq_false h1
    rw [relCk, if_neg (by omega), if_pos (.inr h)]
  · have h1 := of_decide_eq_false h1
    have h2 := of_decide_eq_false h2
    have h3 := of_decide_eq_false h3
    exact runs_rck S (by omega) a b k c d n hp.1 hp.2 (by omega) (by omega) S 0 rfl (by omega) rfl
theorem mem_of_drop {xs t : List (List D)} {e : List D} {i : Nat} (h : xs.drop i = e :: t) : e ∈ xs := by
  have : e ∈ xs.drop i := by rw [h]; exact List.mem_cons_self
  exact List.mem_of_mem_drop this
theorem full_cons (e : List D) (t : List (List D)) : full (e :: t) = (if 0 < (rA e 0).length then 1 else 0) + full t := by
  unfold full
  rw [List.filter_cons]
  by_cases h : 0 < (rA e 0).length
  · rw [if_pos (decT h), if_pos h, List.length_cons]; omega
  · rw [if_neg (by rw [decF h]; simp), if_neg h]; omega
theorem full_le (t : List (List D)) : full t ≤ t.length := List.length_filter_le _ _
theorem runs_rs1 (S Y L G W : List (List D)) (f : Fl) (N : Nat) (hN : N ≤ 65536) {Q : R → Prop} (good : Runs eo2 (60, Try.f60, 1) rstk2 (rsts2 W (N : Nat) G (G.length : Nat) 0 f.b f.heads f.names S Y L G) Q) (hW : W.length ≤ 16) :
    ∀ (t : List (List D)) (i c : Nat), W.drop i = t → i ≤ W.length → c + full t = N → Runs eo2 (60, Try.f60, 1) rstk1 (rsts1 W (c : Nat) W (W.length : Nat) (i : Nat) f.b f.heads f.names S Y L G) Q := by
  intro t
  induction t with
  | nil =>
    intro i c ht hi he
    refine Runs.of (fun q => rstp1 q W _ W _ _ f.b f.heads f.names S Y L G) ?_
    unfold rstt1
    have := drop_nil ht
    have he : c = N := he
    rw [he]
    exact askF (decF (by omega)) good
  | cons e t ih =>
    intro i c ht hi he
    obtain ⟨h1, h2, h3⟩ := drop_cons ht
    refine Runs.of (fun q => rstp1 q W _ W _ _ f.b f.heads f.names S Y L G) ?_
    unfold rstt1
    rw [full_cons] at he
    have hw : IntKind.wrap .i64 ((i : Int) + 1) = ((i + 1 : Nat) : Int) := by rw [wrap64 (by omega) (by omega)]; omega
    have hc : IntKind.wrap .i64 ((c : Int) + 1) = ((c + 1 : Nat) : Int) := by rw [wrap64 (by omega) (by omega)]; omega
    refine askT (decT (by omega)) (askT (andT (decT (by omega)) (decT (by omega))) ?_)
    simp only [Int.toNat_natCast, cI h2, cS h2, cB h2, cA h2, hw, hc]
    refine ask (fun h => ?_) (fun h => ?_)
    · rw [if_pos (by have := of_decide_eq_true h; omega)] at he
      exact ih (i + 1) (c + 1) h3 (by omega) (by omega)
    · rw [if_neg (by have := of_decide_eq_false h; omega)] at he
      exact ih (i + 1) c h3 (by omega) (by omega)
theorem numsB_len (k : Int) (hk : k ≤ 8) : ∀ (l : List (List D)), (numsB k l).length ≤ 8 * l.length
  | [] => by simp [numsB]
  | e :: l => by
    have := numsB_len k hk l
    have h2 := putB_len (e.getD 0 default).toInt k hk
    have : numsB k (e :: l) = putB (e.getD 0 default).toInt k ++ numsB k l := rfl
    rw [this, List.length_append, List.length_cons]; omega
theorem strsOk_get {j n : Nat} {G : List (List D)} (h : strsOk j n G = true) {e : List D} (he : e ∈ G) : (rS e j).size ≤ n := by
  have := List.all_eq_true.1 h e he
  simpa using this
theorem posOk_get {j : Nat} {G : List (List D)} (h : posOk j G = true) {e : List D} (he : e ∈ G) : 0 ≤ rI e j := by
  have := List.all_eq_true.1 h e he
  simpa using this
theorem num1 : numsB 4 [[.int 1]] = [[.int 1], [.int 0], [.int 0], [.int 0]] := by kernel_rfl
theorem runs_rs2 (S Y L G W : List (List D)) (N : Nat) (hG : G.length ≤ 16) (hg : lensOk 1 16 G = true) (hs : strsOk 0 4096 G = true) {Q : R → Prop} (f0 : Fl) (good : ∀ f : Fl, f = grpsF N G f0 → f.b.length ≤ 131136 + 8192 * G.length → f.heads.length ≤ 16 + G.length → f.names.length ≤ 16 + G.length → Runs eo2 (60, Try.f60, 1) rstk3 (rsts3 (N : Nat) W (W.length : Nat) 0 f.b f.heads f.names S Y L G) Q) :
    ∀ (t : List (List D)) (i : Nat) (f : Fl), G.drop i = t → i ≤ G.length → grpsF N t f = grpsF N G f0 → f.b.length ≤ 131136 + 8192 * i → f.heads.length ≤ 16 + i → f.names.length ≤ 16 + i → Runs eo2 (60, Try.f60, 1) rstk2 (rsts2 W (N : Nat) G (G.length : Nat) (i : Nat) f.b f.heads f.names S Y L G) Q := by
  intro t
  induction t with
  | nil =>
    intro i f ht hi he b1 b2 b3
    refine Runs.of (fun q => rstp2 q W _ G _ _ f.b f.heads f.names S Y L G) ?_
    unfold rstt2
    have := drop_nil ht
    exact askF (decF (by omega)) (good f he (by omega) (by omega) (by omega))
  | cons e t ih =>
    intro i f ht hi he b1 b2 b3
    obtain ⟨h1, h2, h3⟩ := drop_cons ht
    have hm := mem_of_drop ht
    refine Runs.of (fun q => rstp2 q W _ G _ _ f.b f.heads f.names S Y L G) ?_
    unfold rstt2
    have hw : IntKind.wrap .i64 ((i : Int) + 1) = ((i + 1 : Nat) : Int) := by rw [wrap64 (by omega) (by omega)]; omega
    refine askT (decT (by omega)) (askT (andT (decT (by omega)) (decT (by omega))) ?_)
    simp only [Int.toNat_natCast, cI h2, cS h2, cB h2, cA h2, hw]
    have l1 := lensOk_get hg hm
    have l2 := strsOk_get hs hm
    have l3 := numsB_len 4 (by omega) (rA e 1)
    have hp : (flOk f && decide ((([[.int 1], [.int 0], [.int 0], [.int 0]] : List (List D)) ++ numsB 4 (rA e 1)).length ≤ 1048576)) = true := andT (andT (andT (decT (by omega)) (decT (by omega))) (decT (by omega))) (decT (by simp only [List.length_append, List.length_cons, List.length_nil]; omega))
    have hl := partF_len f (sGrp ++ rS e 0) ⟨0, 17, 0, 0, 0, 0, N, 0, 4, 4⟩ ([[.int 1], [.int 0], [.int 0], [.int 0]] ++ numsB 4 (rA e 1))
    simp only [List.length_append, List.length_cons, List.length_nil] at hl
    refine askT (decT (by omega)) (askT (show (decide ((4 : Nat) ≤ 16777216) && decide ((rA e 1).length ≤ 1048576)) = true from andT (decT (by omega)) (decT (by omega))) (askT hp ?_))
    refine ih (i + 1) (partF f (sGrp ++ rS e 0) ⟨0, 17, 0, 0, 0, 0, N, 0, 4, 4⟩ ([[.int 1], [.int 0], [.int 0], [.int 0]] ++ numsB 4 (rA e 1))) h3 (by omega) ?_ (by omega) (by omega) (by omega)
    rw [← he, ← num1]; rfl
theorem byS_lens (n : Nat) (L : List (List D)) : ∀ e ∈ byS n L, (rA e 0).length ≤ 32 * L.length := by
  intro e he
  obtain ⟨i, hi, rfl⟩ := List.mem_map.1 he
  exact relsOf_len (i + 1) L
theorem runs_rs3 (S Y L G W : List (List D)) (N : Nat) (hW : W.length ≤ 16) (hS : S.length = W.length) (hw : ∀ e ∈ W, (rA e 0).length ≤ 8192) (hs : strsOk 0 4096 S = true) {Q : R → Prop} (f0 : Fl) (B H M : Nat) (hB : B ≤ 1048576) (hH : H ≤ 1024) (hM : M ≤ 1024) (good : ∀ f : Fl, f = relsF N S W 0 f0 → f.b.length ≤ B + 16384 * W.length → f.heads.length ≤ H + W.length → f.names.length ≤ M + W.length → Runs eo2 (60, Try.f60, 1) rstk4 (rsts4 (N : Nat) [] 0 Y (Y.length : Nat) 0 f.b f.heads f.names S Y L G) Q) :
    ∀ (t : List (List D)) (i : Nat) (f : Fl), W.drop i = t → i ≤ W.length → relsF N S t i f = relsF N S W 0 f0 → f.b.length ≤ B + 16384 * i → f.heads.length ≤ H + i → f.names.length ≤ M + i → Runs eo2 (60, Try.f60, 1) rstk3 (rsts3 (N : Nat) W (W.length : Nat) (i : Nat) f.b f.heads f.names S Y L G) Q := by
  intro t
  induction t with
  | nil =>
    intro i f ht hi he b1 b2 b3
    refine Runs.of (fun q => rstp3 q _ W _ _ f.b f.heads f.names S Y L G) ?_
    unfold rstt3
    have := drop_nil ht
    exact askF (decF (by omega)) (good f he (by omega) (by omega) (by omega))
  | cons e t ih =>
    intro i f ht hi he b1 b2 b3
    obtain ⟨h1, h2, h3⟩ := drop_cons ht
    have hm := mem_of_drop ht
    refine Runs.of (fun q => rstp3 q _ W _ _ f.b f.heads f.names S Y L G) ?_
    unfold rstt3
    have hx : IntKind.wrap .i64 ((i : Int) + 1) = ((i + 1 : Nat) : Int) := by rw [wrap64 (by omega) (by omega)]; omega
    refine askT (decT (by omega)) (askT (andT (decT (by omega)) (decT (by omega))) ?_)
    simp only [Int.toNat_natCast, cI h2, cS h2, cB h2, cA h2, hx]
    have e0 : relsF N S (e :: t) i f = relsF N S t (i + 1) (if 0 < (rA e 0).length then partF f (sRel ++ rS (S.getD i []) 0) ⟨0, 4, 64, 0, 0, 0, N, ((i + 1 : Nat) : Int), 8, 24⟩ (rA e 0) else f) := rfl
    rw [e0] at he
    refine ask (fun h => ?_) (fun h => ?_)
    · have h := of_decide_eq_true h
      rw [if_pos (by omega)] at he
      have l1 := hw e hm
      have hi' : i < S.length := by omega
      have hsm : S.getD i [] ∈ S := by
        rw [List.getD_eq_getElem?_getD, List.getElem?_eq_getElem hi']; exact List.getElem_mem hi'
      have l2 := strsOk_get hs hsm
      have hp : (flOk f && decide ((rA e 0).length ≤ 1048576)) = true := andT (andT (andT (decT (by omega)) (decT (by omega))) (decT (by omega))) (decT (by omega))
      have hl := partF_len f (sRel ++ rS (S.getD i []) 0) ⟨0, 4, 64, 0, 0, 0, N, ((i + 1 : Nat) : Int), 8, 24⟩ (rA e 0)
      simp only [cS (xs := S) (i := i) (e := S.getD i []) rfl]
      refine askT (andT (decT (by omega)) (decT (by omega))) (askT (decT (by omega)) (askT hp ?_))
      exact ih (i + 1) (partF f (sRel ++ rS (S.getD i []) 0) ⟨0, 4, 64, 0, 0, 0, N, ((i + 1 : Nat) : Int), 8, 24⟩ (rA e 0)) h3 (by omega) he (by omega) (by omega) (by omega)
    · have h := of_decide_eq_false h
      rw [if_neg (by omega)] at he
      exact ih (i + 1) f h3 (by omega) he (by omega) (by omega) (by omega)
theorem locals_cons (e : List D) (t : List (List D)) : locals (e :: t) = (if rI e 1 = 0 then 1 else 0) + locals t := by
  unfold locals
  rw [List.filter_cons]
  by_cases h : rI e 1 = 0
  · rw [if_pos (decT h), if_pos h, List.length_cons]; omega
  · rw [if_neg (by rw [decF h]; simp), if_neg h]; omega
theorem symRow_len (e : List D) (a : Int) : (symRow e a).length ≤ 32 := by
  unfold symRow
  split
  · simp [symB, leB]
  · simp
theorem runs_rs5 (S Y L G P T : List (List D)) (N c : Nat) (hY : Y.length ≤ 64) (hP : P.length = Y.length) (hp : posOk 1 Y = true) (f : Fl) {Q : R → Prop} (Z : List (List D)) (good : ∀ b : List (List D), b = Z → b.length ≤ 24 + 32 * Y.length → Tr.prop eo2 (60, Try.f60, 1) Q (rstt5 (N : Nat) (c : Nat) T P b Y (Y.length : Nat) (Y.length : Nat) f.b f.heads f.names)) :
    ∀ (t : List (List D)) (i : Nat) (b : List (List D)), Y.drop i = t → i ≤ Y.length → b ++ symsF P t i = Z → b.length ≤ 24 + 32 * i → Runs eo2 (60, Try.f60, 1) rstk5 (rsts5 (N : Nat) (c : Nat) T P b Y (Y.length : Nat) (i : Nat) f.b f.heads f.names) Q := by
  intro t
  induction t with
  | nil =>
    intro i b ht hi he hb
    refine Runs.of (fun q => rstp5 q _ _ T P b Y _ _ f.b f.heads f.names) ?_
    have := drop_nil ht
    have hi : i = Y.length := by omega
    subst hi
    exact good b (by rw [← he, symsF, List.append_nil]) hb
  | cons e t ih =>
    intro i b ht hi he hb
    obtain ⟨h1, h2, h3⟩ := drop_cons ht
    have hm := mem_of_drop ht
    refine Runs.of (fun q => rstp5 q _ _ T P b Y _ _ f.b f.heads f.names) ?_
    unfold rstt5
    have hx : IntKind.wrap .i64 ((i : Int) + 1) = ((i + 1 : Nat) : Int) := by rw [wrap64 (by omega) (by omega)]; omega
    refine askT (decT (by omega)) (askT (andT (decT (by omega)) (decT (by omega))) (askT (andT (decT (by omega)) (decT (by omega))) ?_))
    simp only [Int.toNat_natCast, cI h2, cS h2, cB h2, cA h2, hx]
    have l1 := posOk_get hp hm
    have l2 := symRow_len e (cellI P i 0)
    have l2' : (if symWok (rS e 0) (rI e 1) (rB e 2) (rI e 3) (rI e 4) (rI e 5) (cellI P i 0) = true then symB (cellI P i 0) (rI e 1) (rB e 2) (rI e 3) (rI e 4) (rI e 5) else []).length ≤ 32 := l2
    refine askT (show decide (0 ≤ rI e 1) = true from decT l1) (askT (andT (decT (by omega)) (decT (by omega))) ?_)
    refine ih (i + 1) _ h3 (by omega) ?_ (by rw [List.length_append]; omega)
    rw [← he, List.append_assoc]; rfl
theorem runs_rs4 (S Y L G : List (List D)) (N : Nat) (hY : Y.length ≤ 64) (f : Fl) {Q : R → Prop} (good : Runs eo2 (60, Try.f60, 1) rstk5 (rsts5 (N : Nat) (locals Y : Nat) (bldR (namesY Y)).t (bldR (namesY Y)).p (zeros 24) Y (Y.length : Nat) 0 f.b f.heads f.names) Q) :
    ∀ (t : List (List D)) (i c : Nat) (n : List (List D)), Y.drop i = t → i ≤ Y.length → c + locals t = locals Y → n ++ namesY t = namesY Y → n.length = i → c ≤ i → Runs eo2 (60, Try.f60, 1) rstk4 (rsts4 (N : Nat) n (c : Nat) Y (Y.length : Nat) (i : Nat) f.b f.heads f.names S Y L G) Q := by
  intro t
  induction t with
  | nil =>
    intro i c n ht hi hc hn hl hci
    refine Runs.of (fun q => rstp4 q _ n _ Y _ _ f.b f.heads f.names S Y L G) ?_
    unfold rstt4
    have := drop_nil ht
    have hc : c = locals Y := hc
    have hn : n = namesY Y := by rw [← hn]; exact (List.append_nil n).symm
    rw [hc, hn]
    exact askF (decF (by omega)) good
  | cons e t ih =>
    intro i c n ht hi hc hn hl hci
    obtain ⟨h1, h2, h3⟩ := drop_cons ht
    refine Runs.of (fun q => rstp4 q _ n _ Y _ _ f.b f.heads f.names S Y L G) ?_
    unfold rstt4
    have hx : IntKind.wrap .i64 ((i : Int) + 1) = ((i + 1 : Nat) : Int) := by rw [wrap64 (by omega) (by omega)]; omega
    have hc1 : IntKind.wrap .i64 ((c : Int) + 1) = ((c + 1 : Nat) : Int) := by rw [wrap64 (by omega) (by omega)]; omega
    rw [locals_cons] at hc
    refine askT (decT (by omega)) (askT (andT (decT (by omega)) (decT (by omega))) ?_)
    simp only [Int.toNat_natCast, cI h2, cS h2, cB h2, cA h2, hx, hc1]
    have hn2 : (n ++ [[D.str (rS e 0)]]) ++ namesY t = namesY Y := by rw [← hn, List.append_assoc]; rfl
    refine askT (andT (decT (by simp only [List.length_cons, List.length_nil]; omega)) (decT (by simp only [List.length_cons, List.length_nil]; omega))) (ask (fun h => ?_) (fun h => ?_))
    · rw [if_pos (beq_iff_eq.1 h)] at hc
      exact ih (i + 1) (c + 1) _ h3 (by omega) (by omega) hn2 (by rw [List.length_append]; simp only [List.length_cons, List.length_nil]; omega) (by omega)
    · rw [if_neg (beq_eq_false_iff_ne.1 h)] at hc
      exact ih (i + 1) c _ h3 (by omega) (by omega) hn2 (by rw [List.length_append]; simp only [List.length_cons, List.length_nil]; omega) (by omega)
theorem byS_length (n : Nat) (L : List (List D)) : (byS n L).length = n := by simp [byS]
theorem locals_le (Y : List (List D)) : locals Y ≤ Y.length := List.length_filter_le _ _
theorem con_rst : ∀ vs os r, pRst vs os = true → gRst vs os = some r → Contract Try.prog 60 vs [os] (r.1, [r.2]) := by
  intro vs os r hp h
  unfold gRst at h
  split at h
  · rename_i S Y L G
    split at h
    · rename_i f hf
      cases h
      have := flOf_eq hf
      subst this
      simp only [pRst, hf, Bool.and_eq_true, decide_eq_true_eq] at hp
      obtain ⟨⟨⟨⟨⟨⟨⟨⟨⟨⟨⟨p1, p2⟩, p3⟩, p4⟩, p5⟩, p6⟩, p7⟩, p8⟩, p9⟩, p10⟩, p11⟩, p12⟩ := hp
      have q4 := p4
      simp only [bysOk, Bool.and_eq_true, decide_eq_true_eq] at p4
      obtain ⟨⟨q1, q2⟩, q3⟩ := p4
      refine el_conO lc2_ok Try.func60 (by kernel_rfl) (by kernel_rfl) rfl (by kernel_rfl) (by kernel_rfl) (Runs.of (fun q => rstp0 q S Y L G f.b f.heads f.names) ?_)
      unfold rstt0
      refine askT q4 ?_
      have hN : symFirst S L G = 1 + S.length + G.length + full (byS S.length L) := rfl
      have hfl := full_le (byS S.length L)
      rw [byS_length] at hfl
      have hw : IntKind.wrap .i64 (IntKind.wrap .i64 ((1 : Int) + (S.length : Int)) + (G.length : Int)) = ((1 + S.length + G.length : Nat) : Int) := by
        rw [wrap64 (n := (1 : Int) + (S.length : Int)) (by omega) (by omega), wrap64 (by omega) (by omega)]; omega
      rw [hw]
      refine runs_rs1 S Y L G (byS S.length L) f (symFirst S L G) (by omega) ?_ (by rw [byS_length]; exact q1) (byS S.length L) 0 _ rfl (by omega) hN.symm
      refine runs_rs2 S Y L G (byS S.length L) (symFirst S L G) p5 p6 p7 f (fun f1 e1 a1 a2 a3 => ?_) G 0 f rfl (by omega) rfl (by omega) (by omega) (by omega)
      refine runs_rs3 S Y L G (byS S.length L) (symFirst S L G) (by rw [byS_length]; exact q1) (by rw [byS_length]) (fun e he => Nat.le_trans (byS_lens S.length L e he) (by omega)) p8 f1 524288 64 64 (by omega) (by omega) (by omega) (fun f2 e2 b1 b2 b3 => ?_) (byS S.length L) 0 f1 rfl (by omega) rfl (by omega) (by omega) (by omega)
      rw [byS_length] at b1 b2 b3
      refine runs_rs4 S Y L G (symFirst S L G) p9 f2 ?_ Y 0 0 [] rfl (by omega) (by omega) rfl rfl (by omega)
      refine runs_rs5 S Y L G (bldR (namesY Y)).p (bldR (namesY Y)).t (symFirst S L G) (locals Y) p9 p11 p10 f2 (zeros 24 ++ symsF (bldR (namesY Y)).p Y 0) (fun b eb hb => ?_) Y 0 (zeros 24) rfl (by omega) rfl (by simp [zeros])
      unfold rstt5
      have hlo := locals_le Y
      have w1 : IntKind.wrap .i64 ((symFirst S L G : Nat) + 1) = ((symFirst S L G + 1 : Nat) : Int) := by rw [wrap64 (by omega) (by omega)]; omega
      have w2 : IntKind.wrap .i64 ((locals Y : Nat) + 1) = ((locals Y + 1 : Nat) : Int) := by rw [wrap64 (by omega) (by omega)]; omega
      rw [w1, w2]
      have hp1 : (flOk f2 && decide (b.length ≤ 1048576)) = true := andT (andT (andT (decT (by omega)) (decT (by omega))) (decT (by omega))) (decT (by omega))
      have hl := partF_len f2 sSym ⟨0, 2, 0, 0, 0, 0, ((symFirst S L G + 1 : Nat) : Int), ((locals Y + 1 : Nat) : Int), 8, 24⟩ b
      have hp2 : (flOk (partF f2 sSym ⟨0, 2, 0, 0, 0, 0, ((symFirst S L G + 1 : Nat) : Int), ((locals Y + 1 : Nat) : Int), 8, 24⟩ b) && decide ((bldR (namesY Y)).t.length ≤ 1048576)) = true := andT (andT (andT (decT (by omega)) (decT (by omega))) (decT (by omega))) (decT (by omega))
      refine askF (decF (by omega)) (askT hp1 (askT hp2 ⟨.one (.one (.refl _)), ?_⟩))
      rw [restF, ← e1, ← e2, ← eb]
      rfl
    · cases h
  · cases h
theorem lc3_ok : ExtAll Try.prog lc3 := .normP con_rck (.box con_rst lc2_ok)
end Go.Proofs.Ytkcopbnaleiocaa.Ev
namespace Go.Proofs.Ytkcopbnaleiocaa.Ev
open Go
set_option linter.unusedVariables false
def relBad (q r : List D) : Bool := decide (rI q 0 > rI r 0) || ((rI q 0 == rI r 0) && (decide (rI q 1 > rI r 1) || !apartB (rI q 1) (rI q 2) (rI q 4) (rI r 1) (rI r 2) (rI r 4)))
noncomputable def relsGo (S : List (List D)) (n : Int) (L : List (List D)) : List (List D) → Nat → Bool
  | [], _ => true
  | e :: t, i => (relCk (rI e 0) (rI e 1) (rI e 2) (rI e 3) (rI e 4) S n == 0) && (!(rI e 2 == 43) || fillB (cut (rA (S.getD (rI e 0 - 1).toNat []) 2) (rI e 1) (rI e 1 + rI e 4))) && (L.take i).all (fun q => !relBad q e) && relsGo S n L t (i + 1)
noncomputable def relsB (S Y L : List (List D)) : Bool := decide (L.length ≤ 256) && relsGo S Y.length L L 0
def relsOk (L : List (List D)) : Bool := L.all fun e => decide (0 ≤ rI e 2) && decide (rI e 2 ≤ 255)
def pRls : List V → Bool
  | [.agg [.arr _ s, .arr _ y, .arr _ r, .arr _ g]] => relsOk r
  | _ => true
noncomputable def gRls : List V → Option V
  | [.agg [.arr [.str, .int .i64, .arr [.int .u8], .int .i64] s, .arr [.str, .int .u8, .bool, .int .i64, .int .i64, .int .i64] y, .arr [.int .i64, .int .i64, .int .u8, .int .i64, .int .i64] r, .arr [.str, .arr [.int .i64]] g]] => some (.val (.bool (relsB s y r)))
  | _ => none
noncomputable def lc4 : List (Nat × ExtF) := (57, exP nObj pRls gRls) :: lc3
noncomputable def chkB (S Y L G : List (List D)) : Bool := decide (S.length ≤ 16) && secAll S && symsB S Y && relsB S Y L && grpsB S G
def pChkO : List V → Bool
  | [.agg [.arr _ s, .arr _ y, .arr _ r, .arr _ g]] => decide (s.length ≤ 1048576) && decide (y.length ≤ 1048576) && relsOk r && decide (g.length ≤ 1048576) && lensOk 1 1048576 g
  | _ => true
noncomputable def gChkO : List V → Option V
  | [.agg [.arr [.str, .int .i64, .arr [.int .u8], .int .i64] s, .arr [.str, .int .u8, .bool, .int .i64, .int .i64, .int .i64] y, .arr [.int .i64, .int .i64, .int .u8, .int .i64, .int .i64] r, .arr [.str, .arr [.int .i64]] g]] => some (.val (.int .i64 (if chkB s y r g = true then 0 else 8)))
  | _ => none
noncomputable def lc5 : List (Nat × ExtF) := (22, exP nObj pChkO gChkO) :: lc4
def wrF2 (S Y L G : List (List D)) : Fl := restF S Y L G (secsF (grpMap G []) S 0 ⟨zeros 64, [], []⟩)
def wrTb (S Y L G : List (List D)) : Bld := bldR ((wrF2 S Y L G).names ++ [[.str sShs]])
def wrF3 (S Y L G : List (List D)) : Fl := partF (wrF2 S Y L G) sShs ⟨0, 3, 0, 0, 0, 0, 0, 0, 1, 0⟩ (wrTb S Y L G).t
def hdOf (e : List D) (nm : Int) : Hd := ⟨nm, rI e 1, rI e 2, rI e 3, rI e 4, rI e 5, rI e 6, rI e 7, rI e 8, rI e 9⟩
def hdB (h : Hd) : List (List D) := if h.ok then h.b else []
def headsF (P : List (List D)) : List (List D) → Nat → List (List D)
  | [], _ => []
  | e :: t, i => hdB (hdOf e (cellI P i 0)) ++ headsF P t (i + 1)
def wrAll (S Y L G : List (List D)) : List (List D) := padB (wrF3 S Y L G).b 8 ++ zeros 64 ++ headsF (wrTb S Y L G).p (wrF3 S Y L G).heads 0
def copyB (F A : List (List D)) : List (List D) := List.take A.length (List.take A.length F ++ List.drop (0 + min F.length A.length) A)
def wrFst (S Y L G : List (List D)) : List (List D) := firstB (padB (wrF3 S Y L G).b 8).length (IntKind.wrap .i64 (((wrF3 S Y L G).heads.length : Int) + 1))
def wrB (S Y L G : List (List D)) : List (List D) := copyB (wrFst S Y L G) (wrAll S Y L G)
noncomputable def wrE (S Y L G : List (List D)) : Int := if chkB S Y L G = true then (if (wrAll S Y L G).length > 65536 then 9 else 0) else 8
noncomputable def wrV (S Y L G : List (List D)) : List (List D) := if wrE S Y L G = 0 then wrB S Y L G else []
def wrOk (S Y L G : List (List D)) : Bool := lensOk 2 4096 S && (bysOk S L && decide (G.length ≤ 16) && lensOk 1 16 G && strsOk 0 4096 G && strsOk 0 4096 S && decide (Y.length ≤ 64) && posOk 1 Y && decide ((bldR (namesY Y)).p.length = Y.length) && decide ((bldR (namesY Y)).t.length ≤ 65536)) && decide ((wrTb S Y L G).p.length = (wrF2 S Y L G).names.length + 1) && decide ((wrTb S Y L G).t.length ≤ 65536)
noncomputable def pWrt : List V → Bool
  | [.agg [.arr _ s, .arr _ y, .arr _ r, .arr _ g]] => pChkO [.agg [.arr [] s, .arr [] y, .arr [] r, .arr [] g]] && (!chkB s y r g || wrOk s y r g)
  | _ => true
noncomputable def gWrt : List V → Option V
  | [.agg [.arr [.str, .int .i64, .arr [.int .u8], .int .i64] s, .arr [.str, .int .u8, .bool, .int .i64, .int .i64, .int .i64] y, .arr [.int .i64, .int .i64, .int .u8, .int .i64, .int .i64] r, .arr [.str, .arr [.int .i64]] g]] => some (.tup [.uni u8s (wrV s y r g), .val (.int .i64 (wrE s y r g))])
  | _ => none
noncomputable def lc6 : List (Nat × ExtF) := (24, exP nObj pWrt gWrt) :: lc5
noncomputable def ep6 : Info := infoL Try.prog lc6 ent keepOf
noncomputable def ep4 : Info := infoL Try.prog lc4 ent keepOf
noncomputable def ep5 : Info := infoL Try.prog lc5 ent keepOf
end Go.Proofs.Ytkcopbnaleiocaa.Ev
