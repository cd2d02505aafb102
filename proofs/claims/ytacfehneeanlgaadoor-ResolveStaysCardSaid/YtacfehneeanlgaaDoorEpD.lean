/- What may be, a file's sections: that the functions compute what XEoD says. -/
import Derived.Test.YtacfehneeanlgaaDoorEoP
namespace Go.Proofs.YtacfehneeanlgaaDoor.Ev
open Go
set_option linter.unusedVariables false
set_option linter.unusedSimpArgs false
theorem okB_ask (b : Bool) (t f : Tr) : (Tr.ask b t f).okB = if b = true then t.okB else f.okB := by cases b <;> rfl
theorem okB_ret (b : Bool) : (Tr.ret (.val (.bool b), [])).okB = some b := rfl
theorem ite_some {α : Type} {p : Prop} [Decidable p] {a b : Option α} (ha : a.isSome = true) (hb : b.isSome = true) : (if p then a else b).isSome = true := by
  split
  · exact ha
  · exact hb
theorem pHasT_ok {s k : Int} (hs : (s == 2260595906707456 || s == 2251799864016896 || s == 2190433320966) = true) (h0 : 0 ≤ k) (h1 : k ≤ 255) : pHasT [handed [] (V.val (Value.int IntKind.u64 s)), handed [] (V.val (Value.int IntKind.u8 k))] = true := by
  show ((s == 2260595906707456 || s == 2251799864016896 || s == 2190433320966) && decide (0 ≤ k) && decide (k ≤ 255)) = true
  rw [hs, decT h0, decT h1]; rfl
theorem may_ok (b k c d : Int) (nm : ByteArray) (x : List (List D)) (n : Int) (h0 : 0 ≤ k) (h1 : k ≤ 255) : (mayt0 b k c d nm x n).okB.isSome = true := by
  have e1 := pHasT_ok (s := 2260595906707456) (k := k) rfl h0 h1
  have e2 := pHasT_ok (s := 2251799864016896) (k := k) rfl h0 h1
  have e3 := pHasT_ok (s := 2190433320966) (k := k) rfl h0 h1
  unfold mayt0
  simp only [okB_ask, okB_ret, e1, e2, e3, if_true]
  repeat' (first | exact rfl | apply ite_some)
theorem con_may : ∀ vs v, pMay vs = true → gMay vs = some v → Contract Tryd.prog 63 vs [] (v, []) := by
  intro vs v hp h
  unfold gMay at h
  split at h <;> cases h
  rename_i a b k c d nm al x z n
  simp only [pMay, Bool.and_eq_true, decide_eq_true_eq] at hp
  refine el_con lb4_ok Tryd.func63 (by kernel_rfl) (by kernel_rfl) rfl (by kernel_rfl) (by kernel_rfl) (Runs.of (fun q => mayp0 q a b k c d nm al x z n) ?_)
  obtain ⟨r, hr⟩ := Option.isSome_iff_exists.1 (may_ok b k c d nm x n hp.1 hp.2)
  rw [mayB, hr]
  exact Tr.okB_prop hr
theorem con_apt : ∀ vs v, gApt vs = some v → Contract Tryd.prog 48 vs [] (v, []) := by
  intro vs v h
  unfold gApt at h
  split at h <;> cases h
  rename_i a b k c d a' b' k' c' d'
  refine el_con lc1_ok Tryd.func48 (by kernel_rfl) (by kernel_rfl) rfl (by kernel_rfl) (by kernel_rfl) (Runs.of (fun q => aptp0 q a b k c d a' b' k' c' d') ?_)
  unfold aptt0
  refine ask (fun h => is_refl ?_) (fun h1 => ask (fun h => is_refl ?_) (fun h2 => ask (fun h => is_refl ?_) (fun h3 => ask (fun h => is_refl ?_) (fun h4 => ask (fun h => is_refl ?_) (fun h5 => is_refl ?_)))))
  · rw [apartB, h]; rfl
  · rw [apartB, h1, h]; rfl
  · rw [apartB, h1, h2, h]; rfl
  · rw [apartB, h1, h2, h3, h]; rfl
  · rw [apartB, h1, h2, h3, h4, h]; rfl
  · rw [apartB, h1, h2, h3, h4, h5]; rfl
/-! ### sections -/
theorem kindV_le (s : ByteArray) : 0 ≤ kindV s ∧ kindV s < 5 := by
  unfold kindV
  repeat' split
  all_goals omega
theorem partF_len (f : Fl) (nm : ByteArray) (h : Hd) (x : List (List D)) : (partF f nm h x).b.length ≤ f.b.length + 4096 + x.length ∧ (partF f nm h x).heads.length = f.heads.length + 1 ∧ (partF f nm h x).names.length = f.names.length + 1 := by
  have := padB_len f.b h.align
  refine ⟨?_, ?_, ?_⟩
  · show (padB f.b h.align ++ x).length ≤ _
    rw [List.length_append]; omega
  · show (f.heads ++ [_]).length = _
    rw [List.length_append]; rfl
  · show (f.names ++ [_]).length = _
    rw [List.length_append]; rfl
theorem grpMap_cons (e : List D) (t m : List (List D)) : grpMap (e :: t) m = grpMap t (grpOne (rA e 1) m) := rfl
theorem lc2_ok : ExtAll Tryd.prog lc2 := .normP con_may (.normP con_fil (.norm con_apt lc1_ok))

/-! ### rela.Check -/
theorem runs_rck (S : List (List D)) (hS : S.length ≤ 16) (a b k c d n : Int) (h0 : 0 ≤ k) (h1 : k ≤ 255) (hn0 : 0 ≤ n) (hn1 : n ≤ 64) : ∀ (t : List (List D)) (i : Nat), S.drop i = t → i ≤ S.length → secAll t = secAll S → Runs eo2 (46, Tryd.f46, 0) rckk1 (rcks1 S n S (S.length : Nat) (i : Nat) a b k c d) (Is (.val (.int .i64 (relCk a b k c d S n)))) := by
  intro t
  induction t with
  | nil =>
    intro i ht hi he
    refine Runs.of (fun q => rckp1 q S n S _ _ a b k c d) ?_
    unfold rckt1
    have := drop_nil ht
    have hall : ¬ secAll S = false := by rw [← he]; simp [secAll]
    have c0 : relCk a b k c d S n = if a < 1 ∨ (S.length : Int) < a then 8 else if mayB b k c d (rS (S.getD (a - 1).toNat []) 0) (rA (S.getD (a - 1).toNat []) 2) n = true then 0 else 8 := by
      rw [relCk, if_neg (by omega), if_neg (by omega), if_neg hall]
    refine askF (decF (by omega)) (ask (fun h => is_refl ?_) (fun ha => ask (fun h => is_refl ?_) (fun hb => ?_)))
    · rw [c0, if_pos (.inl (of_decide_eq_true h))]
    · rw [c0, if_pos (.inr (of_decide_eq_true h))]
    have ha := of_decide_eq_false ha
    have hb := of_decide_eq_false hb
    have ew : IntKind.wrap .i64 (a - 1) = a - 1 := wrap64 (by omega) (by omega)
    rw [c0, if_neg (by omega)]
    refine askT (andT (decT (by rw [ew]; omega)) (decT (by rw [ew]; omega))) (askT (show (decide (0 ≤ k) && decide (k ≤ 255)) = true from andT (decT h0) (decT h1)) ?_)
    rw [ew, cS rfl, cA rfl]
    refine ask (fun h => is_refl ?_) (fun h => is_refl ?_)
    · rw [if_neg (by rw [show mayB _ _ _ _ _ _ _ = false from notT h]; simp)]
    · rw [if_pos (notF h)]
  | cons e t ih =>
    intro i ht hi he
    obtain ⟨d1, d2, d3⟩ := drop_cons ht
    refine Runs.of (fun q => rckp1 q S n S _ _ a b k c d) ?_
    unfold rckt1
    have hw : IntKind.wrap .i64 ((i : Int) + 1) = ((i + 1 : Nat) : Int) := by rw [wrap64 (by omega) (by omega)]; omega
    refine askT (decT (by omega)) (askT (andT (decT (by omega)) (decT (by omega))) ?_)
    simp only [Int.toNat_natCast, cI d2, cS d2, cB d2, cA d2, hw]
    have hc : secAll (e :: t) = (secOk (rS e 0) (rI e 1) (rA e 2).length (rI e 3) && secAll t) := rfl
    cases ho : secOk (rS e 0) (rI e 1) (rA e 2).length (rI e 3) with
    | true =>
      have : secE (rS e 0) (rI e 1) (rA e 2).length (rI e 3) = 0 := by rw [secE, ho]; rfl
      rw [hc, ho, Bool.true_and] at he
      exact askF (by rw [this]; rfl) (ih (i + 1) d3 (by omega) he)
    | false =>
      have e8 : secE (rS e 0) (rI e 1) (rA e 2).length (rI e 3) = 8 := by rw [secE, ho]; rfl
      rw [hc, ho, Bool.false_and] at he
      refine askT (by rw [e8]; rfl) (is_refl ?_)
      rw [e8, relCk, if_neg (by omega), if_neg (by omega), if_pos he.symm]
theorem con_rck : ∀ vs v, pRck vs = true → gRck vs = some v → Contract Tryd.prog 46 vs [] (v, []) := by
  intro vs v hp h
  unfold gRck at h
  split at h <;> cases h
  rename_i a b k c d S n
  simp only [pRck, Bool.and_eq_true, decide_eq_true_eq] at hp
  refine el_con lc2_ok Tryd.func46 (by kernel_rfl) (by kernel_rfl) rfl (by kernel_rfl) (by kernel_rfl) (Runs.of (fun q => rckp0 q a b k c d S n) ?_)
  unfold rckt0
  refine ask (fun h => is_refl ?_) (fun h1 => ask (fun h => is_refl ?_) (fun h2 => ask (fun h => is_refl ?_) (fun h3 => ?_)))
  · have h := of_decide_eq_true h
    rw [relCk, if_pos (by omega)]
  · have h := of_decide_eq_true h
    have h1 := of_decide_eq_false h1
    rw [relCk, if_neg (by omega), if_pos (.inl h)]
  · have h := of_decide_eq_true h
    have h1 := of_decide_eq_false h1
    rw [relCk, if_neg (by omega), if_pos (.inr h)]
  · have h1 := of_decide_eq_false h1
    have h2 := of_decide_eq_false h2
    have h3 := of_decide_eq_false h3
    exact runs_rck S (by omega) a b k c d n hp.1 hp.2 (by omega) (by omega) S 0 rfl (by omega) rfl
/-! ### rest -/
theorem mem_of_drop {xs t : List (List D)} {e : List D} {i : Nat} (h : xs.drop i = e :: t) : e ∈ xs := by
  have : e ∈ xs.drop i := by rw [h]; exact List.mem_cons_self
  exact List.mem_of_mem_drop this
theorem full_cons (e : List D) (t : List (List D)) : full (e :: t) = (if 0 < (rA e 0).length then 1 else 0) + full t := by
  unfold full
  rw [List.filter_cons]
  by_cases h : 0 < (rA e 0).length
  · rw [if_pos (decT h), if_pos h, List.length_cons]; omega
  · rw [if_neg (by rw [decF h]; simp), if_neg h]; omega
theorem full_le (t : List (List D)) : full t ≤ t.length := List.length_filter_le _ _
theorem numsB_len (k : Int) (hk : k ≤ 8) : ∀ (l : List (List D)), (numsB k l).length ≤ 8 * l.length
  | [] => by simp [numsB]
  | e :: l => by
    have := numsB_len k hk l
    have h2 := putB_len (e.getD 0 default).toInt k hk
    have : numsB k (e :: l) = putB (e.getD 0 default).toInt k ++ numsB k l := rfl
    rw [this, List.length_append, List.length_cons]; omega
theorem strsOk_get {j n : Nat} {G : List (List D)} (h : strsOk j n G = true) {e : List D} (he : e ∈ G) : (rS e j).size ≤ n := by
  have := List.all_eq_true.1 h e he
  simpa using this
theorem posOk_get {j : Nat} {G : List (List D)} (h : posOk j G = true) {e : List D} (he : e ∈ G) : 0 ≤ rI e j := by
  have := List.all_eq_true.1 h e he
  simpa using this
theorem num1 : numsB 4 [[.int 1]] = [[.int 1], [.int 0], [.int 0], [.int 0]] := by kernel_rfl
theorem locals_cons (e : List D) (t : List (List D)) : locals (e :: t) = (if rI e 1 = 0 then 1 else 0) + locals t := by
  unfold locals
  rw [List.filter_cons]
  by_cases h : rI e 1 = 0
  · rw [if_pos (decT h), if_pos h, List.length_cons]; omega
  · rw [if_neg (by rw [decF h]; simp), if_neg h]; omega
theorem symRow_len (e : List D) (a : Int) : (symRow e a).length ≤ 32 := by
  unfold symRow
  split
  · simp [symB, leB]
  · simp
theorem byS_length (n : Nat) (L : List (List D)) : (byS n L).length = n := by simp [byS]
theorem locals_le (Y : List (List D)) : locals Y ≤ Y.length := List.length_filter_le _ _
theorem lc3_ok : ExtAll Tryd.prog lc3 := .normP con_rck lc2_ok

end Go.Proofs.YtacfehneeanlgaaDoor.Ev
/- What may be, and a file's bytes, whole. -/
namespace Go.Proofs.YtacfehneeanlgaaDoor.Ev
open Go
set_option linter.unusedVariables false
/-! ### relasMay -/
def relBad (q r : List D) : Bool := decide (rI q 0 > rI r 0) || ((rI q 0 == rI r 0) && (decide (rI q 1 > rI r 1) || !apartB (rI q 1) (rI q 2) (rI q 4) (rI r 1) (rI r 2) (rI r 4)))
noncomputable def relsGo (S : List (List D)) (n : Int) (L : List (List D)) : List (List D) → Nat → Bool
  | [], _ => true
  | e :: t, i => (relCk (rI e 0) (rI e 1) (rI e 2) (rI e 3) (rI e 4) S n == 0) && (!(rI e 2 == 43) || fillB (cut (rA (S.getD (rI e 0 - 1).toNat []) 2) (rI e 1) (rI e 1 + rI e 4))) && (L.take i).all (fun q => !relBad q e) && relsGo S n L t (i + 1)
noncomputable def relsB (S Y L : List (List D)) : Bool := decide (L.length ≤ 256) && relsGo S Y.length L L 0
def relsOk (L : List (List D)) : Bool := L.all fun e => decide (0 ≤ rI e 2) && decide (rI e 2 ≤ 255)
def pRls : List V → Bool
  | [.agg [.arr _ s, .arr _ y, .arr _ r, .arr _ g]] => relsOk r
  | _ => true
noncomputable def gRls : List V → Option V
  | [.agg [.arr [.str, .int .i64, .arr [.int .u8], .int .i64] s, .arr [.str, .int .u8, .bool, .int .i64, .int .i64, .int .i64] y, .arr [.int .i64, .int .i64, .int .u8, .int .i64, .int .i64] r, .arr [.str, .arr [.int .i64]] g]] => some (.val (.bool (relsB s y r)))
  | _ => none
noncomputable def lc4 : List (Nat × ExtF) := (35, exP nObj pRls gRls) :: lc3

/-! ### Check -/
noncomputable def chkB (S Y L G : List (List D)) : Bool := decide (S.length ≤ 16) && secAll S && symsB S Y && relsB S Y L && grpsB S G
def pChkO : List V → Bool
  | [.agg [.arr _ s, .arr _ y, .arr _ r, .arr _ g]] => decide (s.length ≤ 1048576) && decide (y.length ≤ 1048576) && relsOk r && decide (g.length ≤ 1048576) && lensOk 1 1048576 g
  | _ => true
noncomputable def gChkO : List V → Option V
  | [.agg [.arr [.str, .int .i64, .arr [.int .u8], .int .i64] s, .arr [.str, .int .u8, .bool, .int .i64, .int .i64, .int .i64] y, .arr [.int .i64, .int .i64, .int .u8, .int .i64, .int .i64] r, .arr [.str, .arr [.int .i64]] g]] => some (.val (.int .i64 (if chkB s y r g = true then 0 else 8)))
  | _ => none
noncomputable def lc5 : List (Nat × ExtF) := (25, exP nObj pChkO gChkO) :: lc4

/-! ### Write -/
def wrF2 (S Y L G : List (List D)) : Fl := restF S Y L G (secsF (grpMap G []) S 0 ⟨zeros 64, [], []⟩)
def wrTb (S Y L G : List (List D)) : Bld := bldR ((wrF2 S Y L G).names ++ [[.str sShs]])
def wrF3 (S Y L G : List (List D)) : Fl := partF (wrF2 S Y L G) sShs ⟨0, 3, 0, 0, 0, 0, 0, 0, 1, 0⟩ (wrTb S Y L G).t
def hdOf (e : List D) (nm : Int) : Hd := ⟨nm, rI e 1, rI e 2, rI e 3, rI e 4, rI e 5, rI e 6, rI e 7, rI e 8, rI e 9⟩
def hdB (h : Hd) : List (List D) := if h.ok then h.b else []
def headsF (P : List (List D)) : List (List D) → Nat → List (List D)
  | [], _ => []
  | e :: t, i => hdB (hdOf e (cellI P i 0)) ++ headsF P t (i + 1)
def wrAll (S Y L G : List (List D)) : List (List D) := padB (wrF3 S Y L G).b 8 ++ zeros 64 ++ headsF (wrTb S Y L G).p (wrF3 S Y L G).heads 0
def copyB (F A : List (List D)) : List (List D) := List.take A.length (List.take A.length F ++ List.drop (0 + min F.length A.length) A)
def wrFst (S Y L G : List (List D)) : List (List D) := firstB (padB (wrF3 S Y L G).b 8).length (IntKind.wrap .i64 (((wrF3 S Y L G).heads.length : Int) + 1))
def wrB (S Y L G : List (List D)) : List (List D) := copyB (wrFst S Y L G) (wrAll S Y L G)
noncomputable def wrE (S Y L G : List (List D)) : Int := if chkB S Y L G = true then (if (wrAll S Y L G).length > 65536 then 9 else 0) else 8
noncomputable def wrV (S Y L G : List (List D)) : List (List D) := if wrE S Y L G = 0 then wrB S Y L G else []
/-- What holds of an object that may be. -/
def wrOk (S Y L G : List (List D)) : Bool := lensOk 2 4096 S && (bysOk S L && decide (G.length ≤ 16) && lensOk 1 16 G && strsOk 0 4096 G && strsOk 0 4096 S && decide (Y.length ≤ 64) && posOk 1 Y && decide ((bldR (namesY Y)).p.length = Y.length) && decide ((bldR (namesY Y)).t.length ≤ 65536)) && decide ((wrTb S Y L G).p.length = (wrF2 S Y L G).names.length + 1) && decide ((wrTb S Y L G).t.length ≤ 65536)
noncomputable def pWrt : List V → Bool
  | [.agg [.arr _ s, .arr _ y, .arr _ r, .arr _ g]] => pChkO [.agg [.arr [] s, .arr [] y, .arr [] r, .arr [] g]] && (!chkB s y r g || wrOk s y r g)
  | _ => true
noncomputable def gWrt : List V → Option V
  | [.agg [.arr [.str, .int .i64, .arr [.int .u8], .int .i64] s, .arr [.str, .int .u8, .bool, .int .i64, .int .i64, .int .i64] y, .arr [.int .i64, .int .i64, .int .u8, .int .i64, .int .i64] r, .arr [.str, .arr [.int .i64]] g]] => some (.tup [.uni u8s (wrV s y r g), .val (.int .i64 (wrE s y r g))])
  | _ => none
noncomputable def lc6 : List (Nat × ExtF) := lc5

noncomputable def ep6 : Info := infoL Tryd.prog lc6 ent keepOf
noncomputable def ep4 : Info := infoL Tryd.prog lc4 ent keepOf
noncomputable def ep5 : Info := infoL Tryd.prog lc5 ent keepOf
end Go.Proofs.YtacfehneeanlgaaDoor.Ev
