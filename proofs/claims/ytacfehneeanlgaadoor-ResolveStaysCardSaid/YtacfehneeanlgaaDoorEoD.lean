/- A file's parts, what may be: that the functions compute what XEnD says. -/
import Derived.Test.YtacfehneeanlgaaDoorEnP
import Derived.Test.YtacfehneeanlgaaDoorEmC
import Derived.Test.YtacfehneeanlgaaDoorFim
namespace Go.Proofs.YtacfehneeanlgaaDoor.Ev
open Go
set_option linter.unusedVariables false
set_option linter.unusedSimpArgs false
theorem flOf_eq {os : List V} {fl : Fl} (h : flOf os = some fl) : os = fl.cells := by
  unfold flOf at h
  split at h
  · split at h
    · rename_i hc
      cases h
      rw [sameCTs_eq _ _ hc]; rfl
    · cases h
  · cases h
theorem padB_len (xs : List (List D)) (m : Int) : (padB xs m).length ≤ xs.length + 4096 := by
  unfold padB
  split
  · rename_i h
    simp only [padOk, Bool.and_eq_true, decide_eq_true_eq] at h
    have := Int.emod_lt_of_pos (m - (xs.length : Int) % m) (show 0 < m by omega)
    rw [List.length_append, zeros, List.length_replicate, padN]
    omega
  · simp
theorem putB_len (n k : Int) (hk : k ≤ 8) : (putB n k).length ≤ 8 := by
  unfold putB
  split
  · rw [leB, List.length_map, List.length_range]; omega
  · simp
theorem con_spn : ∀ vs v, gSpn vs = some v → Contract Tryd.prog 65 vs [] (v, []) := by
  intro vs v h
  unfold gSpn at h
  split at h <;> cases h
  rename_i a b k c d
  refine el_con lb4_ok Tryd.func65 (by kernel_rfl) (by kernel_rfl) rfl (by kernel_rfl) (by kernel_rfl) (Runs.of (fun q => spnp0 q a b k c d) ?_)
  unfold spnt0
  refine ask (fun h => is_refl ?_) (fun h => is_refl ?_)
  · simp only [beq_iff_eq] at h; rw [spanTo, if_pos h]
  · simp only [beq_eq_false_iff_ne] at h; rw [spanTo, if_neg h]
theorem con_sms : ∀ vs v, gSums vs = some v → Contract Tryd.prog 66 vs [] (v, []) := by
  intro vs v h
  unfold gSums at h
  split at h <;> cases h
  rename_i a b k c d a' b' k' c' d'
  refine el_con lb4_ok Tryd.func66 (by kernel_rfl) (by kernel_rfl) rfl (by kernel_rfl) (by kernel_rfl) (Runs.of (fun q => smsp0 q a b k c d a' b' k' c' d') ?_)
  unfold smst0
  refine ask (fun h => ask (fun h2 => is_refl ?_) (fun h2 => is_refl ?_)) (fun h => is_refl ?_)
  · rw [sumsB, h, h2]; rfl
  · rw [sumsB, h, h2]; rfl
  · rw [sumsB, h]; rfl
/-! ### symbolsMay -/
theorem drop_cons {xs t : List (List D)} {e : List D} {i : Nat} (h : xs.drop i = e :: t) : i < xs.length ∧ xs.getD i [] = e ∧ xs.drop (i + 1) = t := by
  have hl : i < xs.length := by
    rcases Nat.lt_or_ge i xs.length with h' | h'
    · exact h'
    · rw [List.drop_eq_nil_of_le h'] at h; cases h
  rw [List.drop_eq_getElem_cons hl] at h
  obtain ⟨h1, h2⟩ := List.cons.inj h
  exact ⟨hl, by rw [List.getD_eq_getElem?_getD, List.getElem?_eq_getElem hl]; exact h1, h2⟩
theorem drop_nil {xs : List (List D)} {i : Nat} (h : xs.drop i = []) : xs.length ≤ i := by
  have := congrArg List.length h
  rw [List.length_drop] at this
  simp only [List.length_nil] at this
  omega
theorem cI {xs : List (List D)} {e : List D} {i : Nat} (h : xs.getD i [] = e) (j : Nat) : cellI xs i j = rI e j := by rw [cellI, h]; rfl
theorem cS {xs : List (List D)} {e : List D} {i : Nat} (h : xs.getD i [] = e) (j : Nat) : cellS xs i j = rS e j := by rw [cellS, h]; rfl
theorem cB {xs : List (List D)} {e : List D} {i : Nat} (h : xs.getD i [] = e) (j : Nat) : cellB xs i j = rB e j := by rw [cellB, h]; rfl
theorem cA {xs : List (List D)} {e : List D} {i : Nat} (h : xs.getD i [] = e) (j : Nat) : cellA xs i j = rA e j := by rw [cellA, h]; rfl
theorem sym_where {s : ByteArray} {b : Int} {hd : Bool} {w v z n : Int} (h : symE s b hd w v z n = 0) (hw : 0 < w) : w ≤ n ∧ n ≤ 16 := by
  unfold symE at h
  split at h
  · cases h
  · rename_i hn
    split at h
    · rename_i h2
      simp only [Bool.not_eq_true, Bool.not_eq_false', inB, Bool.and_eq_true, decide_eq_true_eq] at hn
      simp only [standsB, Bool.and_eq_true] at h2
      obtain ⟨_, h2⟩ := h2
      split at h2
      · cases h2
      · rw [if_neg (by omega), if_neg (by omega), if_neg (by omega)] at h2
        simp only [inB, Bool.and_eq_true, decide_eq_true_eq] at h2
        omega
    · cases h
theorem runs_sys (S Y R G : List (List D)) (hy : Y.length ≤ 1048576) : ∀ (t : List (List D)) (i : Nat) (gl : Bool) (m : List (List D)), Y.drop i = t → i ≤ Y.length → Runs em4 (34, Tryd.f34, 0) sysk1 (syss1 gl Y (Y.length : Nat) (i : Nat) S Y R G m) (Is (.val (.bool (symsGo S t gl m && decide (Y.length ≤ 64))))) := by
  intro t
  induction t with
  | nil =>
    intro i gl m ht hi
    refine Runs.of (fun q => sysp1 q gl Y _ _ S Y R G m) ?_
    unfold syst1
    have := drop_nil ht
    refine askF (decF (by omega)) (is_refl ?_)
    rw [symsGo, Bool.true_and]
    exact congrArg (fun b => V.val (.bool b)) (by rw [decide_eq_decide]; omega)
  | cons e t ih =>
    intro i gl m ht hi
    obtain ⟨h1, h2, h3⟩ := drop_cons ht
    refine Runs.of (fun q => sysp1 q gl Y _ _ S Y R G m) ?_
    unfold syst1
    have hw : IntKind.wrap .i64 ((i : Int) + 1) = ((i + 1 : Nat) : Int) := by rw [wrap64 (by omega) (by omega)]; omega
    refine askT (decT (by omega)) (askT (andT (decT (by omega)) (decT (by omega))) ?_)
    simp only [Int.toNat_natCast, cI h2, cS h2, cB h2, cA h2, hw]
    have c0 : symsGo S (e :: t) gl m = if symIn S e = false then false else if rI e 1 = 0 then (if gl = true then false else symsGo S t gl m) else if twice .str (.string (rS e 0)) (.str (rS e 0)) m = true then false else symsGo S t true (count .str (.string (rS e 0)) (.str (rS e 0)) m) := rfl
    have rest : symIn S e = true → Tr.prop em4 (34, Tryd.f34, 0) (Is (.val (.bool (symsGo S (e :: t) gl m && decide (Y.length ≤ 64))))) (Tr.ask (rI e 1 == 0) (.ask gl (.ret (.val (.bool false), [])) (.go 17 sysk1 (syss1 gl Y (Y.length : Nat) ((i + 1 : Nat) : Int) S Y R G m))) (.ask (twice .str (.string (rS e 0)) (.str (rS e 0)) m) (.ret (.val (.bool false), [])) (.go 0 sysk1 (syss1 true Y (Y.length : Nat) ((i + 1 : Nat) : Int) S Y R G (count .str (.string (rS e 0)) (.str (rS e 0)) m))))) := fun hs => by
      rw [c0, if_neg (by rw [hs]; simp)]
      refine ask (fun h => ?_) (fun h => ?_)
      · rw [if_pos (beq_iff_eq.1 h)]
        refine ask (fun hg => is_refl (by rw [if_pos hg]; rfl)) (fun hg => ?_)
        rw [if_neg (by rw [hg]; simp)]
        exact ih (i + 1) gl m h3 (by omega)
      · rw [if_neg (beq_eq_false_iff_ne.1 h)]
        refine ask (fun hg => is_refl (by rw [if_pos hg]; rfl)) (fun hg => ?_)
        rw [if_neg (by rw [hg]; simp)]
        exact ih (i + 1) true _ h3 (by omega)
    refine ask (fun h => is_refl ?_) (fun h => ?_)
    · rw [c0, if_pos (by rw [symIn, Bool.and_eq_false_iff]; left; simpa [bne] using h)]; rfl
    · have h : symE (rS e 0) (rI e 1) (rB e 2) (rI e 3) (rI e 4) (rI e 5) S.length = 0 := by simpa [bne] using h
      refine ask (fun hw0 => ?_) (fun hw0 => ?_)
      · have hw1 : 0 < rI e 3 := by simpa using hw0
        obtain ⟨w1, w2⟩ := sym_where h hw1
        have ew : IntKind.wrap .i64 (rI e 3 - 1) = rI e 3 - 1 := wrap64 (by omega) (by omega)
        refine askT (andT (decT ?_) (decT ?_)) (ask (fun hz => is_refl ?_) (fun hz => ?_))
        · show 0 ≤ IntKind.wrap .i64 (rI e 3 - 1); rw [ew]; omega
        · show IntKind.wrap .i64 (rI e 3 - 1) < _; rw [ew]; omega
        · have hz : decide (IntKind.wrap .i64 (rI e 4 + rI e 5) > secLen (S.getD (IntKind.wrap .i64 (rI e 3 - 1)).toNat [])) = true := hz
          rw [c0, if_pos (by rw [symIn, hz, decT (p := rI e 3 > 0) hw1, Bool.and_self, Bool.not_true, Bool.and_false])]; rfl
        · have hz : decide (IntKind.wrap .i64 (rI e 4 + rI e 5) > secLen (S.getD (IntKind.wrap .i64 (rI e 3 - 1)).toNat [])) = false := hz
          exact rest (by rw [symIn, h, hz, Bool.and_false]; rfl)
      · have hw0 : decide (rI e 3 > 0) = false := hw0
        exact rest (by rw [symIn, h, hw0, Bool.false_and]; rfl)
theorem con_sys : ∀ vs v, pSyms vs = true → gSyms vs = some v → Contract Tryd.prog 34 vs [] (v, []) := by
  intro vs v hp h
  unfold gSyms at h
  split at h <;> cases h
  rename_i S Y R G
  simp only [pSyms, decide_eq_true_eq] at hp
  refine el_con lb4_ok Tryd.func34 (by kernel_rfl) (by kernel_rfl) rfl (by kernel_rfl) (by kernel_rfl) (Runs.of (fun q => sysp0 q S Y R G) ?_)
  unfold syst0
  exact runs_sys S Y R G hp Y 0 false [] rfl (by omega)
/-! ### groupsMay -/
theorem runs_gri (S Y L G m : List (List D)) (j : Nat) (g : List (List D)) (hg : g.length ≤ 1048576) {Q : R → Prop} (tk0 : List (List D)) (bad : grpIn S.length g 0 tk0 = none → Q (.val (.bool false), [])) (good : ∀ tk, grpIn S.length g 0 tk0 = some tk → Runs em4 (36, Tryd.f36, 0) grmk1 (grms1 G (G.length : Nat) (IntKind.wrap .i64 ((j : Int) + 1)) S Y L G m tk) Q) :
    ∀ (t : List (List D)) (i : Nat) (last : Int) (tk : List (List D)), g.drop i = t → i ≤ g.length → grpIn S.length t last tk = grpIn S.length g 0 tk0 → Runs em4 (36, Tryd.f36, 0) grmk2 (grms2 last G (G.length : Nat) (j : Nat) g (g.length : Nat) (i : Nat) S Y L G m tk) Q := by
  intro t
  induction t with
  | nil =>
    intro i last tk ht hi he
    refine Runs.of (fun q => grmp2 q last G _ _ g _ _ S Y L G m tk) ?_
    unfold grmt2
    have := drop_nil ht
    exact askF (decF (by omega)) (good tk he.symm)
  | cons e t ih =>
    intro i last tk ht hi he
    obtain ⟨h1, h2, h3⟩ := drop_cons ht
    refine Runs.of (fun q => grmp2 q last G _ _ g _ _ S Y L G m tk) ?_
    unfold grmt2
    have hw : IntKind.wrap .i64 ((i : Int) + 1) = ((i + 1 : Nat) : Int) := by rw [wrap64 (by omega) (by omega)]; omega
    refine askT (decT (by omega)) (askT (andT (decT (by omega)) (decT (by omega))) ?_)
    simp only [Int.toNat_natCast, cI h2, cS h2, cB h2, cA h2, hw]
    rw [grpIn] at he
    refine ask (fun h => bad ?_) (fun ha => ask (fun h => bad ?_) (fun hb => ask (fun h => bad ?_) (fun hc => ?_)))
    · rw [← he, if_pos (of_decide_eq_true h)]
    · rw [← he, if_neg (of_decide_eq_false ha), if_pos (of_decide_eq_true h)]
    · rw [← he, if_neg (of_decide_eq_false ha), if_neg (of_decide_eq_false hb), if_pos (show twice (.int .i64) (.int .i64 (rI e 0)) (.int (rI e 0)) tk = true from h)]
    · rw [if_neg (of_decide_eq_false ha), if_neg (of_decide_eq_false hb), if_neg (show ¬ twice (.int .i64) (.int .i64 (rI e 0)) (.int (rI e 0)) tk = true from by rw [show twice _ _ _ _ = false from hc]; simp)] at he
      exact ih (i + 1) (rI e 0) _ h3 (by omega) he
theorem lensOk_get {j n : Nat} {G : List (List D)} (h : lensOk j n G = true) {e : List D} (he : e ∈ G) : (rA e j).length ≤ n := by
  have := List.all_eq_true.1 h e he
  simpa using this
theorem runs_grm (S Y L G : List (List D)) (hg : G.length ≤ 1048576) (hl : lensOk 1 1048576 G = true) : ∀ (t : List (List D)) (i : Nat) (m tk : List (List D)), G.drop i = t → i ≤ G.length → Runs em4 (36, Tryd.f36, 0) grmk1 (grms1 G (G.length : Nat) (i : Nat) S Y L G m tk) (Is (.val (.bool (grpsGo S.length t m tk && decide (G.length ≤ 16))))) := by
  intro t
  induction t with
  | nil =>
    intro i m tk ht hi
    refine Runs.of (fun q => grmp1 q G _ _ S Y L G m tk) ?_
    unfold grmt1
    have := drop_nil ht
    refine askF (decF (by omega)) (is_refl ?_)
    rw [grpsGo, Bool.true_and]
    exact congrArg (fun b => V.val (.bool b)) (by rw [decide_eq_decide]; omega)
  | cons e t ih =>
    intro i m tk ht hi
    obtain ⟨h1, h2, h3⟩ := drop_cons ht
    refine Runs.of (fun q => grmp1 q G _ _ S Y L G m tk) ?_
    unfold grmt1
    have hw : IntKind.wrap .i64 ((i : Int) + 1) = ((i + 1 : Nat) : Int) := by rw [wrap64 (by omega) (by omega)]; omega
    have hm : e ∈ G := by
      have : e ∈ G.drop i := by rw [ht]; exact List.mem_cons_self
      exact List.mem_of_mem_drop this
    refine askT (decT (by omega)) (askT (andT (decT (by omega)) (decT (by omega))) ?_)
    simp only [Int.toNat_natCast, cI h2, cS h2, cB h2, cA h2]
    have c0 : grpsGo S.length (e :: t) m tk = if symE (rS e 0) 1 false 0 0 0 0 ≠ 0 then false else if twice .str (.string (rS e 0)) (.str (rS e 0)) m = true then false else if (rA e 1).length = 0 then false else match grpIn S.length (rA e 1) 0 tk with
      | none => false
      | some tk => grpsGo S.length t (count .str (.string (rS e 0)) (.str (rS e 0)) m) tk := rfl
    refine ask (fun h => is_refl ?_) (fun ha => ask (fun h => is_refl ?_) (fun hb => ask (fun h => is_refl ?_) (fun hc => ?_)))
    · rw [c0, if_pos (by simpa using h)]; rfl
    · rw [c0, if_neg (by simpa using ha), if_pos (show twice .str (.string (rS e 0)) (.str (rS e 0)) m = true from h)]; rfl
    · rw [c0, if_neg (by simpa using ha), if_neg (show ¬ twice .str (.string (rS e 0)) (.str (rS e 0)) m = true from by rw [show twice _ _ _ _ = false from hb]; simp), if_pos (by have := beq_iff_eq.1 h; omega)]; rfl
    · have hc : ¬ (rA e 1).length = 0 := by have := beq_eq_false_iff_ne.1 hc; omega
      rw [c0, if_neg (by simpa using ha), if_neg (show ¬ twice .str (.string (rS e 0)) (.str (rS e 0)) m = true from by rw [show twice _ _ _ _ = false from hb]; simp), if_neg hc]
      refine runs_gri S Y L G (count .str (.string (rS e 0)) (.str (rS e 0)) m) i (rA e 1) (lensOk_get hl hm) tk (fun hn => ?_) (fun tk' ht' => ?_) (rA e 1) 0 0 tk rfl (by omega) rfl
      · rw [hn]; exact is_refl rfl
      · rw [ht', hw]; exact ih (i + 1) _ tk' h3 (by omega)
theorem con_grm : ∀ vs v, pGrps vs = true → gGrps vs = some v → Contract Tryd.prog 36 vs [] (v, []) := by
  intro vs v hp h
  unfold gGrps at h
  split at h <;> cases h
  rename_i S Y L G
  simp only [pGrps, Bool.and_eq_true, decide_eq_true_eq] at hp
  refine el_con lb4_ok Tryd.func36 (by kernel_rfl) (by kernel_rfl) rfl (by kernel_rfl) (by kernel_rfl) (Runs.of (fun q => grmp0 q S Y L G) ?_)
  unfold grmt0
  exact runs_grm S Y L G hp.1 hp.2 G 0 [] [] rfl (by omega)
theorem lc1_ok : ExtAll Tryd.prog lc1 := .norm con_spn (.norm con_sms (.normP con_sys (.normP con_grm lb4_ok)))

end Go.Proofs.YtacfehneeanlgaaDoor.Ev
/- What may be, and a file's bytes: what the functions compute, in plain words. -/
namespace Go.Proofs.YtacfehneeanlgaaDoor.Ev
open Go
set_option linter.unusedVariables false
/-! ### rela.may, as its tree tells it -/
noncomputable def mayB (b k c d : Int) (nm : ByteArray) (x : List (List D)) (n : Int) : Bool := (mayt0 b k c d nm x n).okB.getD false
def pMay : List V → Bool
  | [.agg [_, _, .val (.int .u8 k), _, _], _, _] => decide (0 ≤ k) && decide (k ≤ 255)
  | _ => true
noncomputable def gMay : List V → Option V
  | [.agg [.val (.int .i64 a), .val (.int .i64 b), .val (.int .u8 k), .val (.int .i64 c), .val (.int .i64 d)], .agg [.val (.string nm), .val (.int .i64 al), .arr [.int .u8] x, .val (.int .i64 z)], .val (.int .i64 n)] => some (.val (.bool (mayB b k c d nm x n)))
  | _ => none
def nMay : List CK := [.no, .ag [none, none, some u8s], .no]
/-! ### apart -/
def apartB (b k d b' k' d' : Int) : Bool := (b == spanTo b k d) || (b' == spanTo b' k' d') || decide (spanTo b k d ≤ b') || decide (spanTo b' k' d' ≤ b) || ((b == b') && sumsB k k')
def gApt : List V → Option V
  | [.agg [.val (.int .i64 a), .val (.int .i64 b), .val (.int .u8 k), .val (.int .i64 c), .val (.int .i64 d)], .agg [.val (.int .i64 a'), .val (.int .i64 b'), .val (.int .u8 k'), .val (.int .i64 c'), .val (.int .i64 d')]] => some (.val (.bool (apartB b k d b' k' d')))
  | _ => none
/-! ### bySection -/
def relRow (e : List D) : List (List D) := if relWok (rI e 1) (rI e 2) (rI e 3) (rI e 4) then relB (rI e 1) (rI e 2) (rI e 3) (rI e 4) else []
def relsOf (s : Nat) (L : List (List D)) : List (List D) := ((L.filter fun e => rI e 0 == (s : Int)).map relRow).flatten
def byS (n : Nat) (L : List (List D)) : List (List D) := (List.range n).map fun i => [D.arr (relsOf (i + 1) L)]
def bysOk (S L : List (List D)) : Bool := decide (S.length ≤ 16) && decide (L.length ≤ 256) && L.all fun e => decide (1 ≤ rI e 0) && decide (rI e 0 ≤ S.length) && relWok (rI e 1) (rI e 2) (rI e 3) (rI e 4)
def pBys : List V → Bool
  | [.agg [.arr _ s, .arr _ y, .arr _ r, .arr _ g]] => bysOk s r
  | _ => true
def gBys : List V → Option V
  | [.agg [.arr [.str, .int .i64, .arr [.int .u8], .int .i64] s, .arr [.str, .int .u8, .bool, .int .i64, .int .i64, .int .i64] y, .arr [.int .i64, .int .i64, .int .u8, .int .i64, .int .i64] r, .arr [.str, .arr [.int .i64]] g]] => some (.arr [.arr u8s] (byS s.length r))
  | _ => none
/-! ### sections -/
def grpOne (g m : List (List D)) : List (List D) := g.foldl (fun m e => setRow (.int .i64) (.int .i64 (rI e 0)) [.int (rI e 0), .int 512] m) m
def grpMap (G m : List (List D)) : List (List D) := G.foldl (fun m e => grpOne (rA e 1) m) m
def secHd (m : List (List D)) (i : Nat) (e : List D) : Hd :=
  ⟨0, if kindV (rS e 0) = 4 then 8 else 1, IntKind.wrap .i64 (List.getD [0, 6, 2, 3, 3] (kindV (rS e 0)).toNat 0 + (lookD (.int .i64) (.int .i64 ((i + 1 : Nat) : Int)) (.int 0) m).toInt), 0, 0, if kindV (rS e 0) = 4 then rI e 3 else 0, 0, 0, rI e 1, 0⟩
def secsF (m : List (List D)) : List (List D) → Nat → Fl → Fl
  | [], _, f => f
  | e :: t, i, f => secsF m t (i + 1) (partF f (rS e 0) (secHd m i e) (rA e 2))
def pScs : List V → List V → Bool
  | [_, .agg [.arr _ s, .arr _ y, .arr _ r, .arr _ g]], os => match flOf os with
    | some f => decide (f.b.length ≤ 64) && decide (f.heads.length ≤ 0) && decide (f.names.length ≤ 0) && decide (s.length ≤ 16) && lensOk 2 4096 s && decide (g.length ≤ 1048576) && lensOk 1 1048576 g
    | none => true
  | _, _ => true
def gScs : List V → List V → Option (V × List V)
  | [.ptr (.out 0) 0, .agg [.arr [.str, .int .i64, .arr [.int .u8], .int .i64] s, .arr [.str, .int .u8, .bool, .int .i64, .int .i64, .int .i64] y, .arr [.int .i64, .int .i64, .int .u8, .int .i64, .int .i64] r, .arr [.str, .arr [.int .i64]] g]], os => match flOf os with
    | some f => some (.tup [], (secsF (grpMap g []) s 0 f).cells)
    | none => none
  | _, _ => none
def nFl : List CK := [.no, .ag [some secC, some symC, some relC, some grpC]]
noncomputable def lc2 : List (Nat × ExtF) := (63, exP nMay pMay gMay) :: (47, exP nB pFil gFil) :: (48, exN [] gApt) :: lc1

/-! ### rela.Check -/
def secAll (S : List (List D)) : Bool := S.all fun e => secOk (rS e 0) (rI e 1) (rA e 2).length (rI e 3)
noncomputable def relCk (a b k c d : Int) (S : List (List D)) (n : Int) : Int :=
  if 16 < S.length then 4 else if n < 0 ∨ 64 < n then 2 else if secAll S = false then 8 else if a < 1 ∨ (S.length : Int) < a then 8 else if mayB b k c d (rS (S.getD (a - 1).toNat []) 0) (rA (S.getD (a - 1).toNat []) 2) n = true then 0 else 8
noncomputable def gRck : List V → Option V
  | [.agg [.val (.int .i64 a), .val (.int .i64 b), .val (.int .u8 k), .val (.int .i64 c), .val (.int .i64 d)], .arr [.str, .int .i64, .arr [.int .u8], .int .i64] S, .val (.int .i64 n)] => some (.val (.int .i64 (relCk a b k c d S n)))
  | _ => none
def pRck : List V → Bool
  | [.agg [_, _, .val (.int .u8 k), _, _], _, _] => decide (0 ≤ k) && decide (k ≤ 255)
  | _ => true
def nRck : List CK := [.no, .sl secC, .no]
/-! ### rest -/
def sGrp : ByteArray := ⟨#[46, 103, 114, 111, 117, 112, 46]⟩
def sRel : ByteArray := ⟨#[46, 114, 101, 108, 97]⟩
def sSym : ByteArray := ⟨#[46, 115, 121, 109, 116, 97, 98]⟩
def sStr : ByteArray := ⟨#[46, 115, 116, 114, 116, 97, 98]⟩
def sShs : ByteArray := ⟨#[46, 115, 104, 115, 116, 114, 116, 97, 98]⟩
def full (by_ : List (List D)) : Nat := (by_.filter fun e => decide (0 < (rA e 0).length)).length
def symFirst (S L G : List (List D)) : Nat := 1 + S.length + G.length + full (byS S.length L)
def grpsF (first : Int) (G : List (List D)) (f : Fl) : Fl := G.foldl (fun f e => partF f (sGrp ++ rS e 0) ⟨0, 17, 0, 0, 0, 0, first, 0, 4, 4⟩ (numsB 4 [[.int 1]] ++ numsB 4 (rA e 1))) f
def relsF (first : Int) (S : List (List D)) : List (List D) → Nat → Fl → Fl
  | [], _, f => f
  | e :: t, i, f => relsF first S t (i + 1) (if 0 < (rA e 0).length then partF f (sRel ++ rS (S.getD i []) 0) ⟨0, 4, 64, 0, 0, 0, first, ((i + 1 : Nat) : Int), 8, 24⟩ (rA e 0) else f)
def namesY (Y : List (List D)) : List (List D) := Y.map fun e => [.str (rS e 0)]
def locals (Y : List (List D)) : Nat := (Y.filter fun e => decide (rI e 1 = 0)).length
def symRow (e : List D) (at_ : Int) : List (List D) := if symWok (rS e 0) (rI e 1) (rB e 2) (rI e 3) (rI e 4) (rI e 5) at_ then symB at_ (rI e 1) (rB e 2) (rI e 3) (rI e 4) (rI e 5) else []
def symsF (P : List (List D)) : List (List D) → Nat → List (List D)
  | [], _ => []
  | e :: t, i => symRow e (cellI P i 0) ++ symsF P t (i + 1)
def restF (S Y L G : List (List D)) (f : Fl) : Fl :=
  partF (partF (relsF (symFirst S L G) S (byS S.length L) 0 (grpsF (symFirst S L G) G f)) sSym ⟨0, 2, 0, 0, 0, 0, ((symFirst S L G + 1 : Nat) : Int), ((locals Y + 1 : Nat) : Int), 8, 24⟩ (zeros 24 ++ symsF (bldR (namesY Y)).p Y 0)) sStr ⟨0, 3, 0, 0, 0, 0, 0, 0, 1, 0⟩ (bldR (namesY Y)).t
def strsOk (j n : Nat) (G : List (List D)) : Bool := G.all fun e => decide ((rS e j).size ≤ n)
def posOk (j : Nat) (G : List (List D)) : Bool := G.all fun e => decide (0 ≤ rI e j)
def pRst : List V → List V → Bool
  | [_, .agg [.arr _ s, .arr _ y, .arr _ r, .arr _ g]], os => match flOf os with
    | some f => decide (f.b.length ≤ 131136) && decide (f.heads.length ≤ 16) && decide (f.names.length ≤ 16) && bysOk s r && decide (g.length ≤ 16) && lensOk 1 16 g && strsOk 0 4096 g && strsOk 0 4096 s && decide (y.length ≤ 64) && posOk 1 y && decide ((bldR (namesY y)).p.length = y.length) && decide ((bldR (namesY y)).t.length ≤ 65536)
    | none => true
  | _, _ => true
def gRst : List V → List V → Option (V × List V)
  | [.ptr (.out 0) 0, .agg [.arr [.str, .int .i64, .arr [.int .u8], .int .i64] s, .arr [.str, .int .u8, .bool, .int .i64, .int .i64, .int .i64] y, .arr [.int .i64, .int .i64, .int .u8, .int .i64, .int .i64] r, .arr [.str, .arr [.int .i64]] g]], os => match flOf os with
    | some f => some (.tup [], (restF s y r g f).cells)
    | none => none
  | _, _ => none
noncomputable def lc3 : List (Nat × ExtF) := (46, exP nRck pRck gRck) :: lc2

noncomputable def eo1 : Info := infoL Tryd.prog lc1 ent keepOf
noncomputable def eo2 : Info := infoL Tryd.prog lc2 ent keepOf
noncomputable def eo3 : Info := infoL Tryd.prog lc3 ent keepOf
end Go.Proofs.YtacfehneeanlgaaDoor.Ev
