/- ElfwNames: that it answers true. -/
import Derived.Test.YtkcopbnaleiocaaEqP
namespace Go.Proofs.Ytkcopbnaleiocaa.Ev
open Go
set_option linter.unusedVariables false
set_option linter.unusedSimpArgs false
theorem con_alv : ∀ vs v, gAlv vs = some v → Contract Try.prog 25 vs [] (v, []) := by
  intro vs v h
  unfold gAlv at h
  split at h <;> cases h
  exact el_con lc6_ok Try.func25 (by kernel_rfl) (by kernel_rfl) rfl (by kernel_rfl) (by kernel_rfl) (Runs.of (fun q => alvp0 q) (is_refl rfl))
theorem con_txt : ∀ vs v, gTxt vs = some v → Contract Try.prog 23 vs [] (v, []) := by
  intro vs v h
  unfold gTxt at h
  split at h <;> cases h
  rename_i l
  exact el_con lb4_ok Try.func23 (by kernel_rfl) (by kernel_rfl) rfl (by kernel_rfl) (by kernel_rfl) (Runs.of (fun q => txtp0 q l) (is_refl rfl))
theorem lc7_ok : ExtAll Try.prog lc7 := .norm con_alv (.norm con_txt lc6_ok)
/-! ### How long a file is at least -/
theorem padB_ge (xs : List (List D)) (m : Int) (h : padOk m = true) : xs.length ≤ (padB xs m).length := by
  rw [padB, if_pos h, List.length_append]; omega
theorem partF_ge (f : Fl) (nm : ByteArray) (h : Hd) (x : List (List D)) (ha : padOk h.align = true) : f.b.length + x.length ≤ (partF f nm h x).b.length := by
  have := padB_ge f.b h.align ha
  show _ ≤ (padB f.b h.align ++ x).length
  rw [List.length_append]; omega
theorem grpsF_ge (N : Int) : ∀ (G : List (List D)) (f : Fl), f.b.length ≤ (grpsF N G f).b.length
  | [], f => Nat.le_refl _
  | e :: t, f => by
    have h1 := partF_ge f (sGrp ++ rS e 0) ⟨0, 17, 0, 0, 0, 0, N, 0, 4, 4⟩ (numsB 4 [[.int 1]] ++ numsB 4 (rA e 1)) rfl
    have h2 := grpsF_ge N t (partF f (sGrp ++ rS e 0) ⟨0, 17, 0, 0, 0, 0, N, 0, 4, 4⟩ (numsB 4 [[.int 1]] ++ numsB 4 (rA e 1)))
    exact Nat.le_trans (by omega) h2
theorem relsF_ge (N : Int) (S : List (List D)) : ∀ (W : List (List D)) (i : Nat) (f : Fl), f.b.length ≤ (relsF N S W i f).b.length
  | [], i, f => Nat.le_refl _
  | e :: t, i, f => by
    have h2 := relsF_ge N S t (i + 1) (if 0 < (rA e 0).length then partF f (sRel ++ rS (S.getD i []) 0) ⟨0, 4, 64, 0, 0, 0, N, ((i + 1 : Nat) : Int), 8, 24⟩ (rA e 0) else f)
    refine Nat.le_trans ?_ h2
    split
    · have h1 := partF_ge f (sRel ++ rS (S.getD i []) 0) ⟨0, 4, 64, 0, 0, 0, N, ((i + 1 : Nat) : Int), 8, 24⟩ (rA e 0) rfl
      omega
    · exact Nat.le_refl _
theorem restF_ge (S Y L G : List (List D)) (f : Fl) : f.b.length ≤ (restF S Y L G f).b.length := by
  have h1 := grpsF_ge (symFirst S L G) G f
  have h2 := relsF_ge (symFirst S L G) S (byS S.length L) 0 (grpsF (symFirst S L G) G f)
  have h3 := partF_ge (relsF (symFirst S L G) S (byS S.length L) 0 (grpsF (symFirst S L G) G f)) sSym ⟨0, 2, 0, 0, 0, 0, ((symFirst S L G + 1 : Nat) : Int), ((locals Y + 1 : Nat) : Int), 8, 24⟩ (zeros 24 ++ symsF (bldR (namesY Y)).p Y 0) rfl
  have h4 := partF_ge (partF (relsF (symFirst S L G) S (byS S.length L) 0 (grpsF (symFirst S L G) G f)) sSym ⟨0, 2, 0, 0, 0, 0, ((symFirst S L G + 1 : Nat) : Int), ((locals Y + 1 : Nat) : Int), 8, 24⟩ (zeros 24 ++ symsF (bldR (namesY Y)).p Y 0)) sStr ⟨0, 3, 0, 0, 0, 0, 0, 0, 1, 0⟩ (bldR (namesY Y)).t rfl
  have e0 : restF S Y L G f = partF (partF (relsF (symFirst S L G) S (byS S.length L) 0 (grpsF (symFirst S L G) G f)) sSym ⟨0, 2, 0, 0, 0, 0, ((symFirst S L G + 1 : Nat) : Int), ((locals Y + 1 : Nat) : Int), 8, 24⟩ (zeros 24 ++ symsF (bldR (namesY Y)).p Y 0)) sStr ⟨0, 3, 0, 0, 0, 0, 0, 0, 1, 0⟩ (bldR (namesY Y)).t := rfl
  rw [e0]; omega
theorem wrAll_ge (S Y L G : List (List D)) : (secsF (grpMap G []) S 0 ⟨zeros 64, [], []⟩).b.length + 64 ≤ (wrAll S Y L G).length := by
  have h1 := restF_ge S Y L G (secsF (grpMap G []) S 0 ⟨zeros 64, [], []⟩)
  have h2 := partF_ge (wrF2 S Y L G) sShs ⟨0, 3, 0, 0, 0, 0, 0, 0, 1, 0⟩ (wrTb S Y L G).t rfl
  have e2 : restF S Y L G (secsF (grpMap G []) S 0 ⟨zeros 64, [], []⟩) = wrF2 S Y L G := rfl
  have e3 : partF (wrF2 S Y L G) sShs ⟨0, 3, 0, 0, 0, 0, 0, 0, 1, 0⟩ (wrTb S Y L G).t = wrF3 S Y L G := rfl
  rw [e2] at h1
  rw [e3] at h2
  have h3 := padB_ge (wrF3 S Y L G).b 8 rfl
  rw [wrAll, List.length_append, List.length_append, show (zeros 64).length = 64 from by simp [zeros]]
  omega
/-! ### Sixteen full sections -/
def rowN (n : Nat) : List D := [.str sDat, .int 1, .arr (List.replicate n [.int 0]), .int 0]
theorem rowN_len (n : Nat) : (rA (rowN n) 2).length = n := List.length_replicate
def rowF : List D := rowN 4096
def fullS (n : Nat) : List (List D) := List.replicate n rowF
theorem all_rep {α : Type} (p : α → Bool) (x : α) (h : p x = true) : ∀ n, (List.replicate n x).all p = true
  | 0 => rfl
  | n + 1 => by rw [List.replicate_succ, List.all_cons, h, all_rep p x h n]; rfl
theorem rowF_len : (rA rowF 2).length = 4096 := rowN_len 4096
theorem secsF_rep (m : List (List D)) (k : Nat) : ∀ (n i : Nat) (f : Fl), f.b.length + k * n ≤ (secsF m (List.replicate n (rowN k)) i f).b.length
  | 0, i, f => Nat.le_refl _
  | n + 1, i, f => by
    have h1 := partF_ge f (rS (rowN k) 0) (secHd m i (rowN k)) (rA (rowN k) 2) rfl
    rw [rowN_len] at h1
    have h2 := secsF_rep m k n (i + 1) (partF f (rS (rowN k) 0) (secHd m i (rowN k)) (rA (rowN k) 2))
    have e0 : secsF m (List.replicate (n + 1) (rowN k)) i f = secsF m (List.replicate n (rowN k)) (i + 1) (partF f (rS (rowN k) 0) (secHd m i (rowN k)) (rA (rowN k) 2)) := rfl
    rw [e0, Nat.mul_succ]; omega
theorem secsF_full (m : List (List D)) (n i : Nat) (f : Fl) : f.b.length + 4096 * n ≤ (secsF m (fullS n) i f).b.length := secsF_rep m 4096 n i f
theorem secOk_full (n : Nat) (h : n = 4096) : secOk sDat 1 (n : Nat) 0 = true := by
  subst h; kernel_rfl
theorem secAll_rep (n k : Nat) (h : n = 4096) : secAll (List.replicate k (rowN n)) = true := by
  refine all_rep _ (rowN n) ?_ k
  show secOk (rS (rowN n) 0) (rI (rowN n) 1) (rA (rowN n) 2).length (rI (rowN n) 3) = true
  rw [rowN_len]
  exact secOk_full n h
theorem full_sec : secAll (fullS 16) = true := secAll_rep 4096 16 rfl
theorem full_chk : chkB (fullS 16) [] [] [] = true := by
  have h1 : symsB (fullS 16) [] = true := rfl
  have h2 : relsB (fullS 16) [] [] = true := rfl
  have h3 : grpsB (fullS 16) [] = true := rfl
  rw [chkB, full_sec, h1, h2, h3]
  rfl
theorem full_lens : lensOk 2 4096 (fullS 16) = true := by
  refine all_rep _ rowF ?_ 16
  exact decT (Nat.le_of_eq rowF_len)
theorem pWrt_eq (a b c d : List CT) (S Y L G : List (List D)) : pWrt [.agg [.arr a S, .arr b Y, .arr c L, .arr d G]] = (pChkO [.agg [.arr [] S, .arr [] Y, .arr [] L, .arr [] G]] && (!chkB S Y L G || wrOk S Y L G)) := rfl
theorem full_wrt : pWrt [.agg [.arr secC (fullS 16), .arr symC [], .arr relC [], .arr grpC []]] = true := by
  have a : pChkO [.agg [.arr [] (fullS 16), .arr [] [], .arr [] [], .arr [] []]] = true := rfl
  have b : wrOk (fullS 16) [] [] [] = true := by
    have e1 : decide ((wrTb (fullS 16) [] [] []).p.length = (wrF2 (fullS 16) [] [] []).names.length + 1) = true := by kernel_rfl
    have e2 : decide ((wrTb (fullS 16) [] [] []).t.length ≤ 65536) = true := by kernel_rfl
    have e3 : (bysOk (fullS 16) [] && decide (([] : List (List D)).length ≤ 16) && lensOk 1 16 [] && strsOk 0 4096 [] && strsOk 0 4096 (fullS 16) && decide (([] : List (List D)).length ≤ 64) && posOk 1 [] && decide ((bldR (namesY [])).p.length = ([] : List (List D)).length) && decide ((bldR (namesY [])).t.length ≤ 65536)) = true := by kernel_rfl
    rw [wrOk, full_lens, e1, e2, e3]; rfl
  rw [pWrt_eq, a, b, Bool.or_true]; rfl
theorem full_wrE : wrE (fullS 16) [] [] [] = 9 := by
  have h1 := secsF_full (grpMap [] []) 16 0 ⟨zeros 64, [], []⟩
  have h2 := wrAll_ge (fullS 16) [] [] []
  have h3 : (zeros 64).length = 64 := by simp [zeros]
  rw [wrE, if_pos full_chk, if_pos]
  show _ > 65536
  have h1' : 64 + 4096 * 16 ≤ (secsF (grpMap [] []) (fullS 16) 0 ⟨zeros 64, [], []⟩).b.length := by
    have : (⟨zeros 64, [], []⟩ : Fl).b.length = 64 := h3
    omega
  omega
theorem fullS_succ (n : Nat) : fullS n ++ [rowF] = fullS (n + 1) := by
  rw [fullS, fullS, List.replicate_succ']
theorem runs_enm (b30 b31 b32 b40 b41 b42 : List (List D)) (c1 : pChkO [.agg [.arr secC b30, .arr symC b31, .arr relC b32, .arr grpC []]] = true) (c2 : pChkO [.agg [.arr secC b40, .arr symC b41, .arr relC b42, .arr grpC []]] = true) (c3 : (if chkB b30 b31 b32 [] = true then (0 : Int) else 8) = 8) (c4 : (if chkB b40 b41 b42 [] = true then (0 : Int) else 8) = 8) :
    ∀ (d i : Nat), d + i = 16 → 0 < i → Runs eq7 (4, Try.f4, 0) enmk2 (enms2 8 0 (i : Nat) b30 b31 b32 b40 b41 b42 (fullS i)) (Is (.val (.bool true))) := by
  intro d
  induction d with
  | zero =>
    intro i hi h0
    have hi : i = 16 := by omega
    subst hi
    refine Runs.of (fun q => enmp2 q _ _ _ _ _ _ _ _ _ _) ?_
    unfold enmt2
    refine askF rfl (askT full_wrt (askT rfl (askT rfl (askT c1 (askT (by rw [c3]; rfl) (askT c2 (askT (by rw [c4]; rfl) (is_refl ?_))))))))
    rw [full_wrE]; rfl
  | succ d ih =>
    intro i hi h0
    refine Runs.of (fun q => enmp2 q _ _ _ _ _ _ _ _ _ _) ?_
    unfold enmt2
    have hw : IntKind.wrap .i64 ((i : Int) + 1) = ((i + 1 : Nat) : Int) := by rw [wrap64 (by omega) (by omega)]; omega
    have hl : (fullS i).length = i := List.length_replicate
    rw [hw]
    refine askT (decT (by omega)) (askT (andT (decT (by omega)) (decT (by omega))) ?_)
    have := ih (i + 1) (by omega) (by omega)
    rw [← fullS_succ] at this
    exact this
theorem enm_holds : Contract Try.prog 4 [] [] (.val (.bool true), []) := by
  refine el_con lc7_ok Try.func4 (by kernel_rfl) (by kernel_rfl) rfl (by kernel_rfl) (by kernel_rfl) (Runs.of (fun q => enmp0 q) ?_)
  unfold enmt0
  refine Runs.of (fun q => enmp1 q _ _ _ _ _ _ _ _ _) ?_
  unfold enmt1
  refine askT rfl ?_
  exact runs_enm _ _ _ _ _ _ (by kernel_rfl) (by kernel_rfl) (by kernel_rfl) (by kernel_rfl) 15 1 rfl (by omega)
end Go.Proofs.Ytkcopbnaleiocaa.Ev
/- Files read: what the small functions compute, in plain words. -/
namespace Go.Proofs.Ytkcopbnaleiocaa.Ev
open Go
set_option linter.unusedVariables false
/-! ### A contract that changes some cells of its one box alone -/
def setAll (os : List V) (ch : List (Nat × V)) : List V := ch.foldl (fun os c => os.set c.1 c.2) os
theorem setAll_length : ∀ (ch : List (Nat × V)) (os : List V), (setAll os ch).length = os.length
  | [], _ => rfl
  | c :: ch, os => by
    show (setAll (os.set c.1 c.2) ch).length = _
    rw [setAll_length ch, List.length_set]
theorem setAll_get : ∀ (ch : List (Nat × V)) (os : List V) (i : Nat), (∀ c ∈ ch, c.1 ≠ i) → (setAll os ch)[i]? = os[i]?
  | [], _, _, _ => rfl
  | c :: ch, os, i, h => by
    show (setAll (os.set c.1 c.2) ch)[i]? = _
    rw [setAll_get ch _ i fun d hd => h d (List.mem_cons_of_mem _ hd), List.getElem?_set_ne (h c List.mem_cons_self)]
def exT (ks : List CK) (l : List Nat) (p : List V → List V → Bool) (g : List V → List V → Option (V × List (Nat × V))) : ExtF where
  pre := fun vs outs => match outs with | [os] => p (normArgs ks vs) os | _ => true
  ans := fun vs outs => match outs with | [os] => (g (normArgs ks vs) os).bind fun r => if (r.2.all fun c => l.contains c.1) = true then some (r.1, [setAll os r.2]) else none | _ => none
  touch := some l
  tok := fun l' h vs os r hr => by
    cases h
    obtain ⟨x, h1, h2⟩ := Option.bind_eq_some_iff.1 hr
    split at h2
    · rename_i hc
      cases h2
      refine ⟨_, rfl, setAll_length _ _, fun i hi => setAll_get _ _ _ fun c hc' e => ?_⟩
      have := List.all_eq_true.1 hc c hc'
      rw [e] at this
      exact hi (List.contains_iff_mem.1 this)
    · cases h2
theorem ExtAll.tch {P : Program} {l : List (Nat × ExtF)} {f : Nat} {ks : List CK} {ls : List Nat} {p : List V → List V → Bool} {g : List V → List V → Option (V × List (Nat × V))} (h : ∀ (vs os : List V) (r : V × List (Nat × V)), p vs os = true → g vs os = some r → Contract P f vs [os] (r.1, [setAll os r.2])) (hl : ExtAll P l) : ExtAll P ((f, exT ks ls p g) :: l) :=
  .cons (fun vs outs r h1 h2 => by
    simp only [exT] at h2 h1
    split at h2
    · obtain ⟨x, e1, e2⟩ := Option.bind_eq_some_iff.1 h2
      split at e2
      · cases e2
        exact Contract.norm (h _ _ _ h1 e1)
      · cases e2
    · cases h2) hl
/-! ### sym.Read, rela.Read -/
def sX : ByteArray := ⟨#[120]⟩
def symRb (x : List (List D)) : Int := Int.fdiv (cellI x 4 0) 16
def symRh (x : List (List D)) : Bool := cellI x 5 0 == 2
def symRw (x : List (List D)) : Int := if getV x 6 2 > 65520 then IntKind.wrap .i64 (65520 - getV x 6 2) else getV x 6 2
def sameB (x y : List (List D)) : Bool := (rowBytes x).toList == (rowBytes y).toList
def symRe (x : List (List D)) : Int := if x.length ≠ 24 then 3 else if symWE sX (symRb x) (symRh x) (symRw x) (getV x 8 8) (getV x 16 8) (getV x 0 4) ≠ 0 then 8 else if sameB (if symWok sX (symRb x) (symRh x) (symRw x) (getV x 8 8) (getV x 16 8) (getV x 0 4) = true then symB (getV x 0 4) (symRb x) (symRh x) (symRw x) (getV x 8 8) (getV x 16 8) else []) x = true then 0 else 8
def symRV (x : List (List D)) : V := if symRe x = 0 then .agg [.val (.string .empty), .val (.int .u8 (symRb x)), .val (.bool (symRh x)), .val (.int .i64 (symRw x)), .val (.int .i64 (getV x 8 8)), .val (.int .i64 (getV x 16 8))] else .agg [.val (.string .empty), .val (.int .u8 0), .val (.bool false), .val (.int .i64 0), .val (.int .i64 0), .val (.int .i64 0)]
/-- What is read where all is right, noughts else. -/
def okI (e : Int) (n : Int) : Int := if e = 0 then n else 0
def okT (e : Int) (b : Bool) : Bool := decide (e = 0) && b
def pB1 : List V → Bool
  | [.arr [.int .u8] x] => bytesIn x
  | _ => true
def gSymR : List V → Option V
  | [.arr [.int .u8] x] => some (.tup [.agg [.val (.string .empty), .val (.int .u8 (okI (symRe x) (symRb x))), .val (.bool (okT (symRe x) (symRh x))), .val (.int .i64 (okI (symRe x) (symRw x))), .val (.int .i64 (okI (symRe x) (getV x 8 8))), .val (.int .i64 (okI (symRe x) (getV x 16 8)))], .val (.int .i64 (okI (symRe x) (getV x 0 4))), .val (.int .i64 (symRe x))])
  | _ => none
def relRk (x : List (List D)) : Int := IntKind.wrap .u8 (getV x 8 4)
def relRc (x : List (List D)) : Int := IntKind.wrap .i64 (getV x 12 4 - 1)
def relRe (x : List (List D)) : Int := if x.length ≠ 24 then 3 else if relWok (getV x 0 8) (relRk x) (relRc x) (getV x 16 8) = true then (if sameB (relB (getV x 0 8) (relRk x) (relRc x) (getV x 16 8)) x = true then 0 else 8) else 8
def gRelR : List V → Option V
  | [.arr [.int .u8] x] => some (.tup [.agg [.val (.int .i64 0), .val (.int .i64 (okI (relRe x) (getV x 0 8))), .val (.int .u8 (okI (relRe x) (relRk x))), .val (.int .i64 (okI (relRe x) (relRc x))), .val (.int .i64 (okI (relRe x) (getV x 16 8)))], .val (.int .i64 (relRe x))])
  | _ => none
/-! ### bytes -/
def gBcl : List V → Option V
  | [.arr [.int .u8] x] => some (.own u8s x)
  | _ => none
def pBcl : List V → Bool
  | [.arr [.int .u8] x] => decide (x.length ≤ 1048576)
  | _ => true
def gBeq : List V → Option V
  | [.arr [.int .u8] x, .arr [.int .u8] y] => some (.val (.bool (sameB x y)))
  | _ => none
def hasPB (x y : List (List D)) : Bool := decide (y.length ≤ x.length) && sameB (x.take y.length) y
def gBhp : List V → Option V
  | [.arr [.int .u8] x, .arr [.int .u8] y] => some (.val (.bool (hasPB x y)))
  | _ => none
def nBB : List CK := [.sl u8s, .sl u8s]
/-! ### A reader -/
structure Rd where
  b : List (List D)
  h : List (List D)
  s : List (List D)
  y : List (List D)
  l : List (List D)
  g : List (List D)
  e : Int
def Rd.cells (r : Rd) : List V := [.arr u8s r.b, .own hdC r.h, .own secC r.s, .own symC r.y, .own relC r.l, .own grpC r.g, .val (.int .i64 r.e)]
def rdC : List BK := [.arr u8s, .own hdC, .own secC, .own symC, .own relC, .own grpC, .no]
def rdOf : List V → Option Rd
  | [.arr c0 b, .own c1 h, .own c2 s, .own c3 y, .own c4 l, .own c5 g, .val (.int .i64 e)] => if (sameCTs c0 u8s && sameCTs c1 hdC && sameCTs c2 secC && sameCTs c3 symC && sameCTs c4 relC && sameCTs c5 grpC) = true then some ⟨b, h, s, y, l, g, e⟩ else none
  | _ => none
def numE (x : List (List D)) (at_ k e : Int) : Int := if getE x at_ k ≠ 0 then (if e = 0 then 8 else e) else e
def pNum : List V → List V → Bool
  | [_, .arr [.int .u8] x, _, _], _ => bytesIn x && decide (x.length ≤ 1048576)
  | _, _ => true
def gNum : List V → List V → Option (V × List (Nat × V))
  | [.ptr (.out 0) 0, .arr [.int .u8] x, .val (.int .i64 a), .val (.int .i64 k)], os => match rdOf os with
    | some r => some (.val (.int .i64 (getV x a k)), [(6, .val (.int .i64 (numE x a k r.e)))])
    | none => none
  | _, _ => none
def cutOk (b : List (List D)) (at_ n e : Int) : Bool := decide (e = 0) && decide (0 ≤ at_) && decide (0 ≤ n) && decide (at_ ≤ b.length) && decide (n ≤ b.length - at_)
def cutV (b : List (List D)) (at_ n e : Int) : List (List D) := if cutOk b at_ n e = true then cut b at_ (at_ + n) else []
def cutE (b : List (List D)) (at_ n e : Int) : Int := if cutOk b at_ n e = true then e else 8
def pCut : List V → List V → Bool
  | _, os => match rdOf os with
    | some r => decide (r.b.length ≤ 1048576)
    | none => true
def gCut3 : List V → List V → Option (V × List (Nat × V))
  | [.ptr (.out 0) 0, .val (.int .i64 a), .val (.int .i64 n)], os => match rdOf os with
    | some r => some (.arr u8s (cutV r.b a n r.e), [(6, .val (.int .i64 (cutE r.b a n r.e)))])
    | none => none
  | _, _ => none
def nNum : List CK := [.no, .sl u8s]
noncomputable def le1 : List (Nat × ExtF) := (109, exP nB pB1 gSymR) :: (145, exP nB pB1 gRelR) :: (43, exP nB pBcl gBcl) :: (46, exN nBB gBeq) :: (142, exT nNum [6] pNum gNum) :: (143, exT [] [6] pCut gCut3) :: lc7
noncomputable def er1 : Info := infoL Try.prog le1 ent keepOf
/-! ### name -/
def nameS (r : Rd) (i : Nat) (at_ : Int) : ByteArray := getS (cutV r.b (cellI r.h i 4) (cellI r.h i 5) r.e) at_
def nameE (r : Rd) (i : Nat) (at_ : Int) : Int := if getSE (cutV r.b (cellI r.h i 4) (cellI r.h i 5) r.e) at_ ≠ 0 then 8 else cutE r.b (cellI r.h i 4) (cellI r.h i 5) r.e
def pName : List V → List V → Bool
  | [_, .val (.int .i64 i), _], os => match rdOf os with
    | some r => decide (r.b.length ≤ 1048576) && decide (0 ≤ i) && decide (i < r.h.length)
    | none => true
  | _, _ => true
def gName : List V → List V → Option (V × List (Nat × V))
  | [.ptr (.out 0) 0, .val (.int .i64 i), .val (.int .i64 a)], os => match rdOf os with
    | some r => some (.val (.string (nameS r i.toNat a)), [(6, .val (.int .i64 (nameE r i.toNat a)))])
    | none => none
  | _, _ => none
noncomputable def le2 : List (Nat × ExtF) := (94, exN nBB gBhp) :: (144, exT [] [6] pName gName) :: le1
noncomputable def er2 : Info := infoL Try.prog le2 ent keepOf
end Go.Proofs.Ytkcopbnaleiocaa.Ev
