/- Files read: that the small functions compute what XErD says. -/
import Derived.Test.YtkcopbnaleiocaaErP
namespace Go.Proofs.Ytkcopbnaleiocaa.Ev
open Go
set_option linter.unusedVariables false
set_option linter.unusedSimpArgs false
theorem bytesIn_cell {xs : List (List D)} (h : bytesIn xs = true) {i : Nat} (hi : i < xs.length) : 0 ≤ cellI xs i 0 ∧ cellI xs i 0 < 256 := by
  have := List.all_eq_true.1 h (xs[i]'hi) (List.getElem_mem hi)
  simp only [Bool.and_eq_true, decide_eq_true_eq] at this
  have e : xs.getD i [] = xs[i]'hi := by rw [List.getD_eq_getElem?_getD, List.getElem?_eq_getElem hi]; rfl
  rw [cellI, e]
  exact this
theorem pGet_ok {xs : List (List D)} (h : bytesIn xs = true) (hl : xs.length ≤ 140737488351232) (a k : Int) : pGet [.arr [.int .u8] xs, .val (.int .i64 a), .val (.int .i64 k)] = true := by
  show (bytesIn xs && decide (xs.length ≤ 140737488351232)) = true
  rw [h, decT hl]; rfl
theorem con_syr : ∀ vs v, pB1 vs = true → gSymR vs = some v → Contract Try.prog 109 vs [] (v, []) := by
  intro vs v hp h
  unfold gSymR at h
  split at h <;> cases h
  rename_i x
  have hp : bytesIn x = true := hp
  refine el_con lc7_ok Try.func109 (by kernel_rfl) (by kernel_rfl) rfl (by kernel_rfl) (by kernel_rfl) (Runs.of (fun q => syrp0 q x) ?_)
  unfold syrt0
  have bad : ∀ e : Int, e ≠ 0 → symRe x = e → Is (.tup [.agg [.val (.string .empty), .val (.int .u8 (okI (symRe x) (symRb x))), .val (.bool (okT (symRe x) (symRh x))), .val (.int .i64 (okI (symRe x) (symRw x))), .val (.int .i64 (okI (symRe x) (getV x 8 8))), .val (.int .i64 (okI (symRe x) (getV x 16 8)))], .val (.int .i64 (okI (symRe x) (getV x 0 4))), .val (.int .i64 (symRe x))]) (.tup [.agg [.val (.string .empty), .val (.int .u8 0), .val (.bool false), .val (.int .i64 0), .val (.int .i64 0), .val (.int .i64 0)], .val (.int .i64 0), .val (.int .i64 e)], []) := fun e he h => is_refl (by
    rw [h]; simp only [okI, okT, if_neg he, decF he, Bool.false_and])
  refine ask (fun h => bad 3 (by omega) ?_) (fun h => ?_)
  · have h : (x.length : Int) ≠ 24 := by simpa [bne] using h
    rw [symRe, if_pos (by omega)]
  have hl : x.length = 24 := by
    have : (x.length : Int) = 24 := by simpa [bne] using h
    omega
  have hg := fun a k => pGet_ok hp (by omega) a k
  have hb := bytesIn_cell hp (i := 4) (by omega)
  have c0 : symRe x = if symWE sX (symRb x) (symRh x) (symRw x) (getV x 8 8) (getV x 16 8) (getV x 0 4) ≠ 0 then 8 else if sameB (if symWok sX (symRb x) (symRh x) (symRw x) (getV x 8 8) (getV x 16 8) (getV x 0 4) = true then symB (getV x 0 4) (symRb x) (symRh x) (symRw x) (getV x 8 8) (getV x 16 8) else []) x = true then 0 else 8 := by
    rw [symRe, if_neg (by omega)]
  have hp4 : 0 ≤ Int.fdiv (cellI x 4 0) 16 := by rw [Int.fdiv_eq_ediv_of_nonneg _ (by omega)]; omega
  have fin : ∀ w : Int, symRw x = w → Tr.prop eq7 (109, Try.f109, 0) (Is (.tup [.agg [.val (.string .empty), .val (.int .u8 (okI (symRe x) (symRb x))), .val (.bool (okT (symRe x) (symRh x))), .val (.int .i64 (okI (symRe x) (symRw x))), .val (.int .i64 (okI (symRe x) (getV x 8 8))), .val (.int .i64 (okI (symRe x) (getV x 16 8)))], .val (.int .i64 (okI (symRe x) (getV x 0 4))), .val (.int .i64 (symRe x))]))
      (.ask (symWE sX (symRb x) (symRh x) w (getV x 8 8) (getV x 16 8) (getV x 0 4) != 0) (.ret (.tup [.agg [.val (.string .empty), .val (.int .u8 0), .val (.bool false), .val (.int .i64 0), .val (.int .i64 0), .val (.int .i64 0)], .val (.int .i64 0), .val (.int .i64 8)], []))
        (.ask (!sameB (if symWok sX (symRb x) (symRh x) w (getV x 8 8) (getV x 16 8) (getV x 0 4) = true then symB (getV x 0 4) (symRb x) (symRh x) w (getV x 8 8) (getV x 16 8) else []) x) (.ret (.tup [.agg [.val (.string .empty), .val (.int .u8 0), .val (.bool false), .val (.int .i64 0), .val (.int .i64 0), .val (.int .i64 0)], .val (.int .i64 0), .val (.int .i64 8)], []))
          (.ret (.tup [.agg [.val (.string .empty), .val (.int .u8 (symRb x)), .val (.bool (symRh x)), .val (.int .i64 w), .val (.int .i64 (getV x 8 8)), .val (.int .i64 (getV x 16 8))], .val (.int .i64 (getV x 0 4)), .val (.int .i64 0)], [])))) := by
    intro w ew
    subst ew
    refine ask (fun h1 => bad 8 (by omega) ?_) (fun h1 => ask (fun h2 => bad 8 (by omega) ?_) (fun h2 => ?_))
    · rw [c0, if_pos (bne_iff_ne.1 h1)]
    · rw [c0, if_neg (by simpa [bne] using h1), if_neg (by rw [notT h2]; simp)]
    · have e0 : symRe x = 0 := by rw [c0, if_neg (by simpa [bne] using h1), if_pos (notF h2)]
      rw [e0]
      refine is_refl ?_
      simp only [okI, okT, if_true, decide_true, Bool.true_and]
  refine askT (hg _ _) (askT (decT (by omega)) (askT (decT (by omega)) (askT (hg _ _) (ask (fun hw => ?_) (fun hw => ?_)))))
  · have ew : symRw x = IntKind.wrap .i64 (65520 - getV x 6 2) := by rw [symRw, if_pos (of_decide_eq_true hw)]
    exact askT (hg _ _) (askT (hg _ _) (askT (show decide (0 ≤ Int.fdiv (cellI x 4 0) 16) = true from decT hp4) (fin _ ew)))
  · have ew : symRw x = getV x 6 2 := by rw [symRw, if_neg (of_decide_eq_false hw)]
    exact askT (hg _ _) (askT (hg _ _) (askT (show decide (0 ≤ Int.fdiv (cellI x 4 0) 16) = true from decT hp4) (fin _ ew)))
theorem con_rlr : ∀ vs v, pB1 vs = true → gRelR vs = some v → Contract Try.prog 145 vs [] (v, []) := by
  intro vs v hp h
  unfold gRelR at h
  split at h <;> cases h
  rename_i x
  have hp : bytesIn x = true := hp
  refine el_con lc7_ok Try.func145 (by kernel_rfl) (by kernel_rfl) rfl (by kernel_rfl) (by kernel_rfl) (Runs.of (fun q => rlrp0 q x) ?_)
  unfold rlrt0
  have bad : ∀ e : Int, e ≠ 0 → relRe x = e → Is (.tup [.agg [.val (.int .i64 0), .val (.int .i64 (okI (relRe x) (getV x 0 8))), .val (.int .u8 (okI (relRe x) (relRk x))), .val (.int .i64 (okI (relRe x) (relRc x))), .val (.int .i64 (okI (relRe x) (getV x 16 8)))], .val (.int .i64 (relRe x))]) (.tup [.agg [.val (.int .i64 0), .val (.int .i64 0), .val (.int .u8 0), .val (.int .i64 0), .val (.int .i64 0)], .val (.int .i64 e)], []) := fun e he h => is_refl (by
    rw [h]; simp only [okI, if_neg he])
  refine ask (fun h => bad 3 (by omega) ?_) (fun h => ?_)
  · have h : (x.length : Int) ≠ 24 := by simpa [bne] using h
    rw [relRe, if_pos (by omega)]
  have hl : x.length = 24 := by
    have : (x.length : Int) = 24 := by simpa [bne] using h
    omega
  have hg := fun a k => pGet_ok hp (by omega) a k
  have c0 : relRe x = if relWok (getV x 0 8) (relRk x) (relRc x) (getV x 16 8) = true then (if sameB (relB (getV x 0 8) (relRk x) (relRc x) (getV x 16 8)) x = true then 0 else 8) else 8 := by
    rw [relRe, if_neg (by omega)]
  refine askT (hg _ _) (askT (hg _ _) (askT (hg _ _) (askT (hg _ _) ?_)))
  cases hk : relWok (getV x 0 8) (relRk x) (relRc x) (getV x 16 8) with
  | false =>
    have hk' : relWok (getV x 0 8) (IntKind.wrap .u8 (getV x 8 4)) (IntKind.wrap .i64 (getV x 12 4 - 1)) (getV x 16 8) = false := hk
    refine askT (by rw [hk']; rfl) (bad 8 (by omega) ?_)
    rw [c0, hk]; rfl
  | true =>
    have hk' : relWok (getV x 0 8) (IntKind.wrap .u8 (getV x 8 4)) (IntKind.wrap .i64 (getV x 12 4 - 1)) (getV x 16 8) = true := hk
    rw [hk, if_pos rfl] at c0
    refine askF (by rw [hk']; rfl) ?_
    rw [hk', if_pos rfl]
    refine ask (fun h2 => bad 8 (by omega) ?_) (fun h2 => ?_)
    · have h2 : (!sameB (relB (getV x 0 8) (relRk x) (relRc x) (getV x 16 8)) x) = true := h2
      rw [c0, if_neg (by rw [notT h2]; simp)]
    · have h2 : (!sameB (relB (getV x 0 8) (relRk x) (relRc x) (getV x 16 8)) x) = false := h2
      have e0 : relRe x = 0 := by rw [c0, if_pos (notF h2)]
      rw [e0]
      exact is_refl rfl
theorem con_bcl : ∀ vs v, pBcl vs = true → gBcl vs = some v → Contract Try.prog 43 vs [] (v, []) := by
  intro vs v hp h
  unfold gBcl at h
  split at h <;> cases h
  rename_i x
  simp only [pBcl, decide_eq_true_eq] at hp
  by_cases h0 : x.length = 0
  · have : x = [] := List.eq_nil_of_length_eq_zero h0
    subst this
    refine contract_empty ?_ (fun p c => ?_)
    · refine el_con lc7_ok Try.func43 (by kernel_rfl) (by kernel_rfl) rfl (by kernel_rfl) (by kernel_rfl) (Runs.of (fun q => bcnp0 q) ?_)
      unfold bcnt0
      exact is_one (.one (.nilOwn _))
    · refine el_con lc7_ok Try.func43 (by kernel_rfl) (by kernel_rfl) rfl (by kernel_rfl) (by kernel_rfl) (Runs.of (fun q => bcsp0 q p c) ?_)
      unfold bcst0
      exact is_refl rfl
  · refine el_con lc7_ok Try.func43 (by kernel_rfl) (by kernel_rfl) rfl (by kernel_rfl) (by kernel_rfl) (Runs.of (fun q => bclp0 q x) ?_)
    unfold bclt0
    exact askT (decT (by omega)) (askT (andT (decT (by omega)) (decT (by omega))) (is_refl rfl))
theorem con_beq : ∀ vs v, gBeq vs = some v → Contract Try.prog 46 vs [] (v, []) := by
  intro vs v h
  unfold gBeq at h
  split at h <;> cases h
  rename_i x y
  exact el_con lc7_ok Try.func46 (by kernel_rfl) (by kernel_rfl) rfl (by kernel_rfl) (by kernel_rfl) (Runs.of (fun q => beqp0 q x y) (is_refl rfl))
theorem rdOf_eq {os : List V} {r : Rd} (h : rdOf os = some r) : os = r.cells := by
  unfold rdOf at h
  split at h
  · split at h
    · rename_i hc
      cases h
      simp only [Bool.and_eq_true] at hc
      obtain ⟨⟨⟨⟨⟨h0, h1⟩, h2⟩, h3⟩, h4⟩, h5⟩ := hc
      rw [sameCTs_eq _ _ h0, sameCTs_eq _ _ h1, sameCTs_eq _ _ h2, sameCTs_eq _ _ h3, sameCTs_eq _ _ h4, sameCTs_eq _ _ h5]; rfl
    · cases h
  · cases h
theorem con_num : ∀ vs os r, pNum vs os = true → gNum vs os = some r → Contract Try.prog 142 vs [os] (r.1, [setAll os r.2]) := by
  intro vs os r hp h
  unfold gNum at h
  split at h
  · rename_i x a k
    split at h
    · rename_i d hd
      cases h
      have := rdOf_eq hd
      subst this
      simp only [pNum, Bool.and_eq_true, decide_eq_true_eq] at hp
      refine el_conO lc7_ok Try.func142 (by kernel_rfl) (by kernel_rfl) rfl (by kernel_rfl) (by kernel_rfl) (Runs.of (fun q => nump0 q x a k d.b d.h d.s d.y d.l d.g d.e) ?_)
      unfold numt0
      refine askT (pGet_ok hp.1 (by omega) a k) (ask (fun h => ask (fun h2 => ⟨.one (.one (.refl _)), ?_⟩) (fun h2 => ⟨.one (.one (.refl _)), ?_⟩)) (fun h => ⟨.one (.one (.refl _)), ?_⟩))
      · have h : getE x a k ≠ 0 := by simpa [bne] using h
        rw [numE, if_pos h, if_pos (beq_iff_eq.1 h2)]; rfl
      · have h : getE x a k ≠ 0 := by simpa [bne] using h
        rw [numE, if_pos h, if_neg (beq_eq_false_iff_ne.1 h2)]; rfl
      · have h : ¬ getE x a k ≠ 0 := by simpa [bne] using h
        rw [numE, if_neg h]; rfl
    · cases h
  · cases h
theorem con_rct : ∀ vs os r, pCut vs os = true → gCut3 vs os = some r → Contract Try.prog 143 vs [os] (r.1, [setAll os r.2]) := by
  intro vs os r hp h
  unfold gCut3 at h
  split at h
  · rename_i a n
    split at h
    · rename_i d hd
      cases h
      have hp : d.b.length ≤ 1048576 := by simpa [pCut, hd] using hp
      have := rdOf_eq hd
      subst this
      refine el_conO lc7_ok Try.func143 (by kernel_rfl) (by kernel_rfl) rfl (by kernel_rfl) (by kernel_rfl) (Runs.of (fun q => rctp0 q a n d.b d.h d.s d.y d.l d.g d.e) ?_)
      unfold rctt0
      have bad : cutOk d.b a n d.e = false → Relax (.val nilSlice) (.arr u8s (cutV d.b a n d.e)) ∧ ([[.arr u8s d.b, .own hdC d.h, .own secC d.s, .own symC d.y, .own relC d.l, .own grpC d.g, .val (.int .i64 8)]] : List (List V)) = [setAll d.cells [(6, .val (.int .i64 (cutE d.b a n d.e)))]] := fun h => by
        rw [cutV, cutE, h]
        exact ⟨.one (rx_nil rfl), rfl⟩
      refine ask (fun h => bad ?_) (fun h1 => ask (fun h => bad ?_) (fun h2 => ask (fun h => bad ?_) (fun h3 => ask (fun h => bad ?_) (fun h4 => ask (fun h => bad ?_) (fun h5 => ?_)))))
      · have h : d.e ≠ 0 := by simpa [bne] using h
        simp [cutOk, h]
      · have h := of_decide_eq_true h
        rw [cutOk, decF (p := 0 ≤ a) (by omega)]; simp
      · have h := of_decide_eq_true h
        rw [cutOk, decF (p := 0 ≤ n) (by omega)]; simp
      · have h := of_decide_eq_true h
        rw [cutOk, decF (p := a ≤ d.b.length) (by omega)]; simp
      · have h := of_decide_eq_true h
        have h4 := of_decide_eq_false h4
        have h2 := of_decide_eq_false h2
        rw [wrap64 (by omega) (by omega)] at h
        rw [cutOk, decF (p := n ≤ d.b.length - a) (by omega)]; simp
      have h1 : d.e = 0 := by simpa [bne] using h1
      have h2 := of_decide_eq_false h2
      have h3 := of_decide_eq_false h3
      have h4 := of_decide_eq_false h4
      have h5 := of_decide_eq_false h5
      rw [wrap64 (n := (d.b.length : Int) - a) (by omega) (by omega)] at h5
      have ok : cutOk d.b a n d.e = true := by
        rw [cutOk, decT h1, decT (p := 0 ≤ a) (by omega), decT (p := 0 ≤ n) (by omega), decT (p := a ≤ d.b.length) (by omega), decT (p := n ≤ d.b.length - a) (by omega)]; rfl
      have ew : IntKind.wrap .i64 (a + n) = a + n := wrap64 (by omega) (by omega)
      rw [ew]
      refine askT (andT (okB (by omega) (by omega) (by omega)) (decT (by omega))) ?_
      rw [cutV, cutE, ok]
      exact ⟨.one (.one (.refl _)), rfl⟩
    · cases h
  · cases h
theorem le1_ok : ExtAll Try.prog le1 := .normP con_syr (.normP con_rlr (.normP con_bcl (.norm con_beq (.tch con_num (.tch con_rct lc7_ok)))))
theorem con_bhp : ∀ vs v, gBhp vs = some v → Contract Try.prog 94 vs [] (v, []) := by
  intro vs v h
  unfold gBhp at h
  split at h <;> cases h
  rename_i x y
  refine el_con le1_ok Try.func94 (by kernel_rfl) (by kernel_rfl) rfl (by kernel_rfl) (by kernel_rfl) (Runs.of (fun q => bhpp0 q x y) ?_)
  unfold bhpt0
  refine ask (fun h => ?_) (fun h => is_refl ?_)
  · have h := of_decide_eq_true h
    refine askT (okB (by omega) (by omega) (by omega)) (is_refl ?_)
    rw [cut0, hasPB, decT (p := y.length ≤ x.length) (by omega), Bool.true_and]
  · have h := of_decide_eq_false h
    rw [hasPB, decF (p := y.length ≤ x.length) (by omega), Bool.false_and]
theorem con_rnm : ∀ vs os r, pName vs os = true → gName vs os = some r → Contract Try.prog 144 vs [os] (r.1, [setAll os r.2]) := by
  intro vs os r hp h
  unfold gName at h
  split at h
  · rename_i i a
    split at h
    · rename_i d hd
      cases h
      simp only [pName, hd, Bool.and_eq_true, decide_eq_true_eq] at hp
      obtain ⟨⟨p1, p2⟩, p3⟩ := hp
      have hpc : pCut [] d.cells = true := by
        have := rdOf_eq hd
        rw [← this]
        simp only [pCut, hd]
        exact decT p1
      have := rdOf_eq hd
      subst this
      refine el_conO le1_ok Try.func144 (by kernel_rfl) (by kernel_rfl) rfl (by kernel_rfl) (by kernel_rfl) (Runs.of (fun q => rnmp0 q i a d.b d.h d.s d.y d.l d.g d.e) ?_)
      unfold rnmt0
      refine askT (andT (decT p2) (decT p3)) (askT hpc (ask (fun h => ⟨.one (.one (.refl _)), ?_⟩) (fun h => ⟨.one (.one (.refl _)), ?_⟩)))
      · have h : getSE (cutV d.b (cellI d.h i.toNat 4) (cellI d.h i.toNat 5) d.e) a ≠ 0 := by simpa [bne] using h
        rw [nameE, if_pos h]; rfl
      · have h : ¬ getSE (cutV d.b (cellI d.h i.toNat 4) (cellI d.h i.toNat 5) d.e) a ≠ 0 := by simpa [bne] using h
        rw [nameE, if_neg h]; rfl
    · cases h
  · cases h
theorem le2_ok : ExtAll Try.prog le2 := .norm con_bhp (.tch con_rnm le1_ok)
end Go.Proofs.Ytkcopbnaleiocaa.Ev
/- A reader reads its heads: what the functions compute, in plain words. -/
namespace Go.Proofs.Ytkcopbnaleiocaa.Ev
open Go
set_option linter.unusedVariables false
def allX (b : List (List D)) (place : Int) (i : Nat) (e : Int) : List (List D) := cutV b (IntKind.wrap .i64 (place + IntKind.wrap .i64 ((i : Int) * 64))) 64 e
def allOne (place : Int) (i : Nat) (r : Rd) : Rd := { r with h := r.h ++ [(hdRV (allX r.b place i r.e)).row], e := if hdRE (allX r.b place i r.e) ≠ 0 then 8 else cutE r.b (IntKind.wrap .i64 (place + IntKind.wrap .i64 ((i : Int) * 64))) 64 r.e }
def allGo (place : Int) : Nat → Nat → Rd → Rd
  | 0, _, r => r
  | d + 1, i, r => if r.e = 0 then allGo place d (i + 1) (allOne place i r) else r
def allE (b : List (List D)) (e : Int) : Int := if getV b 60 2 < 4 then 8 else if getV b 60 2 > 100 then 8 else numE b 60 2 (numE b 40 8 e)
def allF (r : Rd) : Rd := allGo (getV r.b 40 8) (getV r.b 60 2).toNat 0 { r with e := allE r.b r.e }
def pAll : List V → List V → Bool
  | _, os => match rdOf os with
    | some r => bytesIn r.b && decide (r.b.length ≤ 1048576) && decide (r.h.length ≤ 1024)
    | none => true
def gAll : List V → List V → Option (V × List V)
  | [.ptr (.out 0) 0], os => match rdOf os with
    | some r => some (.tup [], (allF r).cells)
    | none => none
  | _, _ => none
noncomputable def le3 : List (Nat × ExtF) := (92, exB [] rdC pAll gAll) :: le2
noncomputable def es3 : Info := infoL Try.prog le3 ent keepOf
end Go.Proofs.Ytkcopbnaleiocaa.Ev
