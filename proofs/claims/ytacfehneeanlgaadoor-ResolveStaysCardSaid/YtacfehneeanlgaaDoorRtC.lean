/- resolve.Check, walked with the kit's words. -/
import Derived.Test.YtacfehneeanlgaaDoorRtR
import Derived.Test.YtacfehneeanlgaaDoorRsE
import Derived.Deep.LoopGhost
namespace Go.Proofs.YtacfehneeanlgaaDoor.Ev
open Go Go.RowKit Go.Shelf Go.Maps
set_option linter.unusedVariables false
set_option linter.unusedSimpArgs false
/-! ### What it computes -/
/-- The first object that bears a group's name, and one. -/
def sgnG (i : Nat) (g : List D) (σ : ByteArray → Int) : ByteArray → Int := fun s => if rN g = s ∧ σ s = 0 then (i : Int) + 1 else σ s
def mkN (v : Bool) (N : List (List D)) (k : Nat) (t : List Bool) : List Bool := (List.range k).foldl (fun t j => t.set ((rI (N.getD j []) 0) - 1).toNat v) t
def grpStep (i : Nat) (g : List D) (p : (ByteArray → Int) × List Bool) : (ByteArray → Int) × List Bool :=
  (sgnG i g p.1, mkN (decide (sgnG i g p.1 (rN g) = (i : Int) + 1)) (rA g 1) (rA g 1).length p.2)
def grpSt (i : Nat) (G : List (List D)) (k : Nat) (p : (ByteArray → Int) × List Bool) : (ByteArray → Int) × List Bool := (List.range k).foldl (fun p j => grpStep i (G.getD j []) p) p
def sgnAll (L : List (List D)) (i : Nat) : ByteArray → Int := (List.range i).foldl (fun σ k => (grpSt k (rA (L.getD k []) 5) (rA (L.getD k []) 5).length (σ, List.replicate (rA (L.getD k []) 6).length true)).1) (fun _ => 0)
noncomputable def keptOk (L : List (List D)) (i : Nat) : Bool :=
  chkB (rA (L.getD i []) 2) (rA (L.getD i []) 3) (rA (L.getD i []) 4) (rA (L.getD i []) 5) && (decide ((rA (L.getD i []) 6).length = (rA (L.getD i []) 2).length) &&
    decide ((grpSt i (rA (L.getD i []) 5) (rA (L.getD i []) 5).length (sgnAll L i, List.replicate (rA (L.getD i []) 6).length true)).2 = boolsOf (rA (L.getD i []) 6)))
noncomputable def chkL (L : List (List D)) : Bool := decide (L.length ≤ 64) && (List.range L.length).all (keptOk L)
theorem mkN_succ (v : Bool) (N : List (List D)) (k : Nat) (t : List Bool) : mkN v N (k + 1) t = (mkN v N k t).set ((rI (N.getD k []) 0) - 1).toNat v := by simp [mkN, List.range_succ]
theorem mkN_len (v : Bool) (N : List (List D)) (k : Nat) (t : List Bool) : (mkN v N k t).length = t.length := by
  induction k with
  | zero => rfl
  | succ k ih => rw [mkN_succ, List.length_set, ih]
theorem grpSt_succ (i : Nat) (G : List (List D)) (k : Nat) (p) : grpSt i G (k + 1) p = grpStep i (G.getD k []) (grpSt i G k p) := by simp [grpSt, List.range_succ]
theorem grpSt_len (i : Nat) (G : List (List D)) (k : Nat) (p : (ByteArray → Int) × List Bool) : (grpSt i G k p).2.length = p.2.length := by
  induction k with
  | zero => rfl
  | succ k ih => rw [grpSt_succ, grpStep, mkN_len, ih]
theorem sgnAll_succ (L : List (List D)) (k : Nat) : sgnAll L (k + 1) = (grpSt k (rA (L.getD k []) 5) (rA (L.getD k []) 5).length (sgnAll L k, List.replicate (rA (L.getD k []) 6).length true)).1 := by simp [sgnAll, List.range_succ]
theorem sgnG_range (i : Nat) (g : List D) (σ : ByteArray → Int) (h : ∀ s, 0 ≤ σ s ∧ σ s ≤ 65) (hi : i ≤ 64) (s) : 0 ≤ sgnG i g σ s ∧ sgnG i g σ s ≤ 65 := by
  unfold sgnG
  split
  · omega
  · exact h s
/-! ### What objects that may be have -/
theorem grpIn_ok (n : Int) : ∀ (l : List (List D)) (last : Int) (tk tk'), grpIn n l last tk = some tk' → ∀ x ∈ l, last < rI x 0 ∧ rI x 0 ≤ n := by
  intro l
  induction l with
  | nil => intro last tk tk' _ x hx; exact absurd hx (by simp)
  | cons e t ih =>
    intro last tk tk' h x hx
    rw [grpIn] at h
    split at h
    · cases h
    · split at h
      · cases h
      · split at h
        · cases h
        · rcases List.mem_cons.1 hx with rfl | hx
          · omega
          · have := ih _ _ _ h x hx; omega
theorem grpsGo_ok (n : Int) : ∀ (G : List (List D)) (m tk), grpsGo n G m tk = true → ∀ e ∈ G, namedB (rS e 0) = true ∧ ∀ x ∈ rA e 1, 1 ≤ rI x 0 ∧ rI x 0 ≤ n := by
  intro G
  induction G with
  | nil => intro m tk _ e he; exact absurd he (by simp)
  | cons g t ih =>
    intro m tk h e he
    rw [grpsGo] at h
    split at h
    · cases h
    · rename_i h1
      split at h
      · cases h
      · split at h
        · cases h
        · split at h
          · cases h
          · rename_i tk2 h4
            rcases List.mem_cons.1 he with rfl | he
            · refine ⟨?_, fun x hx => ?_⟩
              · have h1 : symE (rS e 0) 1 false 0 0 0 0 = 0 := by simpa using h1
                unfold symE at h1
                split at h1
                · cases h1
                · split at h1
                  · rename_i h6; simp only [Bool.and_eq_true] at h6; exact h6.1
                  · cases h1
              · have := grpIn_ok n _ _ _ _ h4 x hx; omega
            · exact ih _ _ h e he
theorem chk_grp {S Y R G : List (List D)} (h : chkB S Y R G = true) : G.length ≤ 16 ∧ S.length ≤ 16 ∧ ∀ k, k < G.length → (rN (G.getD k [])).size ≤ 32 ∧ ∀ j, j < (rA (G.getD k []) 1).length → 1 ≤ rI ((rA (G.getD k []) 1).getD j []) 0 ∧ rI ((rA (G.getD k []) 1).getD j []) 0 ≤ (S.length : Int) := by
  simp only [chkB, grpsB, Bool.and_eq_true, decide_eq_true_eq] at h
  obtain ⟨⟨⟨⟨h1, _⟩, _⟩, _⟩, h5, h6⟩ := h
  refine ⟨h6, h1, fun k hk => ?_⟩
  have gm : ∀ (l : List (List D)) (k : Nat), k < l.length → l.getD k [] ∈ l := fun l k hk => by rw [List.getD_eq_getElem?_getD, List.getElem?_eq_getElem hk]; exact List.getElem_mem hk
  have hm := gm G k hk
  obtain ⟨a1, a2⟩ := grpsGo_ok _ _ _ _ h5 _ hm
  refine ⟨?_, fun j hj => ?_⟩
  · simp only [namedB, Bool.and_eq_true, decide_eq_true_eq] at a1; exact a1.1.2
  · exact a2 _ (gm _ j hj)
/-! ### What the map holds -/
structure SgnIs (A : DataW Unit) (σ : ByteArray → Int) : Prop where
  im : IsMap A
  at_ : ∀ s : ByteArray, A.atKey (strK s) (.lit (.int .i64 0)) = .lit (.int .i64 (σ s))
theorem SgnIs.start : SgnIs (.map []) (fun _ => 0) := ⟨isMap_empty, fun s => rfl⟩
theorem SgnIs.put {A : DataW Unit} {σ σ' : ByteArray → Int} (h : SgnIs A σ) (nm : ByteArray) (v : Int) (e : ∀ s, σ' s = if nm = s then v else σ s) : SgnIs (A.put (strK nm) (.lit (.int .i64 v))) σ' := by
  refine ⟨h.im.put _ _, fun s => ?_⟩
  rw [e]
  by_cases e : nm = s
  · subst e; rw [if_pos rfl, atKey_put_same h.im (str_isKey _)]
  · rw [if_neg e, atKey_put_other (fun h2 => e (strK_inj h2).symm), h.at_]
theorem SgnIs.congr {A : DataW Unit} {σ σ' : ByteArray → Int} (h : SgnIs A σ) (e : ∀ s, σ s = σ' s) : SgnIs A σ' := ⟨h.im, fun s => by rw [← e]; exact h.at_ s⟩
/-! ### Reading groups -/
structure GrpAt (W : World) (b o : Nat) (g : List D) (v1 : Value) : Prop where
  c0 : W.cell? ⟨b, o, none⟩ = some (.string (g.getD 0 default).toStr)
  c1 : W.cell? ⟨b, o + 1, none⟩ = some v1
  d1 : DRel allS W (.arr [.int .i64]) (.arr (rA g 1)) v1
theorem grp_at {W : World} {G : List (List D)} {b o n cap : Nat} (h : DRel allS W (.arr grpC) (.arr G) (.slice (some (pl b o)) n cap)) (hn : 0 < n) (i : Nat) (hi : i < G.length) : ∃ v1, GrpAt W b (o + i * 2) (G.getD i []) v1 := by
  obtain ⟨_, _, hc⟩ := arr_cells h hn
  obtain ⟨v0, a0, b0⟩ := hc i 0 _ hi rfl
  obtain ⟨v1, a1, b1⟩ := hc i 1 _ hi rfl
  cases b0
  exact ⟨v1, a0, a1, b1.toArr_congr rfl⟩
theorem num_at {W : World} {N : List (List D)} {b o n cap : Nat} (h : DRel allS W (.arr [.int .i64]) (.arr N) (.slice (some (pl b o)) n cap)) (hn : 0 < n) (i : Nat) (hi : i < N.length) : W.cell? ⟨b, o + i, none⟩ = some (.int .i64 (rI (N.getD i []) 0)) := by
  obtain ⟨_, _, hc⟩ := arr_cells h hn
  obtain ⟨v0, a0, b0⟩ := hc i 0 _ hi rfl
  cases b0
  simpa [rI] using a0
theorem beq_dec (a b : Int) : (a == b) = decide (a = b) := by by_cases h : a = b <;> simp [h]
theorem getD_set (t : List Bool) (q j : Nat) (v : Bool) (h : q < t.length) : (t.set q v).getD j false = if j = q then v else t.getD j false := by
  by_cases e : j = q
  · subst e; simp [List.getD_eq_getElem?_getD, List.getElem?_set, h]
  · simp [List.getD_eq_getElem?_getD, List.getElem?_set, e, Ne.symm e]
/-- A cell of `there` is written. -/
theorem there_set {W : World} {bT q n : Nat} {t : List Bool} {v : Bool} {u : Value} (hl : t.length = n) (hq : q < n) (hu : W.cell? ⟨bT, q, none⟩ = some u) (h : ∀ j, j < n → W.cell? ⟨bT, j, none⟩ = some (.bool (t.getD j false)) ∧ W.frozen? ⟨bT, j, none⟩ = false) :
    ∀ j, j < n → (W.setCell ⟨bT, q, none⟩ (.bool v)).cell? ⟨bT, j, none⟩ = some (.bool ((t.set q v).getD j false)) ∧ (W.setCell ⟨bT, q, none⟩ (.bool v)).frozen? ⟨bT, j, none⟩ = false := by
  intro j hj
  rw [getD_set t q j v (by omega), World.frozen?_setCell]
  refine ⟨?_, (h j hj).2⟩
  by_cases e : j = q
  · subst e; rw [if_pos rfl]; exact World.cell?_setCell_same _ _ _ hu
  · rw [if_neg e, World.cell?_setCell_other _ _ _ _ (by intro h2; injection h2 with _ h2; exact e h2.symm)]; exact (h j hj).1
theorem far_set {W : World} {bT q bb : Nat} (h : bb ≠ bT) (u : Value) (j : Nat) : (W.setCell ⟨bT, q, none⟩ u).cell? ⟨bb, j, none⟩ = W.cell? ⟨bb, j, none⟩ :=
  World.cell?_setCell_other _ _ _ _ (by intro h2; injection h2 with h2 _; exact h h2.symm)
theorem mk_set {N : List (List D)} {m q : Nat} {t t' : List Bool} {x y : Int} (h : t' = mkN (decide (x = y)) N m t) (hq : rI (N.getD m []) 0 = (q : Int) + 1) : t'.set q (x == y) = mkN (decide (x = y)) N (m + 1) t := by
  rw [mkN_succ, ← h, hq, beq_dec]
  have e1 : ((q : Int) + 1 - 1).toNat = q := by omega
  rw [e1]
/-! ### The calls -/
theorem below_full {n : Nat} {W W' : World} (h : Go.RowKit.Below n W W') (hn : W.heap.size ≤ n) : W.grownBy W' none := ⟨h.os, h.tape, h.output, h.size, fun i hi _ => h.block i (Nat.lt_of_lt_of_le hi hn)⟩
theorem chk_calls (W : World) (hG : GlobW W) (S Y R G : List (List D)) (v2 v3 v4 v5 : Value) (d2 : DRel allS W (.arr secC) (.arr S) v2) (d3 : DRel allS W (.arr symC) (.arr Y) v3) (d4 : DRel allS W (.arr relC) (.arr R) v4) (d5 : DRel allS W (.arr grpC) (.arr G) v5)
    (hp : pChkO [.agg [.arr secC S, .arr symC Y, .arr relC R, .arr grpC G]] = true) :
    Calls Tryd.prog 25 #[.agg #[v2, v3, v4, v5]] W fun e W' => e = .returned (.int .i64 (if chkB S Y R G = true then 0 else 8)) ∧ Go.RowKit.Below W.heap.size W W' := by
  refine (calls_of_con (con_chkO [.agg [.arr secC S, .arr symC Y, .arr relC R, .arr grpC G]] _ hp rfl) W _ rfl hG (fun i u hi => ?_)).mono fun e W' ⟨c, g', he, hv, hb, _⟩ => ?_
  · match i with
    | 0 =>
      simp at hi; subst hi
      refine ⟨_, rfl, .agg _ _ _ rfl (fun i v h => ?_) (fun i v c h1 h2 => ?_)⟩
      · match i with
        | 0 | 1 | 2 | 3 => simp at h; subst h; trivial
        | i + 4 => simp at h
      · match i with
        | 0 => simp at h1 h2; subst h1; subst h2; exact .arr _ _ _ _ d2
        | 1 => simp at h1 h2; subst h1; subst h2; exact .arr _ _ _ _ d3
        | 2 => simp at h1 h2; subst h1; subst h2; exact .arr _ _ _ _ d4
        | 3 => simp at h1 h2; subst h1; subst h2; exact .arr _ _ _ _ d5
        | i + 4 => simp at h1
    | i + 1 => simp at hi
  · rw [val_inv hv] at he
    exact ⟨he, hb⟩
theorem bools_drel (W : World) (b cap : Nat) (p : Option Addr) (t : List Bool) (n : Nat) (hn : t.length = n) (hp : (p = some (pl b 0) ∧ n ≤ cap ∧ cap ≤ maxLen) ∨ (p = none ∧ n = 0 ∧ cap = 0)) (hc : ∀ j, j < n → W.cell? ⟨b, j, none⟩ = some (.bool (t.getD j false))) :
    DRel allS W (.arr bls) (.arr (t.map fun x => [.bool x])) (.slice p n cap) := by
  subst hn
  rcases hp with ⟨rfl, h1, h2⟩ | ⟨rfl, h0, rfl⟩
  · have e : t.length = (D.arr (t.map fun x => [D.bool x])).toArr.length := by simp [D.toArr]
    rw [e]
    refine .arr bls _ b 0 cap (fun i _ => .bool (t.getD i false)) (by simpa [D.toArr] using h1) h2 (fun i j hi hj => ?_) (fun i j c hi hj => ?_)
    · have hj : j = 0 := by simpa using hj
      subst hj
      simp [D.toArr] at hi
      exact ⟨trivial, by simpa using hc i hi⟩
    · have hj0 : j = 0 := by have := (List.getElem?_eq_some_iff.1 hj).1; simpa using this
      subst hj0
      simp at hj
      subst hj
      simp [D.toArr] at hi
      have : (((D.arr (t.map fun x => [D.bool x])).toArr.getD i []).getD 0 default) = .bool (t.getD i false) := by
        simp [D.toArr, List.getD_eq_getElem?_getD, List.getElem?_eq_getElem hi]
      rw [this]
      exact .bool _
  · have : t = [] := List.length_eq_zero_iff.1 h0
    subst this
    exact .nil _ _ _ rfl
theorem eqb_calls (W : World) (hG : GlobW W) (X Y : List (List D)) (v1 v2 : Value) (d1 : DRel allS W (.arr bls) (.arr X) v1) (d2 : DRel allS W (.arr bls) (.arr Y) v2) (hl : X.length ≤ 9223372036854775806) :
    Calls Tryd.prog 27 #[v1, v2] W fun e W' => e = .returned (.bool (decide (boolsOf X = boolsOf Y))) ∧ Go.RowKit.Below W.heap.size W W' := by
  refine (calls_of_con (con_eqb [.arr [.bool] X, .arr [.bool] Y] _ (by simpa [pEqb] using hl) rfl) W _ rfl hG (fun i u hi => ?_)).mono fun e W' ⟨c, g', he, hv, hb, _⟩ => ?_
  · match i with
    | 0 => simp at hi; subst hi; exact ⟨_, rfl, .arr _ _ _ _ d1⟩
    | 1 => simp at hi; subst hi; exact ⟨_, rfl, .arr _ _ _ _ d2⟩
    | i + 2 => simp at hi
  · rw [val_inv hv] at he
    exact ⟨he, hb⟩
theorem uni_inv {g : Gh} {w : World} {s : Slot} {cs : List CT} {xs : List (List D)} {c : Value} (h : VRel g w s (.uni cs xs) c) : UniRel g w s cs xs c := by
  generalize hv : V.uni cs xs = v at h
  cases h <;> first | (injection hv; done) | skip
  all_goals first | (cases hv; assumption) | cases hv
theorem rep_calls (W : World) (hG : GlobW W) (b0 n : Nat) (hn : n ≤ 16) (h1 : W.cell? ⟨b0, 0, none⟩ = some (.bool true)) :
    Calls Tryd.prog 26 #[.slice (some ⟨b0, 0, none⟩) 1 1, .int .i64 n] W fun e W' => ∃ p b cap, e = .returned (.slice p n cap) ∧ ((p = some (pl b 0) ∧ n ≤ cap ∧ cap ≤ maxLen) ∨ (p = none ∧ n = 0 ∧ cap = 0)) ∧ W.heap.size ≤ b ∧ (∀ j, j < n → W'.cell? ⟨b, j, none⟩ = some (.bool true) ∧ W'.frozen? ⟨b, j, none⟩ = false) ∧ Go.RowKit.Below W.heap.size W W' := by
  have hd : DRel allS W (.arr bls) (.arr [[.bool true]]) (.slice (some ⟨b0, 0, none⟩) 1 1) := bools_drel W b0 1 _ [true] 1 rfl (.inl ⟨rfl, Nat.le_refl _, by simp [maxLen]⟩) (fun j hj => by
    have : j = 0 := by omega
    subst this; exact h1)
  refine (calls_of_con (con_rep [.arr [.bool] [[.bool true]], .val (.int .i64 n)] _ (by simp [pRep]; omega) rfl) W _ rfl hG (fun i u hi => ?_)).mono fun e W' ⟨c, g', he, hv, hb, hev⟩ => ?_
  · match i with
    | 0 => simp at hi; subst hi; exact ⟨_, rfl, .arr _ _ _ _ hd⟩
    | 1 => simp at hi; subst hi; exact ⟨_, rfl, .val _ _⟩
    | i + 2 => simp at hi
  · rcases uni_inv hv with ⟨e0, e1⟩ | ⟨b, cap, cur, ee, q0, q1, q2, q3, q4, ⟨q5, q6⟩, q7⟩
    · have hn0 : n = 0 := by simpa using e0
      subst hn0
      refine ⟨none, W.heap.size, 0, by rw [he, e1]; rfl, .inr ⟨rfl, rfl, rfl⟩, Nat.le_refl _, fun j hj => absurd hj (by omega), hb⟩
    · simp only [List.length_replicate, Int.toNat_natCast] at q0 q1 q7
      refine ⟨some (pl b 0), b, cap, by rw [he, q0], .inl ⟨rfl, q1, q2⟩, Nat.le_of_not_lt fun hlt => ?_, fun j hj => ?_, hb⟩
      · have := (hev.free b hlt rfl).2
        rw [this] at q3; cases q3
      · obtain ⟨v, a1, a2⟩ := q7 j 0 .bool hj rfl
        have e3 : (((List.replicate n [D.bool true]).getD j []).getD 0 default) = .bool true := by simp [List.getD_eq_getElem?_getD, hj]
        rw [e3] at a2
        cases a2
        simp only [List.length_cons, List.length_nil, Nat.zero_add, Nat.mul_one, Nat.add_zero] at a1 q5
        have hjs : j < cur.size := by omega
        refine ⟨?_, ?_⟩
        · simp only [World.cell?, q4]; simpa [D.toBool] using a1
        · simp only [World.frozen?, q4]; exact q6.at j hjs
end Go.Proofs.YtacfehneeanlgaaDoor.Ev
