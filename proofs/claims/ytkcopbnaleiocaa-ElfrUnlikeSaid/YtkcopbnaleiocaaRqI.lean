/- What a reader holds while it reads: bounds. -/
import Derived.Test.YtkcopbnaleiocaaRqD
import Derived.Test.YtkcopbnaleiocaaRpC
import Derived.Test.YtkcopbnaleiocaaWrk
namespace Go.Proofs.Ytkcopbnaleiocaa.Ev
open Go
set_option linter.unusedVariables false
set_option linter.unusedSimpArgs false
theorem allGo_in (place : Int) : ∀ (d i : Nat) (r : Rd), (allGo place d i r).h.length ≤ r.h.length + d ∧ (allGo place d i r).b = r.b ∧ (allGo place d i r).s = r.s ∧ (allGo place d i r).y = r.y ∧ (allGo place d i r).l = r.l ∧ (allGo place d i r).g = r.g
  | 0, i, r => ⟨Nat.le_refl _, rfl, rfl, rfl, rfl, rfl⟩
  | d + 1, i, r => by
    unfold allGo
    split
    · obtain ⟨h1, h2, h3, h4, h5, h6⟩ := allGo_in place d (i + 1) (allOne place i r)
      refine ⟨?_, h2, h3, h4, h5, h6⟩
      have : (allOne place i r).h.length = r.h.length + 1 := by simp [allOne]
      omega
    · exact ⟨by omega, rfl, rfl, rfl, rfl, rfl⟩
theorem allGo_bad (place : Int) (d i : Nat) (r : Rd) (h : r.e ≠ 0) : allGo place d i r = r := by
  cases d with
  | zero => rfl
  | succ d => rw [allGo, if_neg h]
theorem allF_in {b : List (List D)} (hb : bytesIn b = true) : (allF (rd0 b)).h.length ≤ 100 ∧ (allF (rd0 b)).b = b ∧ (allF (rd0 b)).s = [] ∧ (allF (rd0 b)).y = [] ∧ (allF (rd0 b)).l = [] ∧ (allF (rd0 b)).g = [] := by
  have h2 := getV2 hb
  obtain ⟨a1, a2, a3, a4, a5, a6⟩ := allGo_in (getV b 40 8) (getV b 60 2).toNat 0 { rd0 b with e := allE b 0 }
  refine ⟨?_, a2, a3, a4, a5, a6⟩
  by_cases hm : getV b 60 2 > 100
  · have he : allE b 0 ≠ 0 := by
      unfold allE
      split
      · decide
      · first | decide | (rw [if_pos hm]; decide)
    show (allGo (getV b 40 8) (getV b 60 2).toNat 0 { rd0 b with e := allE b 0 }).h.length ≤ 100
    rw [allGo_bad _ _ _ _ he]
    exact Nat.zero_le _
  · have : ({ rd0 b with e := allE b 0 } : Rd).h.length = 0 := rfl
    show (allGo (getV b 40 8) (getV b 60 2).toNat 0 { rd0 b with e := allE b 0 }).h.length ≤ 100
    omega
structure RI (k : Nat) (b h : List (List D)) (r : Rd) : Prop where
  b : r.b = b
  h : r.h = h
  s : r.s.length ≤ k
  y : r.y.length ≤ 2731 * k
  l : r.l.length ≤ 2731 * k
  g : r.g.length ≤ k
  rel : relsOk r.l = true
  pos : posOk 1 r.y = true
  gl : lensOk 1 65536 r.g = true
theorem grpR_len (x : List (List D)) : ∀ (d : Nat) (a e : Int) (l : List (List D)), (grpR x d a e l).1.length ≤ l.length + d
  | 0, a, e, l => Nat.le_refl _
  | d + 1, a, e, l => by
    unfold grpR
    split
    · have := grpR_len x d (a + 4) (numE x a 4 e) (l ++ [[.int (getV x a 4)]])
      rw [List.length_append] at this
      simp only [List.length_cons, List.length_nil] at this
      omega
    · show l.length ≤ _; omega
theorem wrap_u8 (n : Int) : 0 ≤ IntKind.wrap .u8 n ∧ IntKind.wrap .u8 n ≤ 255 := by
  simp [IntKind.wrap, IntKind.bits, IntKind.signed]
  omega
theorem relOne_ok (x : List (List D)) (i : Int) : (decide (0 ≤ rI (relOne x i) 2) && decide (rI (relOne x i) 2 ≤ 255)) = true := by
  have h := wrap_u8 (getV x 8 4)
  have e : rI (relOne x i) 2 = okI (relRe x) (relRk x) := rfl
  rw [e]
  unfold okI
  split
  · exact andT (decT h.1) (decT h.2)
  · rfl
theorem all_snoc {α : Type} {p : α → Bool} {l : List α} {a : α} (h : l.all p = true) (ha : p a = true) : (l ++ [a]).all p = true := by
  rw [List.all_append, h, List.all_cons, ha]; rfl
theorem relR_in (info : Int) : ∀ (d : Nat) (x : List (List D)) (e : Int) (l : List (List D)), relsOk l = true → relsOk (relR info d x e l).1 = true ∧ 24 * (relR info d x e l).1.length ≤ 24 * l.length + x.length
  | 0, x, e, l, h => ⟨h, Nat.le_add_right _ _⟩
  | d + 1, x, e, l, h => by
    unfold relR
    split
    · rename_i hx
      have := relR_in info d (x.drop 24) (if relRe (x.take 24) ≠ 0 then relRe (x.take 24) else e) (l ++ [relOne (x.take 24) info]) (all_snoc h (relOne_ok _ _))
      rw [List.length_append, List.length_drop] at this
      simp only [List.length_cons, List.length_nil] at this
      exact ⟨this.1, by omega⟩
    · exact ⟨h, by show 24 * l.length ≤ _; omega⟩
theorem symRe_len {x : List (List D)} (h : symRe x = 0) : x.length = 24 := by
  unfold symRe at h
  split at h
  · cases h
  · rename_i hn; simpa using hn
theorem symRb_pos {x : List (List D)} (hx : bytesIn x = true) (h : symRe x = 0) : 0 ≤ symRb x := by
  have := bytesIn_cell hx (i := 4) (by rw [symRe_len h]; omega)
  exact Int.fdiv_nonneg this.1 (by omega)
theorem symR_in (x : List (List D)) (hx : bytesIn x = true) : ∀ (d : Nat) (a : Int) (r : Rd), posOk 1 r.y = true → (symR x d a r).b = r.b ∧ (symR x d a r).h = r.h ∧ (symR x d a r).s = r.s ∧ (symR x d a r).l = r.l ∧ (symR x d a r).g = r.g ∧ posOk 1 (symR x d a r).y = true ∧ (24 * ((symR x d a r).y.length : Int) ≤ 24 * r.y.length ∨ 24 * ((symR x d a r).y.length : Int) ≤ 24 * r.y.length + (x.length - a))
  | 0, a, r, h => ⟨rfl, rfl, rfl, rfl, rfl, h, .inl (Int.le_refl _)⟩
  | d + 1, a, r, h => by
    unfold symR
    split
    · rename_i hc
      split
      · exact ⟨rfl, rfl, rfl, rfl, rfl, h, .inl (Int.le_refl _)⟩
      · rename_i hr
        have hr : symRe (cut x a (a + 24)) = 0 := by simpa using hr
        have hp := symRb_pos (bytesIn_cut hx _ _) hr
        obtain ⟨h1, h2, h3, h4, h5, h6, h7⟩ := symR_in x hx d (a + 24) { r with y := r.y ++ [symOne (cut x a (a + 24)) (nameS r (r.h.length - 2) (getV (cut x a (a + 24)) 0 4))], e := nameE r (r.h.length - 2) (getV (cut x a (a + 24)) 0 4) } (all_snoc h (decT hp))
        refine ⟨h1, h2, h3, h4, h5, h6, .inr ?_⟩
        simp only [List.length_append, List.length_cons, List.length_nil] at h7
        omega
    · exact ⟨rfl, rfl, rfl, rfl, rfl, h, .inl (Int.le_refl _)⟩
theorem part_in {b h : List (List D)} (hb : bytesIn b = true) (hl : b.length ≤ 65536) {k : Nat} {r : Rd} (hr : RI k b h r) (hd : Hd) : RI (k + 1) b h (partR r hd) := by
  have hX : bytesIn (partX r hd) = true := bytesIn_cutV (by rw [hr.b]; exact hb) _ _ _
  have hXl : (partX r hd).length ≤ 65536 := Nat.le_trans (cutV_len _ _ _) (by rw [hr.b]; exact hl)
  have := hr.s; have := hr.y; have := hr.l; have := hr.g
  unfold partR
  split
  · exact ⟨hr.b, hr.h, by simp only [List.length_append, List.length_cons, List.length_nil]; omega, Nat.le_trans hr.y (by omega), Nat.le_trans hr.l (by omega), Nat.le_trans hr.g (by omega), hr.rel, hr.pos, hr.gl⟩
  · split
    · exact ⟨hr.b, hr.h, by simp only [List.length_append, List.length_cons, List.length_nil]; omega, Nat.le_trans hr.y (by omega), Nat.le_trans hr.l (by omega), Nat.le_trans hr.g (by omega), hr.rel, hr.pos, hr.gl⟩
    · split
      · refine ⟨hr.b, hr.h, Nat.le_trans hr.s (by omega), Nat.le_trans hr.y (by omega), Nat.le_trans hr.l (by omega), by simp only [List.length_append, List.length_cons, List.length_nil]; omega, hr.rel, hr.pos, all_snoc hr.gl (decT ?_)⟩
        have := grpR_len (partX r hd) (partX r hd).length 4 (partC r hd).e []
        simp only [List.length_nil] at this
        show (grpR (partX r hd) (partX r hd).length 4 (partC r hd).e []).1.length ≤ 65536
        omega
      · split
        · obtain ⟨h1, h2⟩ := relR_in hd.info (partX r hd).length (partX r hd) (partC r hd).e r.l hr.rel
          exact ⟨hr.b, hr.h, Nat.le_trans hr.s (by omega), Nat.le_trans hr.y (by omega), by show (relR hd.info (partX r hd).length (partX r hd) (partC r hd).e r.l).1.length ≤ _; omega, Nat.le_trans hr.g (by omega), h1, hr.pos, hr.gl⟩
        · split
          · obtain ⟨h1, h2, h3, h4, h5, h6, h7⟩ := symR_in (partX r hd) hX (partX r hd).length 24 (partC r hd) hr.pos
            have h7 : 24 * ((symR (partX r hd) (partX r hd).length 24 (partC r hd)).y.length : Int) ≤ 24 * r.y.length ∨ 24 * ((symR (partX r hd) (partX r hd).length 24 (partC r hd)).y.length : Int) ≤ 24 * r.y.length + ((partX r hd).length - 24) := h7
            exact ⟨h1.trans hr.b, h2.trans hr.h, by rw [h3]; exact Nat.le_trans hr.s (by omega), by omega, by rw [h4]; exact Nat.le_trans hr.l (by omega), by rw [h5]; exact Nat.le_trans hr.g (by omega), by rw [h4]; exact hr.rel, h6, by rw [h5]; exact hr.gl⟩
          · exact ⟨hr.b, hr.h, Nat.le_trans hr.s (by omega), Nat.le_trans hr.y (by omega), Nat.le_trans hr.l (by omega), Nat.le_trans hr.g (by omega), hr.rel, hr.pos, hr.gl⟩
theorem parts_in {b h : List (List D)} (hb : bytesIn b = true) (hl : b.length ≤ 65536) : ∀ (d i : Nat) (r : Rd), RI i b h r → ∃ k, k ≤ i + d ∧ RI k b h (partsGo d i r)
  | 0, i, r, hr => ⟨i, Nat.le_refl _, hr⟩
  | d + 1, i, r, hr => by
    unfold partsGo
    split
    · obtain ⟨k, h1, h2⟩ := parts_in hb hl d (i + 1) _ (part_in hb hl hr (hdRow (r.h.getD i [])))
      exact ⟨k, by omega, h2⟩
    · exact ⟨i, by omega, hr⟩
theorem rd_start {b : List (List D)} (hb : bytesIn b = true) : RI 1 b (allF (rd0 b)).h (allF (rd0 b)) := by
  obtain ⟨h1, h2, h3, h4, h5, h6⟩ := allF_in hb
  exact ⟨h2, rfl, by rw [h3]; simp, by rw [h4]; simp, by rw [h5]; simp, by rw [h6]; simp, by rw [h5]; rfl, by rw [h4]; rfl, by rw [h6]; rfl⟩
theorem rd_end {b : List (List D)} (hb : bytesIn b = true) (hl : b.length ≤ 65536) : ∃ k, k ≤ 101 ∧ RI k b (allF (rd0 b)).h (readF b) := by
  obtain ⟨k, h1, h2⟩ := parts_in hb hl (allF (rd0 b)).h.length 1 _ (rd_start hb)
  have := (allF_in hb).1
  exact ⟨k, by omega, h2⟩
theorem lens_mono {j n m : Nat} {G : List (List D)} (h : lensOk j n G = true) (hm : n ≤ m) : lensOk j m G = true := List.all_eq_true.2 fun e he => by
  have := List.all_eq_true.1 h e he
  simp only [decide_eq_true_eq] at this ⊢
  omega
/-- What is read may be handed on. -/
theorem rd_pre {k : Nat} {b h : List (List D)} {r : Rd} (hr : RI k b h r) (hk : k ≤ 101) : (decide (r.s.length ≤ 1048576) && decide (r.y.length ≤ 1048576) && relsOk r.l && decide (r.g.length ≤ 1048576) && lensOk 1 1048576 r.g && (!chkB r.s r.y r.l r.g || wrOk r.s r.y r.l r.g)) = true := by
  have := hr.s; have := hr.y; have := hr.g
  refine andT (andT (andT (andT (andT (decT (by omega)) (decT (by omega))) hr.rel) (decT (by omega))) (lens_mono hr.gl (by omega))) ?_
  cases hc : chkB r.s r.y r.l r.g with
  | false => rfl
  | true => rw [wrOk_of hc hr.pos]; rfl
end Go.Proofs.Ytkcopbnaleiocaa.Ev
