/- What a slice of which there is no other view may turn to: one that grows, one that is written in place. -/
import Derived.Test.YtkcopbnaleiocaaOp1
namespace Go.Proofs.Ytkcopbnaleiocaa.Ev
open Go
set_option linter.unusedVariables false
set_option linter.unusedSimpArgs false
def Gh.set (g : Gh) (b : Nat) (p : Perm) : Gh := { g with own := fun b' => if b' = b then p else g.own b' }
def Gh.setAt (g : Gh) (k : Key) (b : Nat) : Gh := { g with at_ := fun k' => if k' = k then some b else g.at_ k' }
section
variable {g0 g : Gh} {w0 w : World} {σ τ : St} {a : Act} {N : Nat}
theorem own_lt (h : Rep g0 w0 g w σ a N) {b : Nat} {p : Perm} (ho : g.own b = p) (hp : p ≠ .free) : b < w.heap.size :=
  Nat.lt_of_not_le fun hle => hp (by rw [← ho]; exact h.fresh b hle)
theorem VRel.plain_mono {g' : Gh} {w' : World} (hst : ∀ b o c, g.stable b o → w.cell? (pl b o) = some c → g'.stable b o ∧ w'.cell? (pl b o) = some c) (hat : ∀ k b, g.at_ k = some b → g'.at_ k = some b) (hn : ∀ b r l, Slot.under .none r → g.own b ≠ .arr r l)
    {s : Slot} {v : V} {c : Value} (hp : v.plain) (hv : VRel g w s v c) : VRel g' w' s v c := by
  cases hv with
  | val => exact .val _ _
  | arr _ _ _ _ h => exact .arr _ _ _ _ (h.mono hst)
  | own => exact hp.elim
  | ptr _ _ _ _ h hk => exact .ptr _ _ _ _ (hat _ _ h) hk
  | mp _ _ _ h => exact .mp _ _ _ (hat _ _ h)
  | eptr _ _ _ _ _ _ _ _ hi h => exact .eptr _ _ _ _ _ _ _ _ hi (h.mono hst)
  | uni => exact hp.elim
  | slen => exact .slen _ _ _ _
  | ms _ _ _ _ _ _ _ _ h hn ho hl hm => exact .ms _ _ _ _ _ _ _ _ (hat _ _ h) (hat _ _ hn) ho hl hm
  | mptr _ _ _ _ _ _ _ h hn hi => exact .mptr _ _ _ _ _ _ _ (hat _ _ h) (hat _ _ hn) hi
  | agg _ _ _ hl hf h => exact .agg _ _ _ hl hf (fun i v c hv hc => (h i v c hv hc).mono hst hat (fun r b l hu ho => absurd ho (hn b r l hu)) (fun r b l hu ho => absurd ho (hn b r l hu)))
  | tup => exact hp.elim
  | sarr _ _ _ _ _ hl hm hf hc h => exact (VRel.sarr (g := g) (w := w) s _ _ _ _ hl hm hf hc h).sarr_any hst hat hn
  | sptr _ _ _ _ _ hi h => exact (VRel.sptr (g := g) (w := w) s _ _ _ _ hi h).sptr_any hst hat hn
/-- A slice grows in its own block. -/
theorem Rep.change (h : Rep g0 w0 g w σ a N) {s d b L L' : Nat} {w' : World} (ho : g.own b = .arr (.tmp s) L) (s1 : w'.os = w.os) (s2 : w'.tape = w.tape) (s3 : w'.output = w.output) (s4 : w'.heap.size = w.heap.size) (hoth : ∀ b', b' ≠ b → w'.heap[b']? = w.heap[b']?)
    (hsame : ∀ o c, o < L → w.cell? (pl b o) = some c → w'.cell? (pl b o) = some c) (hLL : L ≤ L') (hs : ∀ u, σ.tmp s = some u → u.plain) :
    Rep g0 w0 (g.set b (.arr (.tmp d) L')) w' σ a N ∧ (∀ b' o c, g.stable b' o → w.cell? (pl b' o) = some c → (g.set b (.arr (.tmp d) L')).stable b' o ∧ w'.cell? (pl b' o) = some c) := by
  have hown : ∀ b', b' ≠ b → (g.set b (.arr (.tmp d) L')).own b' = g.own b' := fun b' hb' => by simp [Gh.set, hb']
  have hst : ∀ b' o c, g.stable b' o → w.cell? (pl b' o) = some c → (g.set b (.arr (.tmp d) L')).stable b' o ∧ w'.cell? (pl b' o) = some c := by
    intro b' o c h1 h2
    by_cases e' : b' = b
    · subst e'
      unfold Gh.stable at h1 ⊢
      rw [ho] at h1
      have h1' : o < L := h1
      exact ⟨by simp only [Gh.set, if_true]; exact Nat.lt_of_lt_of_le h1' hLL, hsame o c h1' h2⟩
    · exact ⟨by unfold Gh.stable at h1 ⊢; rw [hown b' e']; exact h1, by rw [cell_of_heap (hoth b' e')]; exact h2⟩
  have mv : ∀ r v c, (v.plain ∨ ¬ Slot.under r (.tmp s)) → VRel g w r v c → VRel (g.set b (.arr (.tmp d) L')) w' r v c := by
    intro r v c hp hv
    rcases hp with hp | hp
    · exact hv.plain_mono hst (fun _ _ h => h) h.nones hp
    · refine hv.mono hst (fun _ _ h => h) (fun r' b' l hu h1 => ?_) (fun r' b' l hu h1 => absurd h1 (h.nones b' r' l hu))
      have : b' ≠ b := fun e' => by
        subst e'
        rw [ho] at h1
        cases h1
        exact hp hu
      exact ⟨by rw [hown b' this]; exact h1, hoth b' this⟩
  have hunder : ∀ t, t ≠ s → ¬ Slot.under (.tmp t) (.tmp s) := fun t ht hu => by
    have := Slot.under_root hu
    simp [Slot.root] at this
    exact absurd this.symm ht
  refine ⟨⟨fun t v hv => ?_, fun k cs hk => ?_, fun b' hb' => ?_, h.base, ?_, h.defers, h.size, h.live, fun b' r l hu h1 => ?_⟩, hst⟩
  · obtain ⟨c, h1, h2⟩ := h.env t v hv
    refine ⟨c, h1, mv _ _ _ ?_ h2⟩
    by_cases e' : t = s
    · subst e'; exact .inl (hs v hv)
    · exact .inr (hunder t e')
  · refine (h.box k cs hk).mono hst (fun b1 h1 h2 => ?_) (fun _ h => h) (fun i v c _ _ hv => mv _ _ _ (.inr fun hu => ?_) hv)
    · have : b1 ≠ b := fun e' => by subst e'; rw [ho] at h2; cases h2
      exact ⟨h1, by rw [hown b1 this]; exact h2, hoth b1 this⟩
    have := Slot.under_root hu
    simp [Slot.root] at this
  · rw [s4] at hb'
    have : b' ≠ b := fun e' => by subst e'; have := own_lt h ho (by simp); omega
    rw [hown b' this]
    exact h.fresh b' hb'
  · refine h.evol.trans h.base ⟨s1, s2, s3, by rw [s4]; exact Nat.le_refl _, fun b' hb' h1 => ?_, fun b' l h1 => ?_, fun b' r l h1 => ?_, fun b' k h1 => ?_, fun _ _ h => h⟩
    · have : b' ≠ b := fun e' => by subst e'; rw [ho] at h1; cases h1
      exact ⟨hoth b' this, by rw [hown b' this]; exact h1⟩
    · have : b' ≠ b := fun e' => by subst e'; rw [ho] at h1; cases h1
      exact ⟨hoth b' this, by rw [hown b' this]; exact h1⟩
    · by_cases e' : b' = b
      · subst e'
        rw [ho] at h1
        cases h1
        refine ⟨fun q c hq hc => (hst b' q c (by unfold Gh.stable; rw [ho]; exact hq) hc).2, .inr (.inr ⟨.tmp d, L', by simp [Gh.set], hLL⟩)⟩
      · exact ⟨fun q c _ hc => by rw [cell_of_heap (hoth b' e')]; exact hc, .inr (.inr ⟨r, l, by rw [hown b' e']; exact h1, Nat.le_refl _⟩)⟩
    · have : b' ≠ b := fun e' => by subst e'; rw [ho] at h1; cases h1
      rw [hown b' this]; exact h1
  · by_cases e' : b' = b
    · subst e'
      simp only [Gh.set, if_true] at h1
      cases h1
      have := Slot.under_root hu
      simp [Slot.root] at this
    · rw [hown b' e'] at h1
      exact h.nones b' r l hu h1
theorem CT_same_eq : ∀ (n : Nat) (c d : CT), CT.same n c d = true → c = d
  | 0, c, d, h => by cases c <;> cases d <;> simp [CT.same] at h
  | n + 1, c, d, h => by
    have go : ∀ cs ds, CT.same.go n cs ds = true → cs = ds := by
      intro cs
      induction cs with
      | nil => intro ds h; cases ds <;> simp [CT.same.go] at h; rfl
      | cons c cs ih =>
        intro ds h
        cases ds with
        | nil => simp [CT.same.go] at h
        | cons d ds =>
          simp only [CT.same.go, Bool.and_eq_true] at h
          rw [CT_same_eq n c d h.1, ih ds h.2]
    cases c <;> cases d <;> simp [CT.same] at h <;> try rfl
    · rw [h]
    · rw [go _ _ h]
theorem sameCTs_eq : ∀ (cs ds : List CT), sameCTs cs ds = true → cs = ds
  | [], [], _ => rfl
  | c :: cs, d :: ds, h => by
    simp only [sameCTs, Bool.and_eq_true] at h
    rw [CT_same_eq 9 c d h.1, sameCTs_eq cs ds h.2]
  | [], _ :: _, h => by simp [sameCTs] at h
  | _ :: _, [], h => by simp [sameCTs] at h


/-- A state that tells alike. -/
theorem Rep.same (h : Rep g0 w0 g w σ a N) (ht : ∀ t, σ.tmp t = τ.tmp t) (hk : ∀ k, σ.cells k = τ.cells k) : Rep g0 w0 g w τ a N :=
  ⟨fun t v hv => h.env t v (by rw [ht]; exact hv), fun k cs hc => h.box k cs (by rw [hk]; exact hc), h.fresh, h.base, h.evol, h.defers, h.size, fun k b hb => by obtain ⟨cs, hc⟩ := h.live k b hb; exact ⟨cs, by rw [← hk]; exact hc⟩, h.nones⟩
theorem Rep.setTmp (h : Rep g0 w0 g w σ a N) {s : Nat} {v : V} {c : Value} (hc : a.tmps[s]? = some c) (hv : VRel g w (.tmp s) v c) : Rep g0 w0 g w (σ.put (.tmp s (some v))) a N := by
  refine ⟨fun t u hu => ?_, fun k cs hk => h.box k cs (by simpa using hk), h.fresh, h.base, h.evol, h.defers, h.size, fun k b hb => by simpa using h.live k b hb, h.nones⟩
  simp only [St.tmp_put] at hu
  by_cases e : s = t
  · subst e
    simp only [if_true, Option.some.injEq] at hu
    subst hu
    exact ⟨c, hc, hv⟩
  · simp only [e, if_false] at hu
    exact h.env t u hu
/-- It may have other views from now on. -/
theorem Rep.raise (h : Rep g0 w0 g w σ a N) {s : Nat} {cts : List CT} {xs : List (List D)} (hs : σ.tmp s = some (.uni cts xs)) : ∃ g', Rep g0 w0 g' w (σ.put (.tmp s (some (.own cts xs)))) a N := by
  obtain ⟨c, hc, hv⟩ := h.env s _ hs
  have h1 := h.dropTmp s
  have fin : ∀ g', Rep g0 w0 g' w (σ.put (.tmp s none)) a N → VRel g' w (.tmp s) (.own cts xs) c → ∃ g', Rep g0 w0 g' w (σ.put (.tmp s (some (.own cts xs)))) a N := fun g' hg hv =>
    ⟨g', (hg.setTmp hc hv).same (fun t => by simp only [St.tmp_put]; split <;> rfl) (fun k => by simp only [St.cells_put_tmp])⟩
  cases hv with
  | uni _ _ _ _ hu =>
    rcases hu with ⟨rfl, rfl⟩ | ⟨b, cap, cur, e, rfl, h2, h3, h4, h5, h6, h7⟩
    · exact fin g h1 (.own _ _ _ _ (.nil _ _ _ rfl) (.inl rfl))
    · obtain ⟨hr, hst⟩ := h1.change (s := s) (d := s) (L' := xs.length * cts.length) (w' := w) h4 rfl rfl rfl rfl (fun _ _ => rfl) (fun o c ho => absurd ho (Nat.not_lt_zero _)) (Nat.zero_le _) (fun u hu => by simp at hu)
      have hle : xs.length * cts.length ≤ cur.size := by rw [h6.1]; exact Nat.mul_le_mul_right _ h2
      have hlt : ∀ i j, i < xs.length → j < cts.length → i * cts.length + j < xs.length * cts.length := fun i j hi hj => by
        have := Nat.mul_le_mul_right cts.length (show i + 1 ≤ xs.length from hi)
        rw [Nat.add_mul] at this
        omega
      refine fin _ hr (.own _ _ _ _ (DRel.arr cts (.arr xs) b 0 cap (fun i j => (cur[i * cts.length + j]?).getD Go.undef) h2 h3 (fun i j hi hj => ⟨?_, ?_⟩) (fun i j ct hi hj => ?_)) (.inr (.inr ⟨b, cap, cur, e, rfl, h2, h3, by simp [Gh.set], h5, h6⟩)))
      · have := hlt i j hi hj
        simp only [Gh.stable, Gh.set, if_true, Perm.stable]
        omega
      · have := hlt i j hi hj
        have hlt2 : i * cts.length + j < cur.size := by omega
        simp only [World.cell?, h5, Nat.zero_add]
        simp [Array.getElem?_eq_getElem hlt2]
      · obtain ⟨v, q1, q2⟩ := h7 i j ct hi hj
        rw [q1]
        exact q2.mono hst
/-- It is written in place from now on. -/
theorem Rep.boxUni (h : Rep g0 w0 g w σ a N) {s : Nat} {cts : List CT} {xs : List (List D)} (hs : σ.tmp s = some (.uni cts xs)) (hf : σ.cells (.mp s) = none) (hpos : 0 < xs.length) :
    ∃ g' c, a.tmps[s]? = some c ∧ (∀ sl, VRel g' w sl (.ms s cts 0 xs.length) c) ∧ Rep g0 w0 g' w ((σ.put (.box (.mp s) [.arr cts xs, .val Go.undef])).put (.tmp s (some (.ms s cts 0 xs.length)))) a N := by
  obtain ⟨c, hc, hv⟩ := h.env s _ hs
  have h1 := h.dropTmp s
  cases hv with
  | uni _ _ _ _ hu =>
    rcases hu with ⟨rfl, rfl⟩ | ⟨b, cap, cur, e, rfl, h2, h3, h4, h5, h6, h7⟩
    · simp at hpos
    · let g' : Gh := { own := fun b' => if b' = b then .box (.mp s) else g.own b', at_ := fun k => if k = .mp s then some b else if k = .mn s then some (xs.length + cap * 18446744073709551616) else g.at_ k }
      have hnone : ∀ k, k.base = .mp s → g.at_ k = none := fun k hk => by
        cases hat : g.at_ k with
        | none => rfl
        | some b => obtain ⟨cs', hcs⟩ := h.live _ _ hat; rw [hk, hf] at hcs; cases hcs
      have hat : ∀ k b', g.at_ k = some b' → g'.at_ k = some b' := fun k b' hk => by
        have n1 : k ≠ .mp s := fun e => by rw [e, hnone _ rfl] at hk; cases hk
        have n2 : k ≠ .mn s := fun e => by rw [e, hnone _ rfl] at hk; cases hk
        simp only [g', n1, n2, if_false]
        exact hk
      have hown : ∀ b', b' ≠ b → g'.own b' = g.own b' := fun b' hb' => by simp only [g', hb', if_false]
      have hst : ∀ b' o c, g.stable b' o → w.cell? (pl b' o) = some c → g'.stable b' o ∧ w.cell? (pl b' o) = some c := fun b' o c q1 q2 => by
        refine ⟨?_, q2⟩
        by_cases e' : b' = b
        · subst e'
          unfold Gh.stable at q1
          rw [h4] at q1
          exact absurd q1 (Nat.not_lt_zero _)
        · unfold Gh.stable at q1 ⊢; rw [hown b' e']; exact q1
      have mv : ∀ r v c, r.root ≠ .tmp s → VRel g w r v c → VRel g' w r v c := fun r v c hr hv =>
        h1.mono_slot hst hat hv (fun r' b' l hu ho => by
          have : b' ≠ b := fun e' => by
            subst e'
            rw [h4] at ho
            cases ho
            exact hr hu.symm
          exact ⟨by rw [hown b' this]; exact ho, rfl⟩)
      have hmn : mnN (xs.length + cap * 18446744073709551616) = xs.length ∧ mnC (xs.length + cap * 18446744073709551616) = cap := by
        have : maxLen < 18446744073709551616 := by decide
        unfold mnN mnC
        omega
      have hnew : ∀ sl, VRel g' w sl (.ms s cts 0 xs.length) (.slice (some (pl b 0)) xs.length cap) := fun sl => by
        have := VRel.ms (g := g') (w := w) sl s cts 0 xs.length b cap (xs.length + cap * 18446744073709551616) (by simp [g']) (by simp [g']) (by rw [hmn.1]; omega) h2 ⟨h3, hmn.2.symm⟩
        simpa using this
      have hle : xs.length * cts.length ≤ cur.size := by rw [h6.1]; exact Nat.mul_le_mul_right _ h2
      refine ⟨g', _, hc, hnew, fun t u hu => ?_, fun k cs hk => ?_, fun b' hb' => ?_, h.base, ?_, h.defers, h.size, fun k b' hb' => ?_, fun b' r l hu ho => ?_⟩
      · simp only [St.tmp_put, St.tmp_put_box] at hu
        by_cases e' : s = t
        · subst e'
          simp only [if_true, Option.some.injEq] at hu
          subst hu
          exact ⟨_, hc, hnew _⟩
        · simp only [e', if_false] at hu
          obtain ⟨c', q1, q2⟩ := h.env t u hu
          exact ⟨c', q1, mv _ _ _ (by simp [Slot.root]; exact fun e2 => e' e2.symm) q2⟩
      · simp only [St.cells_put_tmp, St.cells_put_box] at hk
        by_cases e' : Key.mp s = k
        · subst e'
          simp only [if_true, Option.some.injEq] at hk
          subst hk
          refine .ofMap rfl ⟨b, _, by simp [g'], by simp [g'], h5, .inr (.inr ⟨cts, xs, cur, e, Go.undef, rfl, rfl, ⟨_, by simp [g', Key.num], hmn.1, by rw [hmn.2, h6.1]⟩, hle, h6.2, fun i j ct hi hj => ?_⟩)⟩
          obtain ⟨v, q1, q2⟩ := h7 i j ct hi hj
          exact ⟨v, q1, q2.mono hst⟩
        · simp only [e', if_false] at hk
          refine (h.box k cs hk).mono hst (fun b1 q1 q2 => ⟨hat _ _ q1, ?_, rfl⟩) (fun n q => hat _ _ q) (fun i v c _ _ hv => mv _ _ _ (by simp [Slot.root]) hv)
          have : b1 ≠ b := fun e2 => by subst e2; rw [h4] at q2; cases q2
          rw [hown b1 this]; exact q2
      · have : b' ≠ b := fun e' => by subst e'; have := own_lt h h4 (by simp); omega
        rw [hown b' this]
        exact h.fresh b' hb'
      · refine h.evol.trans h.base ⟨rfl, rfl, rfl, Nat.le_refl _, fun b' _ q => ⟨rfl, ?_⟩, fun b' l q => ⟨rfl, ?_⟩, fun b' r l q => ⟨fun _ _ _ q => q, ?_⟩, fun b' i q => ?_, fun i b' q => hat _ _ q⟩
        · rw [hown b' (fun e' => by subst e'; rw [h4] at q; cases q)]; exact q
        · rw [hown b' (fun e' => by subst e'; rw [h4] at q; cases q)]; exact q
        · by_cases e' : b' = b
          · subst e'; rw [h4] at q; cases q; exact .inl rfl
          · exact .inr (.inr ⟨r, l, by rw [hown b' e']; exact q, Nat.le_refl _⟩)
        · rw [hown b' (fun e' => by subst e'; rw [h4] at q; cases q)]; exact q
      · simp only [St.cells_put_tmp, St.cells_put_box]
        by_cases e' : Key.mp s = k.base
        · exact ⟨_, by rw [if_pos e']⟩
        · rw [if_neg e']
          refine h.live k b' ?_
          simp only [g'] at hb'
          rw [if_neg (fun e2 => e' (by rw [e2]; rfl)), if_neg (fun e2 => e' (by rw [e2]; rfl))] at hb'
          exact hb'
      · by_cases e' : b' = b
        · subst e'; simp only [g', if_true] at ho; cases ho
        · rw [hown b' e'] at ho; exact h.nones b' r l hu ho
end
end Go.Proofs.Ytkcopbnaleiocaa.Ev
