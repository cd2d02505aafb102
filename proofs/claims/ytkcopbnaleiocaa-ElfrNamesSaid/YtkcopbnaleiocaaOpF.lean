/- A call of a Go function, as a whole. -/
import Derived.Test.YtkcopbnaleiocaaOpE
namespace Go.Proofs.Ytkcopbnaleiocaa.Ev
open Go
set_option linter.unusedVariables false
set_option linter.unusedSimpArgs false
section
variable {P : Program} {I : Info} {g0 g : Gh} {w0 w : World} {σ : St} {a : Act} {N : Nat} {o : Oper} {ops : List Oper} {next : Act → World → Prop} {Q : Exit → Act → World → Prop} {ws : List W} {b : Bool}

abbrev CallArgs := Nat × List V × List Key × List (List V) × List W
theorem opds_run (h : Rep g0 w0 g w σ a N) {k : List V → M CallArgs} {r : CallArgs} : ∀ (xs : List Operand) (acc : List V), (opds xs acc k).run σ = some r →
    ∃ vs : List V, vs.length = xs.length ∧ (k (acc.reverse ++ vs)).run σ = some r ∧ ∀ (i : Nat) (x : Operand) (v : V), xs[i]? = some x → vs[i]? = some v → VRel g w (slotOf x) v (a.eval x) ∧ (∀ t, x = .tmp t → σ.tmp t = some v) ∧ ((∀ t, x ≠ .tmp t) → v.plain)
  | [], acc, hr => ⟨[], rfl, by simpa [opds] using hr, fun i x v hx => by simp at hx⟩
  | x :: xs, acc, hr => by
    have go : ∀ v : V, (opds xs (v :: acc) k).run σ = some r → VRel g w (slotOf x) v (a.eval x) → (∀ t, x = .tmp t → σ.tmp t = some v) → ((∀ t, x ≠ .tmp t) → v.plain) →
        ∃ vs : List V, vs.length = (x :: xs).length ∧ (k (acc.reverse ++ vs)).run σ = some r ∧ ∀ (i : Nat) (y : Operand) (v : V), (x :: xs)[i]? = some y → vs[i]? = some v → VRel g w (slotOf y) v (a.eval y) ∧ (∀ t, y = .tmp t → σ.tmp t = some v) ∧ ((∀ t, y ≠ .tmp t) → v.plain) := by
      intro v hr h1 h2 h3
      obtain ⟨vs, hl, hk, hv⟩ := opds_run h xs (v :: acc) hr
      refine ⟨v :: vs, by simp [hl], by simpa using hk, fun i y u hy hu => ?_⟩
      cases i with
      | zero => simp at hy hu; subst hy; subst hu; exact ⟨h1, h2, h3⟩
      | succ i => exact hv i y u (by simpa using hy) (by simpa using hu)
    cases x with
    | tmp t =>
      simp only [opds, M.run] at hr
      cases hv : σ.tmp t with
      | none => rw [hv] at hr; cases hr
      | some v =>
        rw [hv] at hr
        obtain ⟨c, h1, h2⟩ := h.env t v hv
        refine go v hr ?_ (fun t' e => by cases e; exact hv) (fun hx => absurd rfl (hx t))
        simp only [Act.eval, Array.getD_eq_getD_getElem?, h1, Option.getD_some]
        exact h2
    | const c => exact go (.val c) hr (.val _ c) (fun _ e => nomatch e) (fun _ => trivial)
    | func f => exact go _ hr (.val _ _) (fun _ e => nomatch e) (fun _ => trivial)
    | global => cases hr
theorem allCells_run {k : List (List V) → M CallArgs} {r : CallArgs} : ∀ (ks : List Key) (acc : List (List V)), (allCells ks acc k).run σ = some r →
    ∃ outs : List (List V), outs.length = ks.length ∧ (k (acc.reverse ++ outs)).run σ = some r ∧ ∀ (i : Nat) (b : Key) (cs : List V), ks[i]? = some b → outs[i]? = some cs → σ.cells b = some cs
  | [], acc, hr => ⟨[], rfl, by simpa [allCells] using hr, fun i b cs hb => by simp at hb⟩
  | b :: ks, acc, hr => by
    simp only [allCells, M.run] at hr
    cases hc : σ.cells b with
    | none => rw [hc] at hr; cases hr
    | some cs =>
      rw [hc] at hr
      obtain ⟨outs, hl, hk, ho⟩ := allCells_run ks (cs :: acc) hr
      refine ⟨cs :: outs, by simp [hl], by simpa using hk, fun i b' cs' hb hcs => ?_⟩
      cases i with
      | zero => simp at hb hcs; subst hb; subst hcs; exact hc
      | succ i => exact ho i b' cs' (by simpa using hb) (by simpa using hcs)
theorem keysOf_nodup : ∀ (vs : List V) (ks : List Key), ks.Nodup → (keysOf vs ks).Nodup
  | [], ks, h => h
  | v :: vs, ks, h => by
    cases v with
    | ptr k off =>
      simp only [keysOf]
      refine keysOf_nodup vs _ ?_
      split
      · exact h
      · rename_i hk
        rw [List.nodup_append]
        exact ⟨h, by simp, fun a ha b hb => by simp at hb; subst hb; rintro rfl; exact hk ha⟩
    | _ => exact keysOf_nodup vs ks h
theorem keysOf_sub : ∀ (vs : List V) (ks : List Key), (∀ k ∈ ks, k ∈ keysOf vs ks) ∧ (∀ k off, V.ptr k off ∈ vs → k ∈ keysOf vs ks) ∧ (∀ k ∈ keysOf vs ks, k ∈ ks ∨ ∃ off, V.ptr k off ∈ vs)
  | [], ks => ⟨fun k h => h, fun k off h => by simp at h, fun k h => .inl h⟩
  | v :: vs, ks => by
    cases v with
    | ptr k0 off0 =>
      simp only [keysOf]
      obtain ⟨h1, h2, h3⟩ := keysOf_sub vs (if k0 ∈ ks then ks else ks ++ [k0])
      refine ⟨fun k hk => h1 k ?_, fun k off hk => ?_, fun k hk => ?_⟩
      · split
        · exact hk
        · exact List.mem_append_left _ hk
      · rcases List.mem_cons.1 hk with e | hk
        · cases e
          refine h1 k0 ?_
          split
          · assumption
          · simp
        · exact h2 k off hk
      · rcases h3 k hk with h4 | ⟨off, h4⟩
        · split at h4
          · exact .inl h4
          · rcases List.mem_append.1 h4 with h5 | h5
            · exact .inl h5
            · simp at h5; subst h5; exact .inr ⟨off0, .head _⟩
        · exact .inr ⟨off, .tail _ h4⟩
    | _ =>
      obtain ⟨h1, h2, h3⟩ := keysOf_sub vs ks
      refine ⟨h1, fun k off hk => h2 k off (by rcases List.mem_cons.1 hk with e | hk; cases e; exact hk), fun k hk => ?_⟩
      rcases h3 k hk with h4 | ⟨off, h4⟩
      · exact .inl h4
      · exact .inr ⟨off, .tail _ h4⟩
theorem ownAt_mem : ∀ (xs : List Operand) (vs : List V) (j t i : Nat), ownAt xs vs j t = some i → t ∈ ownTmps xs vs
  | [], vs, j, t, i, h => by simp [ownAt] at h
  | _ :: _, [], j, t, i, h => by unfold ownAt at h; simp at h
  | x :: xs, v :: vs, j, t, i, h => by
    cases x with
    | tmp u =>
      cases v with
      | own =>
        simp only [ownAt] at h
        simp only [ownTmps, List.mem_cons]
        split at h
        · rename_i e; exact .inl e.symm
        · exact .inr (ownAt_mem xs vs _ t i h)
      | _ => exact ownAt_mem xs vs _ t i h
    | _ => exact ownAt_mem xs vs _ t i h
theorem ownAt_get : ∀ (xs : List Operand) (vs : List V) (j t i : Nat) (cts : List CT) (rows : List (List D)), (ownTmps xs vs).Nodup → xs[i]? = some (.tmp t) → vs[i]? = some (.own cts rows) → ownAt xs vs j t = some (j + i)
  | [], vs, j, t, i, _, _, _, h, _ => by simp at h
  | _ :: _, [], j, t, i, _, _, _, _, h => by simp at h
  | x :: xs, v :: vs, j, t, i, cts, rows, hn, hx, hv => by
    have mem : ∀ (xs : List Operand) (vs : List V) (i : Nat), xs[i]? = some (.tmp t) → vs[i]? = some (.own cts rows) → t ∈ ownTmps xs vs := by
      intro xs
      induction xs with
      | nil => intro vs i h; simp at h
      | cons x xs ih =>
        intro vs i hx hv
        cases vs with
        | nil => simp at hv
        | cons v vs =>
          cases i with
          | zero => simp at hx hv; subst hx; subst hv; simp [ownTmps]
          | succ i =>
            have := ih vs i (by simpa using hx) (by simpa using hv)
            cases x with
            | tmp u => cases v <;> first | exact this | exact List.mem_cons_of_mem _ this
            | _ => exact this
    cases i with
    | zero => simp at hx hv; subst hx; subst hv; simp [ownAt]
    | succ i =>
      have hx' : xs[i]? = some (.tmp t) := by simpa using hx
      have hv' : vs[i]? = some (.own cts rows) := by simpa using hv
      have hm := mem xs vs i hx' hv'
      cases x with
      | tmp u =>
        cases v with
        | own =>
          simp only [ownTmps, List.nodup_cons] at hn
          have hne : u ≠ t := fun e => hn.1 (by rw [e]; exact hm)
          simp only [ownAt, hne, if_false]
          rw [ownAt_get xs vs (j + 1) t i cts rows hn.2 hx' hv']
          congr 1
          omega
        | _ =>
          have := ownAt_get xs vs (j + 1) t i cts rows hn hx' hv'
          simp only [ownAt]
          rw [this]
          congr 1
          omega
      | _ =>
        have := ownAt_get xs vs (j + 1) t i cts rows hn hx' hv'
        simp only [ownAt]
        rw [this]
        congr 1
        omega

theorem gIn_flat {G : Gh} {xs : List Operand} {vs : List V} {ks : List Key} {s s' : Slot} {v : V} {c : Value} (hn : ∀ b r l, Slot.under .none r → G.own b ≠ .arr r l) (hv : VRel G w s v c) (hp : v.plain ∨ inSlot xs vs ks s = some s') (hnp : ∀ k off, v ≠ .ptr k off) (hnt : ∀ us, v ≠ .tup us) (hne : v.inOk) (hnu : ∀ c x, v ≠ .uni c x) : VRel (gIn G xs vs ks) w s' v c := by
  have hst : ∀ b o c, G.stable b o → w.cell? (pl b o) = some c → (gIn G xs vs ks).stable b o ∧ w.cell? (pl b o) = some c := fun b o c h1 h2 => ⟨(gIn_stable b o).2 h1, h2⟩
  cases hv with
  | val => exact .val _ _
  | arr _ _ _ _ h => exact .arr _ _ _ _ (h.mono hst)
  | own _ _ _ _ h hsp =>
    have hs := hp.resolve_left (fun h => h)
    refine .own _ _ _ _ (h.mono hst) ?_
    rcases hsp with h1 | h1 | ⟨b, cap, cur, e, rfl, h1, h2, h3, h4, h5⟩
    · exact .inl h1
    · exact .inr (.inl h1)
    · exact .inr (.inr ⟨b, cap, cur, e, rfl, h1, h2, by simp [gIn, h3, hs], h4, h5⟩)
  | agg _ us cs hl hf h =>
    refine .agg _ _ _ hl hf (fun i v c hv hc => ?_)
    have hvr := h i v c hv hc
    have hfl := hne v (List.mem_of_getElem? hv)
    cases hvr with
    | val => exact .val _ _
    | arr _ _ _ _ h => exact .arr _ _ _ _ (h.mono hst)
    | own _ _ _ _ h hsp =>
      refine .own _ _ _ _ (h.mono hst) ?_
      rcases hsp with h1 | h1 | ⟨b, cap, cur, e, rfl, h1, h2, h3, h4, h5⟩
      · exact .inl h1
      · exact .inr (.inl h1)
      · exact absurd h3 (hn b _ _ (.refl _))
    | _ => exact hfl.elim
  | ptr => exact absurd rfl (hnp _ _)
  | mp => exact hne.elim
  | eptr => exact hne.elim
  | tup => exact absurd rfl (hnt _)
  | uni => exact absurd rfl (hnu _ _)
  | slen => exact .slen _ _ _ _
  | ms => exact hne.elim
  | mptr => exact hne.elim
  | sarr => exact hne.elim
  | sptr => exact hne.elim

def GoneOk (g0 : Gh) (w0 : World) (g : Gh) (w : World) (σ : St) (a : Act) (N : Nat) (xs : List Operand) (vs : List V) : Prop :=
  Rep g0 w0 g w (σ.puts (goneAll xs vs)) a N ∧ (∀ t ∈ ownTmps xs vs, ∀ u, (σ.puts (goneAll xs vs)).tmp t = some u → u.plain) ∧ (∀ t, t ∉ ownTmps xs vs → (σ.puts (goneAll xs vs)).tmp t = σ.tmp t) ∧ ∀ k, (σ.puts (goneAll xs vs)).cells k = σ.cells k
theorem own_mem {t : Nat} {cts : List CT} {rows : List (List D)} : ∀ (xs : List Operand) (vs : List V) (i : Nat), xs[i]? = some (.tmp t) → vs[i]? = some (.own cts rows) → t ∈ ownTmps xs vs := by
  intro xs
  induction xs with
  | nil => intro vs i h; simp at h
  | cons x xs ih =>
    intro vs i hx hv
    cases vs with
    | nil => simp at hv
    | cons v vs =>
      cases i with
      | zero => simp at hx hv; subst hx; subst hv; simp [ownTmps]
      | succ i =>
        have := ih vs i (by simpa using hx) (by simpa using hv)
        cases x with
        | tmp u => cases v <;> first | exact this | exact List.mem_cons_of_mem _ this
        | _ => exact this
theorem goneAll_rep : ∀ (xs : List Operand) (vs : List V) (σ : St), Rep g0 w0 g w σ a N → (ownTmps xs vs).Nodup → (∀ (i : Nat) (t : Nat) (v : V), xs[i]? = some (.tmp t) → vs[i]? = some v → σ.tmp t = some v) → (∀ v ∈ vs, ∀ us, v ≠ .tup us) → (∀ v ∈ vs, ∀ c x, v ≠ .uni c x) → GoneOk g0 w0 g w σ a N xs vs
  | [], vs, σ, h, _, _, _, _ => ⟨h, fun t ht => by simp [ownTmps] at ht, fun _ _ => rfl, fun _ => rfl⟩
  | _ :: _, [], σ, h, _, _, _, _ => ⟨h, fun t ht => by unfold ownTmps at ht; simp at ht, fun _ _ => rfl, fun _ => rfl⟩
  | x :: xs, v :: vs, σ, h, hn, hσ, ht, hun => by
    have skip : gone x v = [] → ownTmps (x :: xs) (v :: vs) = ownTmps xs vs → GoneOk g0 w0 g w σ a N (x :: xs) (v :: vs) := fun e1 e2 => by
      have := goneAll_rep xs vs σ h (by rw [← e2]; exact hn) (fun i t u hx hu => hσ (i + 1) t u (by simpa using hx) (by simpa using hu)) (fun u hu => ht u (.tail _ hu)) (fun u hu => hun u (.tail _ hu))
      unfold GoneOk at this ⊢
      rw [e2]
      have e3 : goneAll (x :: xs) (v :: vs) = goneAll xs vs := by simp [goneAll, e1]
      rw [e3]
      exact this
    cases x with
    | tmp s =>
      cases v with
      | own cts rows =>
        simp only [ownTmps, List.nodup_cons] at hn
        have hs := hσ 0 s _ rfl rfl
        have h1 := h.viewTmp hs (v' := .arr cts rows) (fun c hc => hc.view)
        have ih := goneAll_rep xs vs _ h1 hn.2 (fun i t u hx hu => by
          have h2 := hσ (i + 1) t u (by simpa using hx) (by simpa using hu)
          by_cases e : s = t
          · subst e
            rw [hs] at h2
            cases h2
            exact absurd (own_mem xs vs i hx hu) hn.1
          · simp [e]; exact h2) (fun u hu => ht u (.tail _ hu)) (fun u hu => hun u (.tail _ hu))
        obtain ⟨i1, i2, i3, i4⟩ := ih
        refine ⟨i1, fun t htm u hu => ?_, fun t htm => ?_, fun k => ?_⟩
        · simp only [ownTmps, List.mem_cons] at htm
          by_cases e : t ∈ ownTmps xs vs
          · exact i2 t e u hu
          · have := i3 t e
            rw [show (σ.puts (goneAll (.tmp s :: xs) (.own cts rows :: vs))).tmp t = ((σ.put (.tmp s (some (.arr cts rows)))).puts (goneAll xs vs)).tmp t from rfl, this] at hu
            have e2 : t = s := htm.resolve_right e
            subst e2
            simp at hu
            subst hu
            trivial
        · simp only [ownTmps, List.mem_cons, not_or] at htm
          have := i3 t htm.2
          rw [show (σ.puts (goneAll (.tmp s :: xs) (.own cts rows :: vs))).tmp t = ((σ.put (.tmp s (some (.arr cts rows)))).puts (goneAll xs vs)).tmp t from rfl, this]
          simp [Ne.symm htm.1]
        · have := i4 k
          rw [show (σ.puts (goneAll (.tmp s :: xs) (.own cts rows :: vs))).cells k = ((σ.put (.tmp s (some (.arr cts rows)))).puts (goneAll xs vs)).cells k from rfl, this]
          simp
      | tup us => exact absurd rfl (ht _ (.head _) us)
      | uni c x => exact absurd rfl (hun _ (.head _) c x)
      | _ => exact skip rfl rfl
    | _ => exact skip (by cases v <;> rfl) (by cases v <;> rfl)
end
end Go.Proofs.Ytkcopbnaleiocaa.Ev
