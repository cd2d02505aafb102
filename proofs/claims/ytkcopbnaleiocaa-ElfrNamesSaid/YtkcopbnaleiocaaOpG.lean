/- A call of a Go function: there and back. -/
import Derived.Test.YtkcopbnaleiocaaOpF
namespace Go.Proofs.Ytkcopbnaleiocaa.Ev
open Go
set_option linter.unusedVariables false
set_option linter.unusedSimpArgs false
section
variable {P : Program} {I : Info} {g0 g : Gh} {w0 w : World} {σ : St} {a : Act} {N : Nat} {o : Oper} {ops : List Oper} {next : Act → World → Prop} {Q : Exit → Act → World → Prop} {ws : List W} {b : Bool}

/-- What callM finds. -/
structure CallIs (g : Gh) (w : World) (σ : St) (a : Act) (xs : List Operand) (vs : List V) (ks : List Key) (outs : List (List V)) : Prop where
  len : vs.length = xs.length
  args : ∀ (i : Nat) (x : Operand) (v : V), xs[i]? = some x → vs[i]? = some v → VRel g w (slotOf x) v (a.eval x) ∧ (∀ t, x = .tmp t → σ.tmp t = some v) ∧ ((∀ t, x ≠ .tmp t) → v.plain)
  ok : ∀ v ∈ vs, argOk v = true
  nodup : (ownTmps xs vs).Nodup
  keys : ks = keysOf vs []
  olen : outs.length = ks.length
  flats : ∀ cs ∈ outs, ∀ v ∈ cs, v.flat
  outs : ∀ (i : Nat) (b : Key) (cs : List V), ks[i]? = some b → outs[i]? = some cs → σ.cells b = some cs
theorem callM_run (h : Rep g0 w0 g w σ a N) {f : Nat} {xs : List Operand} {r : CallArgs} (hr : (callM f xs).run σ = some r) :
    ∃ vs outs, CallIs g w σ a xs vs (keysOf vs []) outs ∧ r = (f, vs.map (handed (keysOf vs [])), keysOf vs [], outs, goneAll xs vs) := by
  unfold callM at hr
  obtain ⟨vs, hl, hr, hv⟩ := opds_run h xs [] hr
  rw [show ([] : List V).reverse ++ vs = vs from rfl] at hr
  by_cases hc : vs.all argOk = true ∧ (ownTmps xs vs).Nodup
  · rw [if_pos hc] at hr
    obtain ⟨outs, hol, hr, ho⟩ := allCells_run (σ := σ) (keysOf vs []) [] hr
    rw [show ([] : List (List V)).reverse ++ outs = outs from rfl] at hr
    by_cases hfo : (outs.all fun x => x.all cellOk) = true
    · rw [if_pos hfo] at hr
      simp only [M.run, Option.some.injEq] at hr
      exact ⟨vs, outs, ⟨hl, hv, fun v hm => List.all_eq_true.1 hc.1 v hm, hc.2, rfl, hol, fun cs hcs v hv => by
        have hck := List.all_eq_true.1 (List.all_eq_true.1 hfo cs hcs) v hv
        (cases v <;> first | trivial | cases hck), ho⟩, hr.symm⟩
    · rw [if_neg hfo] at hr; cases hr
  · rw [if_neg hc] at hr
    cases hr
theorem key_at (h : Rep g0 w0 g w σ a N) {xs : List Operand} {vs : List V} {ks : List Key} {outs : List (List V)} (hc : CallIs g w σ a xs vs ks outs) {k : Key} (hk : k ∈ ks) : ∃ b, g.at_ k = some b := by
  rw [hc.keys] at hk
  rcases (keysOf_sub vs []).2.2 k hk with h1 | ⟨off, h1⟩
  · simp at h1
  · obtain ⟨i, hi, e⟩ := List.getElem_of_mem h1
    have hv : vs[i]? = some (.ptr k off) := by rw [← e]; exact List.getElem?_eq_getElem hi
    obtain ⟨h2, _, _⟩ := hc.args i _ _ (List.getElem?_eq_getElem (by have := hc.len; omega)) hv
    obtain ⟨b, hb, _⟩ := ptr_inv h2
    exact ⟨b, hb⟩
theorem key_cell (h : Rep g0 w0 g w σ a N) {xs : List Operand} {vs : List V} {ks : List Key} {outs : List (List V)} (hc : CallIs g w σ a xs vs ks outs) {k : Key} (hk : k ∈ ks) : k.isMp = false := by
  rw [hc.keys] at hk
  rcases (keysOf_sub vs []).2.2 k hk with h1 | ⟨off, h1⟩
  · simp at h1
  · obtain ⟨i, hi, e⟩ := List.getElem_of_mem h1
    have hv : vs[i]? = some (.ptr k off) := by rw [← e]; exact List.getElem?_eq_getElem hi
    obtain ⟨h2, _, _⟩ := hc.args i _ _ (List.getElem?_eq_getElem (by have := hc.len; omega)) hv
    exact ptr_key h2
theorem keys_nodup {xs : List Operand} {vs : List V} {ks : List Key} {outs : List (List V)} (hc : CallIs g w σ a xs vs ks outs) : ks.Nodup := by rw [hc.keys]; exact keysOf_nodup vs [] (by simp)
theorem idx_key {xs : List Operand} {vs : List V} {ks : List Key} {outs : List (List V)} (hc : CallIs g w σ a xs vs ks outs) {i : Nat} {k : Key} (hk : ks[i]? = some k) : ks.idxOf k = i ∧ k ∈ ks := by
  obtain ⟨hi, rfl⟩ := List.getElem?_eq_some_iff.1 hk
  exact ⟨(keys_nodup hc).idxOf_getElem i hi, List.getElem_mem hi⟩
theorem call_in (h : Rep g0 w0 g w σ a N) {xs : List Operand} {vs : List V} {ks : List Key} {outs : List (List V)} (hc : CallIs g w σ a xs vs ks outs) : Handed (gIn g xs vs ks) w (vs.map (handed ks)) outs (xs.map a.eval).toArray := by
  refine ⟨by simp [hc.len], fun i v hv => ?_, fun i cs hcs => ?_, fun b hb => by simp [gIn, h.fresh b hb], fun t => rfl, fun t => rfl, fun t => rfl, fun i b hb => ?_, fun b r l hu ho => ?_⟩
  · simp only [List.getElem?_map, Option.map_eq_some_iff] at hv
    obtain ⟨u, hu, rfl⟩ := hv
    have hi : i < xs.length := by have := (List.getElem?_eq_some_iff.1 hu).1; have := hc.len; omega
    obtain ⟨h1, h2, h3⟩ := hc.args i _ u (List.getElem?_eq_getElem hi) hu
    have hok := hc.ok u (List.mem_of_getElem? hu)
    refine ⟨a.eval xs[i], by simp [List.getElem?_eq_getElem hi], ?_⟩
    cases u with
    | ptr k off =>
      obtain ⟨b, hb, e⟩ := ptr_inv h1
      have hk : k ∈ ks := by rw [hc.keys]; exact (keysOf_sub vs []).2.1 k off (List.mem_of_getElem? hu)
      rw [e]
      refine .ptr _ _ _ _ ?_ rfl
      simp only [gIn]
      have : ks[ks.idxOf k]? = some k := by
        rw [List.getElem?_eq_getElem (List.idxOf_lt_length_of_mem hk)]
        simp
      rw [this]
      exact hb
    | val => exact gIn_flat h.nones h1 (.inl trivial) (by simp [handed]) (by simp [handed]) trivial (by simp [handed])
    | arr => exact gIn_flat h.nones h1 (.inl trivial) (by simp [handed]) (by simp [handed]) trivial (by simp [handed])
    | agg us => exact gIn_flat h.nones h1 (.inl trivial) (by simp [handed]) (by simp [handed]) (fun v hv => by have hck := List.all_eq_true.1 hok v hv; (cases v <;> first | trivial | cases hck)) (by simp [handed])
    | own cts rows =>
      cases hx : xs[i] with
      | tmp t =>
        rw [hx] at h1
        have := ownAt_get xs vs 0 t i cts rows hc.nodup (by rw [List.getElem?_eq_getElem hi, hx]) hu
        simp only [Nat.zero_add] at this
        exact gIn_flat h.nones h1 (.inr (by simp only [inSlot, slotOf, this, Option.map_some])) (by simp [handed]) (by simp [handed]) trivial (by simp [handed])
      | _ => exact (h3 (by simp [hx])).elim
    | _ => cases hok
  · have hi : i < ks.length := by have := (List.getElem?_eq_some_iff.1 hcs).1; have := hc.olen; omega
    have hk : ks[i]? = some ks[i] := List.getElem?_eq_getElem hi
    obtain ⟨e1, e2⟩ := idx_key hc hk
    obtain ⟨b, cur, e, h1, h2, h3, h4, h6, h5⟩ := (h.box _ cs (hc.outs i _ cs hk hcs)).cell (key_cell h hc e2)
    refine .ofCell rfl ⟨b, cur, e, by simp only [gIn, hk, Option.bind_some]; exact h1, by simp [gIn, h2, e1], h3, h4, h6, fun j v c hv hcc => ?_⟩
    have hfl := hc.flats cs (List.mem_of_getElem? hcs) v (List.mem_of_getElem? hv)
    exact gIn_flat h.nones (h5 j v c hv hcc) (.inr (by simp [inSlot, e1])) (by rintro k off rfl; exact hfl) (by rintro us rfl; exact hfl) (by cases v <;> first | trivial | exact hfl) (by rintro c x rfl; exact hfl)
  · simp only [gIn] at hb
    cases hk : ks[i]? with
    | none => rw [hk] at hb; cases hb
    | some k => have := (List.getElem?_eq_some_iff.1 hk).1; have := hc.olen; omega
  · simp only [gIn] at ho
    cases hob : g.own b with
    | arr s l' =>
      rw [hob] at ho
      simp only at ho
      cases hi : inSlot xs vs ks s with
      | none => rw [hi] at ho; cases ho
      | some s' =>
        rw [hi] at ho
        cases ho
        have hroot := Slot.under_root hu
        unfold inSlot at hi
        split at hi
        · simp only [Option.map_eq_some_iff] at hi
          obtain ⟨j, _, rfl⟩ := hi
          simp [Slot.root] at hroot
        · split at hi
          · cases hi; simp [Slot.root] at hroot
          · cases hi
        · cases hi
    | free => rw [hob] at ho; cases ho
    | other => rw [hob] at ho; cases ho
    | box k => rw [hob] at ho; simp only at ho; split at ho <;> cases ho

theorem boxW_tmp : ∀ (ks : List Key) (os : List (List V)) (σ : St) (t : Nat), (σ.puts (boxW ks os)).tmp t = σ.tmp t
  | [], _, _, _ => rfl
  | _ :: _, [], _, _ => rfl
  | k :: ks, c :: cs, σ, t => by simp only [boxW, St.puts_cons]; rw [boxW_tmp ks cs]; simp
theorem boxW_other : ∀ (ks : List Key) (os : List (List V)) (σ : St) (k : Key), k ∉ ks → (σ.puts (boxW ks os)).cells k = σ.cells k
  | [], _, _, _, _ => rfl
  | _ :: _, [], _, _, _ => rfl
  | k0 :: ks, c :: cs, σ, k, h => by
    simp only [List.mem_cons, not_or] at h
    simp only [boxW, St.puts_cons]
    rw [boxW_other ks cs _ k h.2]
    simp [Ne.symm h.1]
theorem boxW_get : ∀ (ks : List Key) (os : List (List V)) (σ : St) (i : Nat) (k : Key) (c : List V), ks.Nodup → ks[i]? = some k → os[i]? = some c → (σ.puts (boxW ks os)).cells k = some c
  | [], _, _, i, _, _, _, h, _ => by simp at h
  | _ :: _, [], _, i, _, _, _, _, h => by simp at h
  | k0 :: ks, c0 :: cs, σ, i, k, c, hn, hk, hc => by
    simp only [List.nodup_cons] at hn
    simp only [boxW, St.puts_cons]
    cases i with
    | zero =>
      simp at hk hc
      subst hk; subst hc
      rw [boxW_other ks cs _ k0 hn.1]
      simp
    | succ i => exact boxW_get ks cs _ i k c hn.2 (by simpa using hk) (by simpa using hc)

theorem base_of {k : Key} (hk : k.isMp = false) : k.base = k := by cases k <;> first | rfl | cases hk
theorem call_back (h : Rep g0 w0 g w σ a N) {xs : List Operand} {vs : List V} {ks : List Key} {outs : List (List V)} (hc : CallIs g w σ a xs vs ks outs) {r : R} {g' : Gh} {w' : World} {c : Value} {d : Option Nat} (hd : ∀ t, d = some t → t < N)
    (hv : VRel g' w' .ret r.1 c) (hb : r.1.back outs.length) (hl : r.2.length = outs.length) (hbox : ∀ (i : Nat) (cs : List V), r.2[i]? = some cs → BoxRel g' w' (.out i) cs ∧ ∀ v ∈ cs, v.flat) (hev : Evol (gIn g xs vs ks) w g' w') (hfr : ∀ b, w'.heap.size ≤ b → g'.own b = .free) (hn : ∀ b s l, Slot.under .none s → g'.own b ≠ .arr s l) :
    ∃ G, Rep g0 w0 G w' ((σ.puts (goneAll xs vs)).puts (boxW ks r.2 ++ dstW d (backV ks r.1))) (a.put d c) N := by
  obtain ⟨h1, hown, hsame, hcells⟩ := goneAll_rep xs vs σ h hc.nodup (fun i t v hx hv => (hc.args i _ v hx hv).2.1 t rfl) (fun v hv us e => by subst e; have := hc.ok _ hv; cases this) (fun v hv c x e => by subst e; have := hc.ok _ hv; cases this)
  have hG := gOut_evol (d := d) hev h.fresh
  have hst := hG.stable
  have hnodup := keys_nodup hc
  have keyof : ∀ k : Key, k ∈ ks → ∃ (i : Nat) (cs' : List V), ks[i]? = some k ∧ r.2[i]? = some cs' := by
    intro k hk
    obtain ⟨i, hi, rfl⟩ := List.getElem_of_mem hk
    exact ⟨i, r.2[i]'(by rw [hl, hc.olen]; exact hi), List.getElem?_eq_getElem hi, List.getElem?_eq_getElem _⟩
  have inNone : ∀ t, t ∉ ownTmps xs vs → inSlot xs vs ks (.tmp t) = none := by
    intro t ht
    simp only [inSlot]
    cases ho : ownAt xs vs 0 t with
    | none => rfl
    | some i => exact absurd (ownAt_mem xs vs 0 t i ho) ht
  have keep : ∀ {s : Slot} {b l : Nat}, g.own b = .arr s l → inSlot xs vs ks s = none → (gOut g w.heap.size g' xs vs ks d).own b = .arr s l ∧ w'.heap[b]? = w.heap[b]? := by
    intro s b l ho hi
    have hlt := own_lt h ho (by simp)
    exact ⟨by simp [gOut, hlt, ho, hi], (hev.other b l (by simp [gIn, ho, hi])).1⟩
  have mvPlain : ∀ {s : Slot} {v : V} {c : Value}, v.plain → VRel g w s v c → VRel (gOut g w.heap.size g' xs vs ks d) w' s v c := fun hp hv => hv.plain_mono hst (fun _ _ h => h) h.nones hp
  have hRep : Rep g0 w0 (gOut g w.heap.size g' xs vs ks d) w' ((σ.puts (goneAll xs vs)).puts (boxW ks r.2)) a N := by
    refine ⟨fun t v hv => ?_, fun k cs hk => ?_, fun b hb => ?_, h.base, h.evol.trans h.base hG, h.defers, h.size, fun k b hb => ?_, fun b s l hu ho => ?_⟩
    · rw [boxW_tmp] at hv
      obtain ⟨c, q1, q2⟩ := h1.env t v hv
      refine ⟨c, q1, ?_⟩
      by_cases hp : v.plain
      · exact mvPlain hp q2
      · have ht : t ∉ ownTmps xs vs := fun ht => hp (hown t ht v hv)
        refine q2.mono hst (fun _ _ h => h) (fun s b l hu ho => keep ho ?_) (fun s b l hu ho => absurd ho (h.nones b s l hu))
        cases hu with
        | refl => exact inNone t ht
        | sub _ _ i hu => 
          have hr := Slot.under_root hu
          cases s with
          | sub => rfl
          | tmp u =>
            exfalso
            have : ∀ {p q : Slot}, Slot.under p q → ∀ p0 i, p = .sub p0 i → ∃ q0 j, q = .sub q0 j := by
              intro p q h
              induction h with
              | refl s => intro p0 i e; exact ⟨p0, i, e⟩
              | sub s r j _ ih => intro _ _ _; exact ih _ _ rfl
            obtain ⟨_, _, e⟩ := this hu _ _ rfl
            cases e
          | cell k o => simp [Slot.root] at hr
          | ret => rfl
          | none => rfl
    · by_cases hkk : k ∈ ks
      · obtain ⟨i, cs', e1, e2⟩ := keyof k hkk
        rw [boxW_get ks r.2 _ i k cs' hnodup e1 e2] at hk
        cases hk
        obtain ⟨bk, hbk⟩ := key_at h hc hkk
        obtain ⟨b, cur, e, q1, q2, q3, q4, q6, q5⟩ := (hbox i cs e2).1.cell rfl
        obtain ⟨ei, _⟩ := idx_key hc e1
        have hat : (gIn g xs vs ks).at_ (.out i) = some bk := by simp [gIn, e1, hbk]
        have hb' : b = bk := Option.some.inj (q1.symm.trans (hev.outs i bk hat))
        subst hb'
        obtain ⟨cs0, hcs0⟩ := h.live k b hbk
        rw [base_of (key_cell h hc hkk)] at hcs0
        obtain ⟨b1, p1, p2⟩ := (h.box k cs0 hcs0).at
        have hb1 : b1 = b := Option.some.inj (p1.symm.trans hbk)
        subst hb1
        have hlt := own_lt h p2 (by simp)
        refine .ofCell (key_cell h hc hkk) ⟨b1, cur, e, hbk, by simp [gOut, hlt, p2], q3, q4, q6, fun j v c hv hcc => ?_⟩
        exact gOut_flat hev h.fresh (q5 j v c hv hcc) ((hbox i cs e2).2 v (List.mem_of_getElem? hv)) (.inl (by simp [outSlot, e1]))
      · rw [boxW_other ks r.2 _ k hkk, hcells] at hk
        refine (h.box k cs hk).mono hst (fun b q1 q2 => ?_) (fun _ h => h) (fun j v c hv _ hvr => ?_)
        · have hlt := own_lt h q2 (by simp)
          exact ⟨q1, by simp [gOut, hlt, q2], (hev.other b 0 (by simp [gIn, q2, hkk])).1⟩
        by_cases hp : v.plain
        · exact mvPlain hp hvr
        · refine hvr.mono hst (fun _ _ h => h) (fun s b l hu ho => keep ho ?_) (fun s b l hu ho => absurd ho (h.nones b s l hu))
          cases hu with
          | refl => simp [inSlot, hkk]
          | sub _ _ i hu =>
            have : ∀ {p q : Slot}, Slot.under p q → ∀ p0 i, p = .sub p0 i → ∃ q0 j, q = .sub q0 j := by
              intro p q h
              induction h with
              | refl s => intro p0 i e; exact ⟨p0, i, e⟩
              | sub s r j _ ih => intro _ _ _; exact ih _ _ rfl
            obtain ⟨_, _, rfl⟩ := this hu _ _ rfl
            rfl
    · have hs := hev.size
      have : ¬ b < w.heap.size := by omega
      simp [gOut, this, hfr b hb, tr]
    · by_cases hkk : k.base ∈ ks
      · obtain ⟨i, cs', e1, e2⟩ := keyof _ hkk
        exact ⟨cs', boxW_get ks r.2 _ i _ cs' hnodup e1 e2⟩
      · rw [boxW_other ks r.2 _ _ hkk, hcells]
        exact h.live k b hb
    · have trn : ∀ p, tr d ks p ≠ .arr s l := by
        intro p e
        cases p with
        | arr s2 l2 =>
          simp only [tr] at e
          cases ho2 : outSlot d ks s2 with
          | none => rw [ho2] at e; cases e
          | some s3 =>
            rw [ho2] at e
            cases e
            have hroot := Slot.under_root hu
            unfold outSlot at ho2
            split at ho2
            · simp only [Option.map_eq_some_iff] at ho2; obtain ⟨_, _, rfl⟩ := ho2; simp [Slot.root] at hroot
            · simp only [Option.map_eq_some_iff] at ho2; obtain ⟨_, _, rfl⟩ := ho2; simp [Slot.root] at hroot
            · simp only [Option.map_eq_some_iff] at ho2; obtain ⟨_, _, rfl⟩ := ho2; simp [Slot.root] at hroot
            · cases ho2
        | _ => cases e
      simp only [gOut] at ho
      split at ho
      · cases hob : g.own b with
        | arr s2 l2 =>
          rw [hob] at ho
          simp only at ho
          cases hi : inSlot xs vs ks s2 with
          | none => rw [hi] at ho; cases ho; exact h.nones b s l hu hob
          | some => rw [hi] at ho; exact trn _ ho
        | _ => rw [hob] at ho; cases ho
      · exact trn _ ho
  cases d with
  | none => exact ⟨_, by rw [St.puts_append]; exact hRep⟩
  | some d => exact ⟨_, by rw [St.puts_append]; exact hRep.putTmp (hd d rfl) (gOut_ret hev h.fresh hn (fun i k hk => ⟨key_cell h hc (List.mem_of_getElem? hk), key_at h hc (List.mem_of_getElem? hk)⟩) hv (by rw [← hc.olen]; exact hb))⟩

theorem call_sound (h : Rep g0 w0 g w σ a N) {x : Operand} {args : Array Operand} {ats : Array TypeId} (ho : o.op = .call ⟨.value x, args, ats⟩) {f : Nat} (hf : calleeOf σ x = some f) {fd : Func} (hfd : P.funcs[f]? = some fd) (hbody : fd.body.isSome = true) (hname : (fd.name == "runtime.NumGoroutine") = false) (hd : ∀ t, o.dst = some t → t < N)
    {vs : List V} {ks : List Key} {outs : List (List V)} (hc : CallIs g w σ a args.toList vs ks outs) {r : R} (hcon : Contract P f (vs.map (handed ks)) outs r)
    (hn : ∀ g' a' w', Rep g0 w0 g' w' ((σ.puts (goneAll args.toList vs)).puts (boxW ks r.2 ++ dstW o.dst (backV ks r.1))) a' N → next a' w') : o.wp P a w next Q := by
  have hx : a.eval x = .func (.func f) #[] #[] := by
    cases x with
    | func f' => simp only [calleeOf, Option.some.injEq] at hf; subst hf; rfl
    | tmp t =>
      simp only [calleeOf] at hf
      split at hf
      · rename_i f' fi ca ht
        split at hf
        · rename_i he
          cases hf
          obtain ⟨c, h1, h2⟩ := h.env t _ ht
          have := val_inv h2
          subst this
          have e1 : fi = #[] := Array.eq_empty_of_size_eq_zero he.1
          have e2 : ca = #[] := Array.eq_empty_of_size_eq_zero he.2
          subst e1
          subst e2
          simp [Act.eval, Array.getD_eq_getD_getElem?, h1]
        · cases hf
      · cases hf
    | _ => cases hf
  have hrun : (execOp a.eval o).run P w = .ok (.enter f (args.toList.map a.eval).toArray) w := by
    have hb : fd.body.isNone = false := by cases hbb : fd.body <;> simp_all
    have hn1 : ¬ fd.name = "runtime.NumGoroutine" := by simpa using hname
    have hn2 : ¬ fd.body = none := by intro e; rw [e] at hb; cases hb
    have hmap : (args.toList.map a.eval).toArray = args.map a.eval := by apply Array.ext'; simp
    rw [hmap]
    simp only [execOp, ho]
    simp [resolve, Deferred.ofValue, hx, invoke, callFunc, program, hfd, hn1, hn2, Sem.run]
  unfold Oper.wp
  rw [hrun]
  refine (hcon _ w _ (call_in h hc)).mono fun e w' ⟨v, g', he, q1, q2, q3, q4, q5, q6, q7⟩ => ?_
  subst he
  obtain ⟨G, hG⟩ := call_back (d := o.dst) h hc hd q1 q2 q3 q4 q5 q6 q7
  exact hn G _ _ hG
end
end Go.Proofs.Ytkcopbnaleiocaa.Ev
