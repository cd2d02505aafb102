/- A call of a Go function: what the caller knows goes to the callee, and what the callee leaves comes back. A call of a Go function, as a whole. A call of a Go function: there and back. Regions: what the evaluator runs in the text's order holds in every order that the model may draw. Regions that draw their order. What is kept behind a region; what a call leaves. -/
import Derived.Test.YtacfehneeanlgaaDoorOpD
namespace Go.Proofs.YtacfehneeanlgaaDoor.Ev
open Go
set_option linter.unusedVariables false
set_option linter.unusedSimpArgs false

/-- What a callee finds. -/
structure Handed (g : Gh) (w : World) (vs : List V) (outs : List (List V)) (cargs : Array Value) : Prop where
  size : cargs.size = vs.length
  args : ∀ (i : Nat) (v : V), vs[i]? = some v → ∃ c, cargs[i]? = some c ∧ VRel g w (.tmp i) v c
  boxes : ∀ (i : Nat) (cs : List V), outs[i]? = some cs → BoxRel g w (.out i) cs
  fresh : ∀ b, w.heap.size ≤ b → g.own b = .free
  loc : ∀ t, g.at_ (.loc t) = none
  mp : ∀ t, g.at_ (.mp t) = none
  mn : ∀ t, g.at_ (.mn t) = none
  out : ∀ i b, g.at_ (.out i) = some b → i < outs.length
  nones : ∀ b r l, Slot.under .none r → g.own b ≠ .arr r l
  glob : GlobOk g w
/-- What a result may be. -/
def V.back1 : V → Prop
  | .val _ | .arr _ _ | .own _ _ | .uni _ _ | .slen _ => True
  | .agg vs => ∀ v ∈ vs, v.flat
  | _ => False
def V.back (no : Nat) : V → Prop
  | .tup us => ∀ u ∈ us, u.back1
  | .sarr _ rows => ∀ r ∈ rows, ∀ v ∈ r, v.flat ∨ ∃ i off, v = .ptr (.out i) off ∧ i < no
  | v => v.back1
/-- What an argument may be. -/
def V.inOk : V → Prop
  | .val _ | .arr _ _ | .own _ _ | .tup _ | .uni _ _ | .slen _ | .ptr _ _ => True
  | .agg vs => ∀ v ∈ vs, v.flat
  | _ => False
/-- What a call comes to. -/
def Contract (P : Program) (f : Nat) (vs : List V) (outs : List (List V)) (r : R) : Prop :=
  ∀ g w cargs, Handed g w vs outs cargs → Calls P f cargs w fun e w' => ∃ v g', e = .returned v ∧ VRel g' w' .ret r.1 v ∧ r.1.back outs.length ∧ r.2.length = outs.length ∧ (∀ (i : Nat) (cs : List V), r.2[i]? = some cs → BoxRel g' w' (.out i) cs ∧ ∀ v ∈ cs, v.flat) ∧ Evol g w g' w' ∧
    (∀ b, w'.heap.size ≤ b → g'.own b = .free) ∧ ∀ b s l, Slot.under .none s → g'.own b ≠ .arr s l

def ownAt : List Operand → List V → Nat → Nat → Option Nat
  | .tmp t :: xs, .own _ _ :: vs, i, u => if t = u then some i else ownAt xs vs (i + 1) u
  | _ :: xs, _ :: vs, i, u => ownAt xs vs (i + 1) u
  | _, _, _, _ => none
def inSlot (xs : List Operand) (vs : List V) (ks : List Key) : Slot → Option Slot
  | .tmp t => (ownAt xs vs 0 t).map .tmp
  | .cell k o => if k ∈ ks then some (.cell (.out (ks.idxOf k)) o) else none
  | _ => none
def outSlot (d : Option Nat) (ks : List Key) : Slot → Option Slot
  | .ret => d.map .tmp
  | .sub .ret i => d.map fun d => .sub (.tmp d) i
  | .cell (.out i) o => (ks[i]?).map fun k => .cell k o
  | _ => none
def gIn (G : Gh) (xs : List Operand) (vs : List V) (ks : List Key) : Gh where
  own b := match G.own b with
    | .free => .free
    | .other l => .other l
    | .arr s l => match inSlot xs vs ks s with | some s' => .arr s' l | none => .other l
    | .box k => if k ∈ ks then .box (.out (ks.idxOf k)) else .other 0
  at_ k := match k with | .out i => (ks[i]?).bind G.at_ | _ => none
def tr (d : Option Nat) (ks : List Key) : Perm → Perm
  | .free => .free
  | .other l => .other l
  | .arr s l => match outSlot d ks s with | some s' => .arr s' l | none => .free
  | .box _ => .free
def gOut (G : Gh) (n : Nat) (g' : Gh) (xs : List Operand) (vs : List V) (ks : List Key) (d : Option Nat) : Gh where
  own b := if b < n then match G.own b with
    | .free => .free
    | .other l => .other l
    | .arr s l => match inSlot xs vs ks s with | some _ => tr d ks (g'.own b) | none => .arr s l
    | .box k => .box k
    else tr d ks (g'.own b)
  at_ := G.at_

section
variable {G g g' : Gh} {w w' : World} {xs : List Operand} {vs : List V} {ks : List Key} {d : Option Nat}
theorem gIn_stable (b o : Nat) : (gIn G xs vs ks).stable b o ↔ G.stable b o := by
  simp only [Gh.stable, gIn]
  cases G.own b with
  | free => exact Iff.rfl
  | other => exact Iff.rfl
  | arr s l => simp only []; cases inSlot xs vs ks s <;> exact Iff.rfl
  | box k => simp only []; split <;> simp [Perm.stable]
theorem tr_stable {p : Perm} {o : Nat} (h : p.stable o) : (tr d ks p).stable o := by
  cases p with
  | free => exact h
  | other => exact h
  | arr s l => simp only [tr]; cases outSlot d ks s with | none => trivial | some => exact h
  | box => exact h.elim
theorem gOut_stable (hev : Evol (gIn G xs vs ks) w g' w') (hfr : ∀ b, w.heap.size ≤ b → G.own b = .free) {b o : Nat} {c : Value} (hs : g'.stable b o) : (gOut G w.heap.size g' xs vs ks d).stable b o := by
  simp only [Gh.stable, gOut] at hs ⊢
  by_cases hb : b < w.heap.size
  · rw [if_pos hb]
    cases ho : G.own b with
    | free => trivial
    | other l =>
      have := (hev.other b l (by simp [gIn, ho])).2
      rw [this] at hs
      exact hs
    | arr s l =>
      simp only []
      cases hi : inSlot xs vs ks s with
      | none =>
        have := (hev.other b l (by simp [gIn, ho, hi])).2
        rw [this] at hs
        exact hs
      | some s' => exact tr_stable hs
    | box k =>
      by_cases hk : k ∈ ks
      · have := hev.box b (ks.idxOf k) (by simp [gIn, ho, hk])
        rw [this] at hs
        exact hs.elim
      · have := (hev.other b 0 (by simp [gIn, ho, hk])).2
        rw [this] at hs
        exact absurd hs (Nat.not_lt_zero _)
  · rw [if_neg hb]
    exact tr_stable hs
theorem gOut_evol (hev : Evol (gIn G xs vs ks) w g' w') (hfr : ∀ b, w.heap.size ≤ b → G.own b = .free) : Evol G w (gOut G w.heap.size g' xs vs ks d) w' := by
  have hlt : ∀ b p, G.own b = p → p ≠ .free → b < w.heap.size := fun b p h hp => Nat.lt_of_not_le fun hle => hp (by rw [← h]; exact hfr b hle)
  refine ⟨hev.os, hev.tape, hev.output, hev.size, fun b hb ho => ?_, fun b l ho => ?_, fun b s l ho => ?_, fun b k ho => ?_, fun i b hb => hb⟩
  · exact ⟨(hev.free b hb (by simp [gIn, ho])).1, by simp [gOut, hb, ho]⟩
  · have hb := hlt b _ ho (by simp)
    exact ⟨(hev.other b l (by simp [gIn, ho])).1, by simp [gOut, hb, ho]⟩
  · have hb := hlt b _ ho (by simp)
    cases hi : inSlot xs vs ks s with
    | none =>
      have h1 := (hev.other b l (by simp [gIn, ho, hi])).1
      exact ⟨fun o c _ hc => by rw [cell_of_heap h1]; exact hc, .inr (.inr ⟨s, l, by simp [gOut, hb, ho, hi], Nat.le_refl _⟩)⟩
    | some s' =>
      obtain ⟨h1, h2⟩ := hev.arr b s' l (by simp [gIn, ho, hi])
      refine ⟨h1, ?_⟩
      have e : (gOut G w.heap.size g' xs vs ks d).own b = tr d ks (g'.own b) := by simp [gOut, hb, ho, hi]
      rw [e]
      rcases h2 with h2 | h2 | ⟨s2, l2, h2, hl⟩
      · exact .inl h2
      · rw [h2]; exact .inr (.inl rfl)
      · rw [h2]
        simp only [tr]
        cases outSlot d ks s2 with
        | none => exact .inr (.inl rfl)
        | some s3 => exact .inr (.inr ⟨s3, l2, rfl, hl⟩)
  · have hb := hlt b _ ho (by simp)
    simp [gOut, hb, ho]
/-- A slice's room comes back. -/
theorem gOut_arr (hev : Evol (gIn G xs vs ks) w g' w') {s s' : Slot} {b l : Nat} (ho : g'.own b = .arr s l) (hs : outSlot d ks s = some s') : (gOut G w.heap.size g' xs vs ks d).own b = .arr s' l := by
  have e : tr d ks (g'.own b) = .arr s' l := by rw [ho]; simp [tr, hs]
  by_cases hb : b < w.heap.size
  · cases hG : G.own b with
    | free => have := (hev.free b hb (by simp [gIn, hG])).2; rw [ho] at this; cases this
    | other l' => have := (hev.other b l' (by simp [gIn, hG])).2; rw [ho] at this; cases this
    | arr s2 l2 =>
      cases hi : inSlot xs vs ks s2 with
      | none => have := (hev.other b l2 (by simp [gIn, hG, hi])).2; rw [ho] at this; cases this
      | some s3 => simp [gOut, hb, hG, hi, e]
    | box k =>
      by_cases hk : k ∈ ks
      · have := hev.box b (ks.idxOf k) (by simp [gIn, hG, hk]); rw [ho] at this; cases this
      · have := (hev.other b 0 (by simp [gIn, hG, hk])).2; rw [ho] at this; cases this
  · simp [gOut, hb, e]
theorem gOut_flat (hev : Evol (gIn G xs vs ks) w g' w') (hfr : ∀ b, w.heap.size ≤ b → G.own b = .free) {s s' : Slot} {v : V} {c : Value} (hv : VRel g' w' s v c) (hf : v.flat) (hs : outSlot d ks s = some s' ∨ v.plain) : VRel (gOut G w.heap.size g' xs vs ks d) w' s' v c := by
  have hst : ∀ b o c, g'.stable b o → w'.cell? (pl b o) = some c → (gOut G w.heap.size g' xs vs ks d).stable b o ∧ w'.cell? (pl b o) = some c := fun b o c h1 h2 => ⟨gOut_stable (c := c) hev hfr h1, h2⟩
  cases hv with
  | val => exact .val _ _
  | arr _ cs xs' c h => exact .arr _ _ _ _ (h.mono hst)
  | own _ cs xs' c h hsp =>
    have hs := hs.resolve_right (fun h => h)
    refine .own _ _ _ _ (h.mono hst) ?_
    rcases hsp with h1 | h1 | ⟨b, cap, cur, e, rfl, h1, h2, h3, h4, h5⟩
    · exact .inl h1
    · exact .inr (.inl h1)
    · exact .inr (.inr ⟨b, cap, cur, e, rfl, h1, h2, gOut_arr hev h3 hs, h4, h5⟩)
  | _ => exact hf.elim
theorem gOut_none (hev : Evol (gIn G xs vs ks) w g' w') (hfr : ∀ b, w.heap.size ≤ b → G.own b = .free) {v : V} {c : Value} (hn : ∀ b r l, Slot.under .none r → g'.own b ≠ .arr r l) (hvr : VRel g' w' .none v c) (hf : v.flat) : VRel (gOut G w.heap.size g' xs vs ks d) w' .none v c := by
  have hst : ∀ b o c, g'.stable b o → w'.cell? (pl b o) = some c → (gOut G w.heap.size g' xs vs ks d).stable b o ∧ w'.cell? (pl b o) = some c := fun b o c h1 h2 => ⟨gOut_stable (c := c) hev hfr h1, h2⟩
  cases hvr with
  | val => exact .val _ _
  | arr _ cs xs' c h => exact .arr _ _ _ _ (h.mono hst)
  | own _ cs xs' c h hsp =>
    refine .own _ _ _ _ (h.mono hst) ?_
    rcases hsp with h1 | h1 | ⟨b, cap, cur, e, rfl, h1, h2, h3, h4, h5⟩
    · exact .inl h1
    · exact .inr (.inl h1)
    · exact absurd h3 (hn b _ _ (.refl _))
  | _ => exact hf.elim
theorem gOut_agg (hev : Evol (gIn G xs vs ks) w g' w') (hfr : ∀ b, w.heap.size ≤ b → G.own b = .free) {s s' : Slot} {us : List V} {c : Value} (hn : ∀ b r l, Slot.under .none r → g'.own b ≠ .arr r l) (hv : VRel g' w' s (.agg us) c) (hb : ∀ v ∈ us, v.flat) : VRel (gOut G w.heap.size g' xs vs ks d) w' s' (.agg us) c := by
  cases hv with
  | agg _ _ cs hl hf h => exact .agg _ _ _ hl hf (fun i v c hv hc => gOut_none hev hfr hn (h i v c hv hc) (hb v (List.mem_of_getElem? hv)))
theorem gOut_sarr (hev : Evol (gIn G xs vs ks) w g' w') (hfr : ∀ b, w.heap.size ≤ b → G.own b = .free) {s s' : Slot} {n : Nat} {rows : List (List V)} {c : Value} (hn : ∀ b r l, Slot.under .none r → g'.own b ≠ .arr r l) (hks : ∀ (i : Nat) (k : Key), ks[i]? = some k → k.isMp = false ∧ ∃ b, G.at_ k = some b)
    (hv : VRel g' w' s (.sarr n rows) c) (hb : ∀ r ∈ rows, ∀ v ∈ r, v.flat ∨ ∃ i off, v = .ptr (.out i) off ∧ i < ks.length) : VRel (gOut G w.heap.size g' xs vs ks d) w' s' (backV ks (.sarr n rows)) c := by
  have hst : ∀ b o c, g'.stable b o → w'.cell? (pl b o) = some c → (gOut G w.heap.size g' xs vs ks d).stable b o ∧ w'.cell? (pl b o) = some c := fun b o c h1 h2 => ⟨gOut_stable (c := c) hev hfr h1, h2⟩
  cases hv with
  | sarr _ _ _ b f hl hm hf hc h =>
    have back : ∀ {i j : Nat} {r : List V} {v : V}, (rows.map fun r => r.map (backC ks))[i]? = some r → r[j]? = some v → ∃ r0 v0, rows[i]? = some r0 ∧ r0[j]? = some v0 ∧ v = backC ks v0 := by
      intro i j r v hr hv
      simp only [List.getElem?_map, Option.map_eq_some_iff] at hr
      obtain ⟨r0, h1, rfl⟩ := hr
      simp only [List.getElem?_map, Option.map_eq_some_iff] at hv
      obtain ⟨v0, h2, rfl⟩ := hv
      exact ⟨r0, v0, h1, h2, rfl⟩
    have el : ∀ {i j : Nat} {r : List V} {v : V}, rows[i]? = some r → r[j]? = some v → (backC ks v).cellP ∧ VRel (gOut G w.heap.size g' xs vs ks d) w' .none (backC ks v) (f i j) := by
      intro i j r v hr hv
      have hvr := h i j r v hr hv
      rcases hb r (List.mem_of_getElem? hr) v (List.mem_of_getElem? hv) with hfl | ⟨m, off, rfl, hlt⟩
      · have : backC ks v = v := by cases v <;> first | rfl | exact hfl.elim
        rw [this]
        exact ⟨hfl.p, gOut_none hev hfr hn hvr hfl⟩
      · have hk : ks[m]? = some ks[m] := List.getElem?_eq_getElem hlt
        obtain ⟨hkm, bk, hbk⟩ := hks m _ hk
        have hat := hev.outs m bk (by simp [gIn, hk, hbk])
        have e : backC ks (.ptr (.out m) off) = .ptr ks[m] off := by simp only [backC, hk]
        rw [e]
        refine ⟨trivial, ?_⟩
        generalize f i j = u at hvr
        cases hvr with
        | ptr _ _ _ b' hb' hk' =>
          have : b' = bk := Option.some.inj (hb'.symm.trans hat)
          subst this
          exact .ptr _ _ _ _ hbk hkm
    have hlen : (rows.map fun r => r.map (backC ks)).length = rows.length := by simp
    have := VRel.sarr (g := gOut G w.heap.size g' xs vs ks d) (w := w') s' n (rows.map fun r => r.map (backC ks)) b f (fun i r hr => by
      simp only [List.getElem?_map, Option.map_eq_some_iff] at hr
      obtain ⟨r0, h1, rfl⟩ := hr
      simpa using hl i r0 h1) (by rw [hlen]; exact hm) (fun i j r v hr hv => by
      obtain ⟨r0, v0, h1, h2, rfl⟩ := back hr hv
      exact (el h1 h2).1) (fun i j r v hr hv => by
      obtain ⟨r0, v0, h1, h2, rfl⟩ := back hr hv
      exact hst _ _ _ (hc i j r0 v0 h1 h2).1 (hc i j r0 v0 h1 h2).2) (fun i j r v hr hv => by
      obtain ⟨r0, v0, h1, h2, rfl⟩ := back hr hv
      exact (el h1 h2).2)
    rw [hlen] at this
    exact this
theorem gOut_uni (hev : Evol (gIn G xs vs ks) w g' w') (hfr : ∀ b, w.heap.size ≤ b → G.own b = .free) {s s' : Slot} {cs : List CT} {rows : List (List D)} {c : Value} (hv : VRel g' w' s (.uni cs rows) c) (hs : outSlot d ks s = some s') : VRel (gOut G w.heap.size g' xs vs ks d) w' s' (.uni cs rows) c := by
  have hst : ∀ b o c, g'.stable b o → w'.cell? (pl b o) = some c → (gOut G w.heap.size g' xs vs ks d).stable b o ∧ w'.cell? (pl b o) = some c := fun b o c h1 h2 => ⟨gOut_stable (c := c) hev hfr h1, h2⟩
  cases hv with
  | uni _ _ _ _ h => exact .uni _ _ _ _ (h.mono hst fun b ho => ⟨gOut_arr hev ho hs, rfl⟩)
theorem gOut_slen {s s' : Slot} {n : Nat} {c : Value} {G' : Gh} (hv : VRel g' w' s (.slen n) c) : VRel G' w' s' (.slen n) c := by
  cases hv; exact .slen _ _ _ _
/-- A result comes back. -/
theorem gOut_ret (hev : Evol (gIn G xs vs ks) w g' w') (hfr : ∀ b, w.heap.size ≤ b → G.own b = .free) {t : Nat} {v : V} {c : Value} (hn : ∀ b r l, Slot.under .none r → g'.own b ≠ .arr r l) (hks : ∀ (i : Nat) (k : Key), ks[i]? = some k → k.isMp = false ∧ ∃ b, G.at_ k = some b) (hv : VRel g' w' .ret v c) (hb : v.back ks.length) : VRel (gOut G w.heap.size g' xs vs ks (some t)) w' (.tmp t) (backV ks v) c := by
  cases v with
  | val => exact gOut_flat hev hfr hv trivial (.inr trivial)
  | arr => exact gOut_flat hev hfr hv trivial (.inr trivial)
  | own => exact gOut_flat hev hfr hv trivial (.inl rfl)
  | uni => exact gOut_uni hev hfr hv rfl
  | slen => exact gOut_slen hv
  | agg => exact gOut_agg hev hfr hn hv hb
  | sarr => exact gOut_sarr hev hfr hn hks hv hb
  | tup us =>
    cases hv with
    | tup _ _ cs hl hr h =>
      refine .tup _ _ _ hl hr (fun i v c hv hc => ?_)
      have hvr := h i v c hv hc
      cases v with
      | val => exact gOut_flat hev hfr hvr trivial (.inr trivial)
      | arr => exact gOut_flat hev hfr hvr trivial (.inr trivial)
      | own => exact gOut_flat hev hfr hvr trivial (.inl rfl)
      | uni => exact gOut_uni hev hfr hvr rfl
      | slen => exact gOut_slen hvr
      | agg => exact gOut_agg hev hfr hn hvr (hb _ (List.mem_of_getElem? hv))
      | _ => exact (hb _ (List.mem_of_getElem? hv)).elim
  | _ => exact hb.elim
end
end Go.Proofs.YtacfehneeanlgaaDoor.Ev
namespace Go.Proofs.YtacfehneeanlgaaDoor.Ev
open Go
set_option linter.unusedVariables false
set_option linter.unusedSimpArgs false
section
variable {P : Program} {I : Info} {g0 g : Gh} {w0 w : World} {σ : St} {a : Act} {N : Nat} {o : Oper} {ops : List Oper} {next : Act → World → Prop} {Q : Exit → Act → World → Prop} {ws : List W} {b : Bool}

abbrev CallArgs := Nat × List V × List Key × List (List V) × List W
theorem opds_run (h : Rep g0 w0 g w σ a N) {k : List V → M CallArgs} {r : CallArgs} : ∀ (xs : List Operand) (acc : List V), (opds xs acc k).run σ = some r →
    ∃ vs : List V, vs.length = xs.length ∧ (k (acc.reverse ++ vs)).run σ = some r ∧ ∀ (i : Nat) (x : Operand) (v : V), xs[i]? = some x → vs[i]? = some v → VRel g w (slotOf x) v (a.eval x) ∧ (∀ t, x = .tmp t → σ.tmp t = some v) ∧ ((∀ t, x ≠ .tmp t) → v.plain)
  | [], acc, hr => ⟨[], rfl, by simpa [opds] using hr, fun i x v hx => by simp at hx⟩
  | x :: xs, acc, hr => by
    have go : ∀ v : V, (opds xs (v :: acc) k).run σ = some r → VRel g w (slotOf x) v (a.eval x) → (∀ t, x = .tmp t → σ.tmp t = some v) → ((∀ t, x ≠ .tmp t) → v.plain) →
        ∃ vs : List V, vs.length = (x :: xs).length ∧ (k (acc.reverse ++ vs)).run σ = some r ∧ ∀ (i : Nat) (y : Operand) (v : V), (x :: xs)[i]? = some y → vs[i]? = some v → VRel g w (slotOf y) v (a.eval y) ∧ (∀ t, y = .tmp t → σ.tmp t = some v) ∧ ((∀ t, y ≠ .tmp t) → v.plain) := by
      intro v hr h1 h2 h3
      obtain ⟨vs, hl, hk, hv⟩ := opds_run h xs (v :: acc) hr
      refine ⟨v :: vs, by simp [hl], by simpa using hk, fun i y u hy hu => ?_⟩
      cases i with
      | zero => simp at hy hu; subst hy; subst hu; exact ⟨h1, h2, h3⟩
      | succ i => exact hv i y u (by simpa using hy) (by simpa using hu)
    cases x with
    | tmp t =>
      simp only [opds, M.run] at hr
      cases hv : σ.tmp t with
      | none => rw [hv] at hr; cases hr
      | some v =>
        rw [hv] at hr
        obtain ⟨c, h1, h2⟩ := h.env t v hv
        refine go v hr ?_ (fun t' e => by cases e; exact hv) (fun hx => absurd rfl (hx t))
        simp only [Act.eval, Array.getD_eq_getD_getElem?, h1, Option.getD_some]
        exact h2
    | const c => exact go (.val c) hr (.val _ c) (fun _ e => nomatch e) (fun _ => trivial)
    | func f => exact go _ hr (.val _ _) (fun _ e => nomatch e) (fun _ => trivial)
    | global => cases hr
theorem allCells_run {k : List (List V) → M CallArgs} {r : CallArgs} : ∀ (ks : List Key) (acc : List (List V)), (allCells ks acc k).run σ = some r →
    ∃ outs : List (List V), outs.length = ks.length ∧ (k (acc.reverse ++ outs)).run σ = some r ∧ ∀ (i : Nat) (b : Key) (cs : List V), ks[i]? = some b → outs[i]? = some cs → σ.cells b = some cs
  | [], acc, hr => ⟨[], rfl, by simpa [allCells] using hr, fun i b cs hb => by simp at hb⟩
  | b :: ks, acc, hr => by
    simp only [allCells, M.run] at hr
    cases hc : σ.cells b with
    | none => rw [hc] at hr; cases hr
    | some cs =>
      rw [hc] at hr
      obtain ⟨outs, hl, hk, ho⟩ := allCells_run ks (cs :: acc) hr
      refine ⟨cs :: outs, by simp [hl], by simpa using hk, fun i b' cs' hb hcs => ?_⟩
      cases i with
      | zero => simp at hb hcs; subst hb; subst hcs; exact hc
      | succ i => exact ho i b' cs' (by simpa using hb) (by simpa using hcs)
theorem keysOf_nodup : ∀ (vs : List V) (ks : List Key), ks.Nodup → (keysOf vs ks).Nodup
  | [], ks, h => h
  | v :: vs, ks, h => by
    cases v with
    | ptr k off =>
      simp only [keysOf]
      refine keysOf_nodup vs _ ?_
      split
      · exact h
      · rename_i hk
        rw [List.nodup_append]
        exact ⟨h, by simp, fun a ha b hb => by simp at hb; subst hb; rintro rfl; exact hk ha⟩
    | _ => exact keysOf_nodup vs ks h
theorem keysOf_sub : ∀ (vs : List V) (ks : List Key), (∀ k ∈ ks, k ∈ keysOf vs ks) ∧ (∀ k off, V.ptr k off ∈ vs → k ∈ keysOf vs ks) ∧ (∀ k ∈ keysOf vs ks, k ∈ ks ∨ ∃ off, V.ptr k off ∈ vs)
  | [], ks => ⟨fun k h => h, fun k off h => by simp at h, fun k h => .inl h⟩
  | v :: vs, ks => by
    cases v with
    | ptr k0 off0 =>
      simp only [keysOf]
      obtain ⟨h1, h2, h3⟩ := keysOf_sub vs (if k0 ∈ ks then ks else ks ++ [k0])
      refine ⟨fun k hk => h1 k ?_, fun k off hk => ?_, fun k hk => ?_⟩
      · split
        · exact hk
        · exact List.mem_append_left _ hk
      · rcases List.mem_cons.1 hk with e | hk
        · cases e
          refine h1 k0 ?_
          split
          · assumption
          · simp
        · exact h2 k off hk
      · rcases h3 k hk with h4 | ⟨off, h4⟩
        · split at h4
          · exact .inl h4
          · rcases List.mem_append.1 h4 with h5 | h5
            · exact .inl h5
            · simp at h5; subst h5; exact .inr ⟨off0, .head _⟩
        · exact .inr ⟨off, .tail _ h4⟩
    | _ =>
      obtain ⟨h1, h2, h3⟩ := keysOf_sub vs ks
      refine ⟨h1, fun k off hk => h2 k off (by rcases List.mem_cons.1 hk with e | hk; cases e; exact hk), fun k hk => ?_⟩
      rcases h3 k hk with h4 | ⟨off, h4⟩
      · exact .inl h4
      · exact .inr ⟨off, .tail _ h4⟩
theorem ownAt_mem : ∀ (xs : List Operand) (vs : List V) (j t i : Nat), ownAt xs vs j t = some i → t ∈ ownTmps xs vs
  | [], vs, j, t, i, h => by simp [ownAt] at h
  | _ :: _, [], j, t, i, h => by unfold ownAt at h; simp at h
  | x :: xs, v :: vs, j, t, i, h => by
    cases x with
    | tmp u =>
      cases v with
      | own =>
        simp only [ownAt] at h
        simp only [ownTmps, List.mem_cons]
        split at h
        · rename_i e; exact .inl e.symm
        · exact .inr (ownAt_mem xs vs _ t i h)
      | _ => exact ownAt_mem xs vs _ t i h
    | _ => exact ownAt_mem xs vs _ t i h
theorem ownAt_get : ∀ (xs : List Operand) (vs : List V) (j t i : Nat) (cts : List CT) (rows : List (List D)), (ownTmps xs vs).Nodup → xs[i]? = some (.tmp t) → vs[i]? = some (.own cts rows) → ownAt xs vs j t = some (j + i)
  | [], vs, j, t, i, _, _, _, h, _ => by simp at h
  | _ :: _, [], j, t, i, _, _, _, _, h => by simp at h
  | x :: xs, v :: vs, j, t, i, cts, rows, hn, hx, hv => by
    have mem : ∀ (xs : List Operand) (vs : List V) (i : Nat), xs[i]? = some (.tmp t) → vs[i]? = some (.own cts rows) → t ∈ ownTmps xs vs := by
      intro xs
      induction xs with
      | nil => intro vs i h; simp at h
      | cons x xs ih =>
        intro vs i hx hv
        cases vs with
        | nil => simp at hv
        | cons v vs =>
          cases i with
          | zero => simp at hx hv; subst hx; subst hv; simp [ownTmps]
          | succ i =>
            have := ih vs i (by simpa using hx) (by simpa using hv)
            cases x with
            | tmp u => cases v <;> first | exact this | exact List.mem_cons_of_mem _ this
            | _ => exact this
    cases i with
    | zero => simp at hx hv; subst hx; subst hv; simp [ownAt]
    | succ i =>
      have hx' : xs[i]? = some (.tmp t) := by simpa using hx
      have hv' : vs[i]? = some (.own cts rows) := by simpa using hv
      have hm := mem xs vs i hx' hv'
      cases x with
      | tmp u =>
        cases v with
        | own =>
          simp only [ownTmps, List.nodup_cons] at hn
          have hne : u ≠ t := fun e => hn.1 (by rw [e]; exact hm)
          simp only [ownAt, hne, if_false]
          rw [ownAt_get xs vs (j + 1) t i cts rows hn.2 hx' hv']
          congr 1
          omega
        | _ =>
          have := ownAt_get xs vs (j + 1) t i cts rows hn hx' hv'
          simp only [ownAt]
          rw [this]
          congr 1
          omega
      | _ =>
        have := ownAt_get xs vs (j + 1) t i cts rows hn hx' hv'
        simp only [ownAt]
        rw [this]
        congr 1
        omega

theorem gIn_flat {G : Gh} {xs : List Operand} {vs : List V} {ks : List Key} {s s' : Slot} {v : V} {c : Value} (hn : ∀ b r l, Slot.under .none r → G.own b ≠ .arr r l) (hv : VRel G w s v c) (hp : v.plain ∨ inSlot xs vs ks s = some s') (hnp : ∀ k off, v ≠ .ptr k off) (hnt : ∀ us, v ≠ .tup us) (hne : v.inOk) (hnu : ∀ c x, v ≠ .uni c x) : VRel (gIn G xs vs ks) w s' v c := by
  have hst : ∀ b o c, G.stable b o → w.cell? (pl b o) = some c → (gIn G xs vs ks).stable b o ∧ w.cell? (pl b o) = some c := fun b o c h1 h2 => ⟨(gIn_stable b o).2 h1, h2⟩
  cases hv with
  | val => exact .val _ _
  | arr _ _ _ _ h => exact .arr _ _ _ _ (h.mono hst)
  | own _ _ _ _ h hsp =>
    have hs := hp.resolve_left (fun h => h)
    refine .own _ _ _ _ (h.mono hst) ?_
    rcases hsp with h1 | h1 | ⟨b, cap, cur, e, rfl, h1, h2, h3, h4, h5⟩
    · exact .inl h1
    · exact .inr (.inl h1)
    · exact .inr (.inr ⟨b, cap, cur, e, rfl, h1, h2, by simp [gIn, h3, hs], h4, h5⟩)
  | agg _ us cs hl hf h =>
    refine .agg _ _ _ hl hf (fun i v c hv hc => ?_)
    have hvr := h i v c hv hc
    have hfl := hne v (List.mem_of_getElem? hv)
    cases hvr with
    | val => exact .val _ _
    | arr _ _ _ _ h => exact .arr _ _ _ _ (h.mono hst)
    | own _ _ _ _ h hsp =>
      refine .own _ _ _ _ (h.mono hst) ?_
      rcases hsp with h1 | h1 | ⟨b, cap, cur, e, rfl, h1, h2, h3, h4, h5⟩
      · exact .inl h1
      · exact .inr (.inl h1)
      · exact absurd h3 (hn b _ _ (.refl _))
    | _ => exact hfl.elim
  | ptr => exact absurd rfl (hnp _ _)
  | mp => exact hne.elim
  | eptr => exact hne.elim
  | tup => exact absurd rfl (hnt _)
  | uni => exact absurd rfl (hnu _ _)
  | slen => exact .slen _ _ _ _
  | ms => exact hne.elim
  | mptr => exact hne.elim
  | sarr => exact hne.elim
  | sptr => exact hne.elim

def GoneOk (g0 : Gh) (w0 : World) (g : Gh) (w : World) (σ : St) (a : Act) (N : Nat) (xs : List Operand) (vs : List V) : Prop :=
  Rep g0 w0 g w (σ.puts (goneAll xs vs)) a N ∧ (∀ t ∈ ownTmps xs vs, ∀ u, (σ.puts (goneAll xs vs)).tmp t = some u → u.plain) ∧ (∀ t, t ∉ ownTmps xs vs → (σ.puts (goneAll xs vs)).tmp t = σ.tmp t) ∧ ∀ k, (σ.puts (goneAll xs vs)).cells k = σ.cells k
theorem own_mem {t : Nat} {cts : List CT} {rows : List (List D)} : ∀ (xs : List Operand) (vs : List V) (i : Nat), xs[i]? = some (.tmp t) → vs[i]? = some (.own cts rows) → t ∈ ownTmps xs vs := by
  intro xs
  induction xs with
  | nil => intro vs i h; simp at h
  | cons x xs ih =>
    intro vs i hx hv
    cases vs with
    | nil => simp at hv
    | cons v vs =>
      cases i with
      | zero => simp at hx hv; subst hx; subst hv; simp [ownTmps]
      | succ i =>
        have := ih vs i (by simpa using hx) (by simpa using hv)
        cases x with
        | tmp u => cases v <;> first | exact this | exact List.mem_cons_of_mem _ this
        | _ => exact this
theorem goneAll_rep : ∀ (xs : List Operand) (vs : List V) (σ : St), Rep g0 w0 g w σ a N → (ownTmps xs vs).Nodup → (∀ (i : Nat) (t : Nat) (v : V), xs[i]? = some (.tmp t) → vs[i]? = some v → σ.tmp t = some v) → (∀ v ∈ vs, ∀ us, v ≠ .tup us) → (∀ v ∈ vs, ∀ c x, v ≠ .uni c x) → GoneOk g0 w0 g w σ a N xs vs
  | [], vs, σ, h, _, _, _, _ => ⟨h, fun t ht => by simp [ownTmps] at ht, fun _ _ => rfl, fun _ => rfl⟩
  | _ :: _, [], σ, h, _, _, _, _ => ⟨h, fun t ht => by unfold ownTmps at ht; simp at ht, fun _ _ => rfl, fun _ => rfl⟩
  | x :: xs, v :: vs, σ, h, hn, hσ, ht, hun => by
    have skip : gone x v = [] → ownTmps (x :: xs) (v :: vs) = ownTmps xs vs → GoneOk g0 w0 g w σ a N (x :: xs) (v :: vs) := fun e1 e2 => by
      have := goneAll_rep xs vs σ h (by rw [← e2]; exact hn) (fun i t u hx hu => hσ (i + 1) t u (by simpa using hx) (by simpa using hu)) (fun u hu => ht u (.tail _ hu)) (fun u hu => hun u (.tail _ hu))
      unfold GoneOk at this ⊢
      rw [e2]
      have e3 : goneAll (x :: xs) (v :: vs) = goneAll xs vs := by simp [goneAll, e1]
      rw [e3]
      exact this
    cases x with
    | tmp s =>
      cases v with
      | own cts rows =>
        simp only [ownTmps, List.nodup_cons] at hn
        have hs := hσ 0 s _ rfl rfl
        have h1 := h.viewTmp hs (v' := .arr cts rows) (fun c hc => hc.view)
        have ih := goneAll_rep xs vs _ h1 hn.2 (fun i t u hx hu => by
          have h2 := hσ (i + 1) t u (by simpa using hx) (by simpa using hu)
          by_cases e : s = t
          · subst e
            rw [hs] at h2
            cases h2
            exact absurd (own_mem xs vs i hx hu) hn.1
          · simp [e]; exact h2) (fun u hu => ht u (.tail _ hu)) (fun u hu => hun u (.tail _ hu))
        obtain ⟨i1, i2, i3, i4⟩ := ih
        refine ⟨i1, fun t htm u hu => ?_, fun t htm => ?_, fun k => ?_⟩
        · simp only [ownTmps, List.mem_cons] at htm
          by_cases e : t ∈ ownTmps xs vs
          · exact i2 t e u hu
          · have := i3 t e
            rw [show (σ.puts (goneAll (.tmp s :: xs) (.own cts rows :: vs))).tmp t = ((σ.put (.tmp s (some (.arr cts rows)))).puts (goneAll xs vs)).tmp t from rfl, this] at hu
            have e2 : t = s := htm.resolve_right e
            subst e2
            simp at hu
            subst hu
            trivial
        · simp only [ownTmps, List.mem_cons, not_or] at htm
          have := i3 t htm.2
          rw [show (σ.puts (goneAll (.tmp s :: xs) (.own cts rows :: vs))).tmp t = ((σ.put (.tmp s (some (.arr cts rows)))).puts (goneAll xs vs)).tmp t from rfl, this]
          simp [Ne.symm htm.1]
        · have := i4 k
          rw [show (σ.puts (goneAll (.tmp s :: xs) (.own cts rows :: vs))).cells k = ((σ.put (.tmp s (some (.arr cts rows)))).puts (goneAll xs vs)).cells k from rfl, this]
          simp
      | tup us => exact absurd rfl (ht _ (.head _) us)
      | uni c x => exact absurd rfl (hun _ (.head _) c x)
      | _ => exact skip rfl rfl
    | _ => exact skip (by cases v <;> rfl) (by cases v <;> rfl)
end
end Go.Proofs.YtacfehneeanlgaaDoor.Ev
namespace Go.Proofs.YtacfehneeanlgaaDoor.Ev
open Go
set_option linter.unusedVariables false
set_option linter.unusedSimpArgs false
section
variable {P : Program} {I : Info} {g0 g : Gh} {w0 w : World} {σ : St} {a : Act} {N : Nat} {o : Oper} {ops : List Oper} {next : Act → World → Prop} {Q : Exit → Act → World → Prop} {ws : List W} {b : Bool}

/-- What callM finds. -/
structure CallIs (g : Gh) (w : World) (σ : St) (a : Act) (xs : List Operand) (vs : List V) (ks : List Key) (outs : List (List V)) : Prop where
  len : vs.length = xs.length
  args : ∀ (i : Nat) (x : Operand) (v : V), xs[i]? = some x → vs[i]? = some v → VRel g w (slotOf x) v (a.eval x) ∧ (∀ t, x = .tmp t → σ.tmp t = some v) ∧ ((∀ t, x ≠ .tmp t) → v.plain)
  ok : ∀ v ∈ vs, argOk v = true
  nodup : (ownTmps xs vs).Nodup
  keys : ks = keysOf vs []
  olen : outs.length = ks.length
  flats : ∀ cs ∈ outs, ∀ v ∈ cs, v.flat
  outs : ∀ (i : Nat) (b : Key) (cs : List V), ks[i]? = some b → outs[i]? = some cs → σ.cells b = some cs
theorem callM_run (h : Rep g0 w0 g w σ a N) {f : Nat} {xs : List Operand} {r : CallArgs} (hr : (callM f xs).run σ = some r) :
    ∃ vs outs, CallIs g w σ a xs vs (keysOf vs []) outs ∧ r = (f, vs.map (handed (keysOf vs [])), keysOf vs [], outs, goneAll xs vs) := by
  unfold callM at hr
  obtain ⟨vs, hl, hr, hv⟩ := opds_run h xs [] hr
  rw [show ([] : List V).reverse ++ vs = vs from rfl] at hr
  by_cases hc : vs.all argOk = true ∧ (ownTmps xs vs).Nodup
  · rw [if_pos hc] at hr
    obtain ⟨outs, hol, hr, ho⟩ := allCells_run (σ := σ) (keysOf vs []) [] hr
    rw [show ([] : List (List V)).reverse ++ outs = outs from rfl] at hr
    by_cases hfo : (outs.all fun x => x.all cellOk) = true
    · rw [if_pos hfo] at hr
      simp only [M.run, Option.some.injEq] at hr
      exact ⟨vs, outs, ⟨hl, hv, fun v hm => List.all_eq_true.1 hc.1 v hm, hc.2, rfl, hol, fun cs hcs v hv => by
        have hck := List.all_eq_true.1 (List.all_eq_true.1 hfo cs hcs) v hv
        (cases v <;> first | trivial | cases hck), ho⟩, hr.symm⟩
    · rw [if_neg hfo] at hr; cases hr
  · rw [if_neg hc] at hr
    cases hr
theorem key_at (h : Rep g0 w0 g w σ a N) {xs : List Operand} {vs : List V} {ks : List Key} {outs : List (List V)} (hc : CallIs g w σ a xs vs ks outs) {k : Key} (hk : k ∈ ks) : ∃ b, g.at_ k = some b := by
  rw [hc.keys] at hk
  rcases (keysOf_sub vs []).2.2 k hk with h1 | ⟨off, h1⟩
  · simp at h1
  · obtain ⟨i, hi, e⟩ := List.getElem_of_mem h1
    have hv : vs[i]? = some (.ptr k off) := by rw [← e]; exact List.getElem?_eq_getElem hi
    obtain ⟨h2, _, _⟩ := hc.args i _ _ (List.getElem?_eq_getElem (by have := hc.len; omega)) hv
    obtain ⟨b, hb, _⟩ := ptr_inv h2
    exact ⟨b, hb⟩
theorem key_cell (h : Rep g0 w0 g w σ a N) {xs : List Operand} {vs : List V} {ks : List Key} {outs : List (List V)} (hc : CallIs g w σ a xs vs ks outs) {k : Key} (hk : k ∈ ks) : k.isMp = false := by
  rw [hc.keys] at hk
  rcases (keysOf_sub vs []).2.2 k hk with h1 | ⟨off, h1⟩
  · simp at h1
  · obtain ⟨i, hi, e⟩ := List.getElem_of_mem h1
    have hv : vs[i]? = some (.ptr k off) := by rw [← e]; exact List.getElem?_eq_getElem hi
    obtain ⟨h2, _, _⟩ := hc.args i _ _ (List.getElem?_eq_getElem (by have := hc.len; omega)) hv
    exact ptr_key h2
theorem keys_nodup {xs : List Operand} {vs : List V} {ks : List Key} {outs : List (List V)} (hc : CallIs g w σ a xs vs ks outs) : ks.Nodup := by rw [hc.keys]; exact keysOf_nodup vs [] (by simp)
theorem idx_key {xs : List Operand} {vs : List V} {ks : List Key} {outs : List (List V)} (hc : CallIs g w σ a xs vs ks outs) {i : Nat} {k : Key} (hk : ks[i]? = some k) : ks.idxOf k = i ∧ k ∈ ks := by
  obtain ⟨hi, rfl⟩ := List.getElem?_eq_some_iff.1 hk
  exact ⟨(keys_nodup hc).idxOf_getElem i hi, List.getElem_mem hi⟩
theorem call_in (h : Rep g0 w0 g w σ a N) {xs : List Operand} {vs : List V} {ks : List Key} {outs : List (List V)} (hc : CallIs g w σ a xs vs ks outs) : Handed (gIn g xs vs ks) w (vs.map (handed ks)) outs (xs.map a.eval).toArray := by
  refine ⟨by simp [hc.len], fun i v hv => ?_, fun i cs hcs => ?_, fun b hb => by simp [gIn, h.fresh b hb], fun t => rfl, fun t => rfl, fun t => rfl, fun i b hb => ?_, fun b r l hu ho => ?_, fun x hx => by obtain ⟨q1, q2, q3⟩ := h.evol.glob h.base.2 x hx; exact ⟨by simp only [gIn, q1], q2, q3⟩⟩
  · simp only [List.getElem?_map, Option.map_eq_some_iff] at hv
    obtain ⟨u, hu, rfl⟩ := hv
    have hi : i < xs.length := by have := (List.getElem?_eq_some_iff.1 hu).1; have := hc.len; omega
    obtain ⟨h1, h2, h3⟩ := hc.args i _ u (List.getElem?_eq_getElem hi) hu
    have hok := hc.ok u (List.mem_of_getElem? hu)
    refine ⟨a.eval xs[i], by simp [List.getElem?_eq_getElem hi], ?_⟩
    cases u with
    | ptr k off =>
      obtain ⟨b, hb, e⟩ := ptr_inv h1
      have hk : k ∈ ks := by rw [hc.keys]; exact (keysOf_sub vs []).2.1 k off (List.mem_of_getElem? hu)
      rw [e]
      refine .ptr _ _ _ _ ?_ rfl
      simp only [gIn]
      have : ks[ks.idxOf k]? = some k := by
        rw [List.getElem?_eq_getElem (List.idxOf_lt_length_of_mem hk)]
        simp
      rw [this]
      exact hb
    | val => exact gIn_flat h.nones h1 (.inl trivial) (by simp [handed]) (by simp [handed]) trivial (by simp [handed])
    | arr => exact gIn_flat h.nones h1 (.inl trivial) (by simp [handed]) (by simp [handed]) trivial (by simp [handed])
    | agg us => exact gIn_flat h.nones h1 (.inl trivial) (by simp [handed]) (by simp [handed]) (fun v hv => by have hck := List.all_eq_true.1 hok v hv; (cases v <;> first | trivial | cases hck)) (by simp [handed])
    | own cts rows =>
      cases hx : xs[i] with
      | tmp t =>
        rw [hx] at h1
        have := ownAt_get xs vs 0 t i cts rows hc.nodup (by rw [List.getElem?_eq_getElem hi, hx]) hu
        simp only [Nat.zero_add] at this
        exact gIn_flat h.nones h1 (.inr (by simp only [inSlot, slotOf, this, Option.map_some])) (by simp [handed]) (by simp [handed]) trivial (by simp [handed])
      | _ => exact (h3 (by simp [hx])).elim
    | _ => cases hok
  · have hi : i < ks.length := by have := (List.getElem?_eq_some_iff.1 hcs).1; have := hc.olen; omega
    have hk : ks[i]? = some ks[i] := List.getElem?_eq_getElem hi
    obtain ⟨e1, e2⟩ := idx_key hc hk
    obtain ⟨b, cur, e, h1, h2, h3, h4, h6, h5⟩ := (h.box _ cs (hc.outs i _ cs hk hcs)).cell (key_cell h hc e2)
    refine .ofCell rfl ⟨b, cur, e, by simp only [gIn, hk, Option.bind_some]; exact h1, by simp [gIn, h2, e1], h3, h4, h6, fun j v c hv hcc => ?_⟩
    have hfl := hc.flats cs (List.mem_of_getElem? hcs) v (List.mem_of_getElem? hv)
    exact gIn_flat h.nones (h5 j v c hv hcc) (.inr (by simp [inSlot, e1])) (by rintro k off rfl; exact hfl) (by rintro us rfl; exact hfl) (by cases v <;> first | trivial | exact hfl) (by rintro c x rfl; exact hfl)
  · simp only [gIn] at hb
    cases hk : ks[i]? with
    | none => rw [hk] at hb; cases hb
    | some k => have := (List.getElem?_eq_some_iff.1 hk).1; have := hc.olen; omega
  · simp only [gIn] at ho
    cases hob : g.own b with
    | arr s l' =>
      rw [hob] at ho
      simp only at ho
      cases hi : inSlot xs vs ks s with
      | none => rw [hi] at ho; cases ho
      | some s' =>
        rw [hi] at ho
        cases ho
        have hroot := Slot.under_root hu
        unfold inSlot at hi
        split at hi
        · simp only [Option.map_eq_some_iff] at hi
          obtain ⟨j, _, rfl⟩ := hi
          simp [Slot.root] at hroot
        · split at hi
          · cases hi; simp [Slot.root] at hroot
          · cases hi
        · cases hi
    | free => rw [hob] at ho; cases ho
    | other => rw [hob] at ho; cases ho
    | box k => rw [hob] at ho; simp only at ho; split at ho <;> cases ho

theorem boxW_tmp : ∀ (ks : List Key) (os : List (List V)) (σ : St) (t : Nat), (σ.puts (boxW ks os)).tmp t = σ.tmp t
  | [], _, _, _ => rfl
  | _ :: _, [], _, _ => rfl
  | k :: ks, c :: cs, σ, t => by simp only [boxW, St.puts_cons]; rw [boxW_tmp ks cs]; simp
theorem boxW_other : ∀ (ks : List Key) (os : List (List V)) (σ : St) (k : Key), k ∉ ks → (σ.puts (boxW ks os)).cells k = σ.cells k
  | [], _, _, _, _ => rfl
  | _ :: _, [], _, _, _ => rfl
  | k0 :: ks, c :: cs, σ, k, h => by
    simp only [List.mem_cons, not_or] at h
    simp only [boxW, St.puts_cons]
    rw [boxW_other ks cs _ k h.2]
    simp [Ne.symm h.1]
theorem boxW_get : ∀ (ks : List Key) (os : List (List V)) (σ : St) (i : Nat) (k : Key) (c : List V), ks.Nodup → ks[i]? = some k → os[i]? = some c → (σ.puts (boxW ks os)).cells k = some c
  | [], _, _, i, _, _, _, h, _ => by simp at h
  | _ :: _, [], _, i, _, _, _, _, h => by simp at h
  | k0 :: ks, c0 :: cs, σ, i, k, c, hn, hk, hc => by
    simp only [List.nodup_cons] at hn
    simp only [boxW, St.puts_cons]
    cases i with
    | zero =>
      simp at hk hc
      subst hk; subst hc
      rw [boxW_other ks cs _ k0 hn.1]
      simp
    | succ i => exact boxW_get ks cs _ i k c hn.2 (by simpa using hk) (by simpa using hc)

theorem base_of {k : Key} (hk : k.isMp = false) : k.base = k := by cases k <;> first | rfl | cases hk
theorem call_back (h : Rep g0 w0 g w σ a N) {xs : List Operand} {vs : List V} {ks : List Key} {outs : List (List V)} (hc : CallIs g w σ a xs vs ks outs) {r : R} {g' : Gh} {w' : World} {c : Value} {d : Option Nat} (hd : ∀ t, d = some t → t < N)
    (hv : VRel g' w' .ret r.1 c) (hb : r.1.back outs.length) (hl : r.2.length = outs.length) (hbox : ∀ (i : Nat) (cs : List V), r.2[i]? = some cs → BoxRel g' w' (.out i) cs ∧ ∀ v ∈ cs, v.flat) (hev : Evol (gIn g xs vs ks) w g' w') (hfr : ∀ b, w'.heap.size ≤ b → g'.own b = .free) (hn : ∀ b s l, Slot.under .none s → g'.own b ≠ .arr s l) :
    ∃ G, Rep g0 w0 G w' ((σ.puts (goneAll xs vs)).puts (boxW ks r.2 ++ dstW d (backV ks r.1))) (a.put d c) N := by
  obtain ⟨h1, hown, hsame, hcells⟩ := goneAll_rep xs vs σ h hc.nodup (fun i t v hx hv => (hc.args i _ v hx hv).2.1 t rfl) (fun v hv us e => by subst e; have := hc.ok _ hv; cases this) (fun v hv c x e => by subst e; have := hc.ok _ hv; cases this)
  have hG := gOut_evol (d := d) hev h.fresh
  have hst := hG.stable
  have hnodup := keys_nodup hc
  have keyof : ∀ k : Key, k ∈ ks → ∃ (i : Nat) (cs' : List V), ks[i]? = some k ∧ r.2[i]? = some cs' := by
    intro k hk
    obtain ⟨i, hi, rfl⟩ := List.getElem_of_mem hk
    exact ⟨i, r.2[i]'(by rw [hl, hc.olen]; exact hi), List.getElem?_eq_getElem hi, List.getElem?_eq_getElem _⟩
  have inNone : ∀ t, t ∉ ownTmps xs vs → inSlot xs vs ks (.tmp t) = none := by
    intro t ht
    simp only [inSlot]
    cases ho : ownAt xs vs 0 t with
    | none => rfl
    | some i => exact absurd (ownAt_mem xs vs 0 t i ho) ht
  have keep : ∀ {s : Slot} {b l : Nat}, g.own b = .arr s l → inSlot xs vs ks s = none → (gOut g w.heap.size g' xs vs ks d).own b = .arr s l ∧ w'.heap[b]? = w.heap[b]? := by
    intro s b l ho hi
    have hlt := own_lt h ho (by simp)
    exact ⟨by simp [gOut, hlt, ho, hi], (hev.other b l (by simp [gIn, ho, hi])).1⟩
  have mvPlain : ∀ {s : Slot} {v : V} {c : Value}, v.plain → VRel g w s v c → VRel (gOut g w.heap.size g' xs vs ks d) w' s v c := fun hp hv => hv.plain_mono hst (fun _ _ h => h) h.nones hp
  have hRep : Rep g0 w0 (gOut g w.heap.size g' xs vs ks d) w' ((σ.puts (goneAll xs vs)).puts (boxW ks r.2)) a N := by
    refine ⟨fun t v hv => ?_, fun k cs hk => ?_, fun b hb => ?_, h.base, h.evol.trans h.base.1 hG, h.defers, h.size, fun k b hb => ?_, fun b s l hu ho => ?_⟩
    · rw [boxW_tmp] at hv
      obtain ⟨c, q1, q2⟩ := h1.env t v hv
      refine ⟨c, q1, ?_⟩
      by_cases hp : v.plain
      · exact mvPlain hp q2
      · have ht : t ∉ ownTmps xs vs := fun ht => hp (hown t ht v hv)
        refine q2.mono hst (fun _ _ h => h) (fun s b l hu ho => keep ho ?_) (fun s b l hu ho => absurd ho (h.nones b s l hu))
        cases hu with
        | refl => exact inNone t ht
        | sub _ _ i hu => 
          have hr := Slot.under_root hu
          cases s with
          | sub => rfl
          | tmp u =>
            exfalso
            have : ∀ {p q : Slot}, Slot.under p q → ∀ p0 i, p = .sub p0 i → ∃ q0 j, q = .sub q0 j := by
              intro p q h
              induction h with
              | refl s => intro p0 i e; exact ⟨p0, i, e⟩
              | sub s r j _ ih => intro _ _ _; exact ih _ _ rfl
            obtain ⟨_, _, e⟩ := this hu _ _ rfl
            cases e
          | cell k o => simp [Slot.root] at hr
          | ret => rfl
          | none => rfl
    · by_cases hkk : k ∈ ks
      · obtain ⟨i, cs', e1, e2⟩ := keyof k hkk
        rw [boxW_get ks r.2 _ i k cs' hnodup e1 e2] at hk
        cases hk
        obtain ⟨bk, hbk⟩ := key_at h hc hkk
        obtain ⟨b, cur, e, q1, q2, q3, q4, q6, q5⟩ := (hbox i cs e2).1.cell rfl
        obtain ⟨ei, _⟩ := idx_key hc e1
        have hat : (gIn g xs vs ks).at_ (.out i) = some bk := by simp [gIn, e1, hbk]
        have hb' : b = bk := Option.some.inj (q1.symm.trans (hev.outs i bk hat))
        subst hb'
        obtain ⟨cs0, hcs0⟩ := h.live k b hbk
        rw [base_of (key_cell h hc hkk)] at hcs0
        obtain ⟨b1, p1, p2⟩ := (h.box k cs0 hcs0).at
        have hb1 : b1 = b := Option.some.inj (p1.symm.trans hbk)
        subst hb1
        have hlt := own_lt h p2 (by simp)
        refine .ofCell (key_cell h hc hkk) ⟨b1, cur, e, hbk, by simp [gOut, hlt, p2], q3, q4, q6, fun j v c hv hcc => ?_⟩
        exact gOut_flat hev h.fresh (q5 j v c hv hcc) ((hbox i cs e2).2 v (List.mem_of_getElem? hv)) (.inl (by simp [outSlot, e1]))
      · rw [boxW_other ks r.2 _ k hkk, hcells] at hk
        refine (h.box k cs hk).mono hst (fun b q1 q2 => ?_) (fun _ h => h) (fun j v c hv _ hvr => ?_)
        · have hlt := own_lt h q2 (by simp)
          exact ⟨q1, by simp [gOut, hlt, q2], (hev.other b 0 (by simp [gIn, q2, hkk])).1⟩
        by_cases hp : v.plain
        · exact mvPlain hp hvr
        · refine hvr.mono hst (fun _ _ h => h) (fun s b l hu ho => keep ho ?_) (fun s b l hu ho => absurd ho (h.nones b s l hu))
          cases hu with
          | refl => simp [inSlot, hkk]
          | sub _ _ i hu =>
            have : ∀ {p q : Slot}, Slot.under p q → ∀ p0 i, p = .sub p0 i → ∃ q0 j, q = .sub q0 j := by
              intro p q h
              induction h with
              | refl s => intro p0 i e; exact ⟨p0, i, e⟩
              | sub s r j _ ih => intro _ _ _; exact ih _ _ rfl
            obtain ⟨_, _, rfl⟩ := this hu _ _ rfl
            rfl
    · have hs := hev.size
      have : ¬ b < w.heap.size := by omega
      simp [gOut, this, hfr b hb, tr]
    · by_cases hkk : k.base ∈ ks
      · obtain ⟨i, cs', e1, e2⟩ := keyof _ hkk
        exact ⟨cs', boxW_get ks r.2 _ i _ cs' hnodup e1 e2⟩
      · rw [boxW_other ks r.2 _ _ hkk, hcells]
        exact h.live k b hb
    · have trn : ∀ p, tr d ks p ≠ .arr s l := by
        intro p e
        cases p with
        | arr s2 l2 =>
          simp only [tr] at e
          cases ho2 : outSlot d ks s2 with
          | none => rw [ho2] at e; cases e
          | some s3 =>
            rw [ho2] at e
            cases e
            have hroot := Slot.under_root hu
            unfold outSlot at ho2
            split at ho2
            · simp only [Option.map_eq_some_iff] at ho2; obtain ⟨_, _, rfl⟩ := ho2; simp [Slot.root] at hroot
            · simp only [Option.map_eq_some_iff] at ho2; obtain ⟨_, _, rfl⟩ := ho2; simp [Slot.root] at hroot
            · simp only [Option.map_eq_some_iff] at ho2; obtain ⟨_, _, rfl⟩ := ho2; simp [Slot.root] at hroot
            · cases ho2
        | _ => cases e
      simp only [gOut] at ho
      split at ho
      · cases hob : g.own b with
        | arr s2 l2 =>
          rw [hob] at ho
          simp only at ho
          cases hi : inSlot xs vs ks s2 with
          | none => rw [hi] at ho; cases ho; exact h.nones b s l hu hob
          | some => rw [hi] at ho; exact trn _ ho
        | _ => rw [hob] at ho; cases ho
      · exact trn _ ho
  cases d with
  | none => exact ⟨_, by rw [St.puts_append]; exact hRep⟩
  | some d => exact ⟨_, by rw [St.puts_append]; exact hRep.putTmp (hd d rfl) (gOut_ret hev h.fresh hn (fun i k hk => ⟨key_cell h hc (List.mem_of_getElem? hk), key_at h hc (List.mem_of_getElem? hk)⟩) hv (by rw [← hc.olen]; exact hb))⟩

theorem call_sound (h : Rep g0 w0 g w σ a N) {x : Operand} {args : Array Operand} {ats : Array TypeId} (ho : o.op = .call ⟨.value x, args, ats⟩) {f : Nat} (hf : calleeOf σ x = some f) {fd : Func} (hfd : P.funcs[f]? = some fd) (hbody : fd.body.isSome = true) (hname : (fd.name == "runtime.NumGoroutine") = false) (hd : ∀ t, o.dst = some t → t < N)
    {vs : List V} {ks : List Key} {outs : List (List V)} (hc : CallIs g w σ a args.toList vs ks outs) {r : R} (hcon : Contract P f (vs.map (handed ks)) outs r)
    (hn : ∀ g' a' w', Rep g0 w0 g' w' ((σ.puts (goneAll args.toList vs)).puts (boxW ks r.2 ++ dstW o.dst (backV ks r.1))) a' N → next a' w') : o.wp P a w next Q := by
  have hx : a.eval x = .func (.func f) #[] #[] := by
    cases x with
    | func f' => simp only [calleeOf, Option.some.injEq] at hf; subst hf; rfl
    | tmp t =>
      simp only [calleeOf] at hf
      split at hf
      · rename_i f' fi ca ht
        split at hf
        · rename_i he
          cases hf
          obtain ⟨c, h1, h2⟩ := h.env t _ ht
          have := val_inv h2
          subst this
          have e1 : fi = #[] := Array.eq_empty_of_size_eq_zero he.1
          have e2 : ca = #[] := Array.eq_empty_of_size_eq_zero he.2
          subst e1
          subst e2
          simp [Act.eval, Array.getD_eq_getD_getElem?, h1]
        · cases hf
      · cases hf
    | _ => cases hf
  have hrun : (execOp a.eval o).run P w = .ok (.enter f (args.toList.map a.eval).toArray) w := by
    have hb : fd.body.isNone = false := by cases hbb : fd.body <;> simp_all
    have hn1 : ¬ fd.name = "runtime.NumGoroutine" := by simpa using hname
    have hn2 : ¬ fd.body = none := by intro e; rw [e] at hb; cases hb
    have hmap : (args.toList.map a.eval).toArray = args.map a.eval := by apply Array.ext'; simp
    rw [hmap]
    simp only [execOp, ho]
    simp [resolve, Deferred.ofValue, hx, invoke, callFunc, program, hfd, hn1, hn2, Sem.run]
  unfold Oper.wp
  rw [hrun]
  refine (hcon _ w _ (call_in h hc)).mono fun e w' ⟨v, g', he, q1, q2, q3, q4, q5, q6, q7⟩ => ?_
  subst he
  obtain ⟨G, hG⟩ := call_back (d := o.dst) h hc hd q1 q2 q3 q4 q5 q6 q7
  exact hn G _ _ hG
end
end Go.Proofs.YtacfehneeanlgaaDoor.Ev
namespace Go.Proofs.YtacfehneeanlgaaDoor.Ev
open Go
set_option linter.unusedVariables false
set_option linter.unusedSimpArgs false
section
variable {P : Program} {I : Info} {g0 g : Gh} {w0 w : World} {σ τ : St} {a : Act} {N : Nat} {o : Oper} {next : Act → World → Prop} {Q : Exit → Act → World → Prop} {ws : List W} {rs : List Loc} {i : Nat}

theorem setA_same {α β : Type} [DecidableEq α] : ∀ (l : List (α × β)) (a : α) (x : β), getA l a = some x → setA l a x = l
  | [], _, _, h => by cases h
  | (c, y) :: r, a, x, h => by
    simp only [getA] at h
    simp only [setA]
    by_cases e : c = a
    · subst e
      simp only [if_true, Option.some.injEq] at h
      subst h
      simp
    · simp only [e, if_false] at h ⊢
      rw [setA_same r a x h]
theorem known_same {x : Operand} {b : Bool} (h : ∀ t, x = .tmp t → σ.tmp t = some (.val (.bool b))) : σ.known x b = σ := by
  cases x with
  | tmp t =>
    simp only [St.known]
    rw [setA_same σ.env t _ (h t rfl)]
  | _ => rfl

/-- What a function without a body answers. -/
def Entry (P : Program) (f : Nat) (vs : List V) (c : Value) : Prop := ∀ g w cargs, Handed g w vs [] cargs → (callFunc f cargs).run P w = .ok (.value c) w
/-- What an operation does that is not passed over. -/
inductive Body (P : Program) (I : Info) (ops : List Oper) (o : Oper) (σ : St) : List Loc → List W → Prop
  | plain (ws : List W) (hr : (opM I ops o).run σ = some (true, ws)) : Body P I ops o σ ((opM I ops o).reads σ) ws
  | call (x : Operand) (args : Array Operand) (ats : Array TypeId) (f f' : Nat) (fd : Func) (vs : List V) (ks : List Key) (outs : List (List V)) (ws : List W) (r : R)
      (ho : o.op = .call ⟨.value x, args, ats⟩) (hf : calleeOf σ x = some f) (hr : (callM f args.toList).run σ = some (f', vs, ks, outs, ws)) (hfd : P.funcs[f']? = some fd) (hb : fd.body.isSome = true) (hname : (fd.name == "runtime.NumGoroutine") = false)
      (hcon : Contract P f' vs outs r) (wb : List W) (hwb : ∀ τ : St, (∀ (i : Nat) (k : Key) (cs : List V), ks[i]? = some k → outs[i]? = some cs → τ.cells k = some cs) → τ.puts wb = τ.puts (boxW ks r.2)) : Body P I ops o σ (calleeReads x ++ (callM f args.toList).reads σ) (ws ++ (wb ++ dstW o.dst (backV ks r.1)))
  | entry (x : Operand) (args : Array Operand) (ats : Array TypeId) (f : Nat) (vs : List V) (ks : List Key) (ws : List W) (c : Value)
      (ho : o.op = .call ⟨.value x, args, ats⟩) (hf : calleeOf σ x = some f) (hr : (callM f args.toList).run σ = some (f, vs, ks, [], ws)) (hent : Entry P f vs c) : Body P I ops o σ (calleeReads x ++ (callM f args.toList).reads σ) (ws ++ dstW o.dst (.val c))
def Going (ops : List Oper) (σ : St) (o : Oper) (g : Option (Nat × Bool)) : Prop :=
  (o.guard = none ∧ g = none) ∨ ∃ t want, g = some (t, want) ∧ o.guard.isSome = true ∧ guardOf ops o = some (t, want) ∧ σ.tmp t = some (.val (.bool want))
inductive OpRun (P : Program) (I : Info) (ops : List Oper) (N : Nat) (σ : St) (i : Nat) : List Loc → List W → Prop
  | go (o : Oper) (g : Option (Nat × Bool)) (rs : List Loc) (ws : List W) (ho : ops[i]? = some o) (hf : fits N o = true) (hg : Going ops σ o g) (hb : Body P I ops o σ rs ws) : OpRun P I ops N σ i (guardRead g ++ rs) ws
  | skip (o : Oper) (t : Nat) (want : Bool) (ho : ops[i]? = some o) (hf : fits N o = true) (hs : o.guard.isSome = true) (hg : guardOf ops o = some (t, want)) (v : Value) (hv : σ.tmp t = some (.val v)) (hne : v ≠ .bool want) : OpRun P I ops N σ i [.tmp t] (undefW o.dst)

theorem at_tmp {t : Nat} (h : σ.at_ (.tmp t) = τ.at_ (.tmp t)) : σ.tmp t = τ.tmp t := by simpa [St.at_] using h
theorem calleeOf_congr {x : Operand} (h : ∀ l ∈ calleeReads x, σ.at_ l = τ.at_ l) : calleeOf τ x = calleeOf σ x := by
  cases x with
  | tmp t => simp only [calleeOf]; rw [at_tmp (h (.tmp t) (by simp [calleeReads]))]
  | _ => rfl
theorem Body.congr {ops : List Oper} (hb : Body P I ops o σ rs ws) (h : ∀ l ∈ rs, σ.at_ l = τ.at_ l) : Body P I ops o τ rs ws := by
  cases hb with
  | plain _ hr =>
    obtain ⟨e1, e2⟩ := M.run_congr (opM I ops o) h
    rw [← e2]
    exact .plain ws (e1.trans hr)
  | call x args ats f f' fd vs ks outs ws0 r ho hf hr hfd hb hname hcon wb hwb =>
    obtain ⟨e1, e2⟩ := M.run_congr (callM f args.toList) (fun l hl => h l (List.mem_append_right _ hl))
    rw [← e2]
    exact .call x args ats f f' fd vs ks outs ws0 r ho ((calleeOf_congr fun l hl => h l (List.mem_append_left _ hl)).trans hf) (e1.trans hr) hfd hb hname hcon wb hwb
  | entry x args ats f vs ks ws0 c ho hf hr hent =>
    obtain ⟨e1, e2⟩ := M.run_congr (callM f args.toList) (fun l hl => h l (List.mem_append_right _ hl))
    rw [← e2]
    exact .entry x args ats f vs ks ws0 c ho ((calleeOf_congr fun l hl => h l (List.mem_append_left _ hl)).trans hf) (e1.trans hr) hent
theorem OpRun.congr {ops : List Oper} (hr : OpRun P I ops N σ i rs ws) (h : ∀ l ∈ rs, σ.at_ l = τ.at_ l) : OpRun P I ops N τ i rs ws := by
  cases hr with
  | go o g rs ws ho hf hg hb =>
    refine .go o g rs ws ho hf ?_ (hb.congr fun l hl => h l (List.mem_append_right _ hl))
    rcases hg with hg | ⟨t, want, rfl, h1, h2, h3⟩
    · exact .inl hg
    · refine .inr ⟨t, want, rfl, h1, h2, ?_⟩
      rw [← at_tmp (h (.tmp t) (by simp [guardRead]))]
      exact h3
  | skip o t want ho hf hs hg v hv hne =>
    refine .skip o t want ho hf hs hg v ?_ hne
    rw [← at_tmp (h (.tmp t) (by simp))]
    exact hv

theorem fits_call {x : Operand} {args : Array Operand} {ats : Array TypeId} (hf : fits N o = true) (ho : o.op = .call ⟨.value x, args, ats⟩) : ∀ t, o.dst = some t → t < N := by
  intro t ht
  unfold fits at hf
  rw [ht] at hf
  split at hf <;> simp_all
theorem yield_guard {ops : Array Oper} {j t : Nat} {p : Oper} {b : Bool} (h : Rep g0 w0 g w σ a N) (hp : ops.toList[j]? = some p) (hd : p.dst = some t) (hv : σ.tmp t = some (.val (.bool b))) : yielded ops a.tmps j = some b := by
  obtain ⟨c, h1, h2⟩ := h.env t _ hv
  have := val_inv h2
  subst this
  have hp' : ops[j]? = some p := by simpa using hp
  simp [yielded, hp', hd, h1]
theorem guard_wanted {ops : Array Oper} {t : Nat} {want b : Bool} (h : Rep g0 w0 g w σ a N) (hs : o.guard.isSome = true) (hg : guardOf ops.toList o = some (t, want)) (hv : σ.tmp t = some (.val (.bool b))) : Region.wanted o (yielded ops a.tmps) = (b == want) := by
  unfold guardOf at hg
  unfold Region.wanted
  cases hgu : o.guard with
  | none => rw [hgu] at hs; cases hs
  | some q =>
    obtain ⟨j, w1⟩ := q
    rw [hgu] at hg
    simp only at hg
    split at hg
    · rename_i p hp
      split at hg
      · rename_i t' ht
        cases hg
        simp only
        rw [yield_guard h hp ht hv]
        rfl
      · cases hg
    · cases hg
theorem guard_unwanted {ops : Array Oper} {t : Nat} {want : Bool} {v : Value} (h : Rep g0 w0 g w σ a N) (hs : o.guard.isSome = true) (hg : guardOf ops.toList o = some (t, want)) (hv : σ.tmp t = some (.val v)) (hne : v ≠ .bool want) : Region.wanted o (yielded ops a.tmps) = false := by
  unfold guardOf at hg
  unfold Region.wanted
  cases hgu : o.guard with
  | none => rw [hgu] at hs; cases hs
  | some q =>
    obtain ⟨j, w1⟩ := q
    rw [hgu] at hg
    simp only at hg
    split at hg
    · rename_i p hp
      split at hg
      · rename_i t' ht
        cases hg
        simp only
        obtain ⟨c, h1, h2⟩ := h.env _ _ hv
        have := val_inv h2
        subst this
        have hp' : ops[j]? = some p := by simpa using hp
        cases c with
        | bool b =>
          simp only [yielded, hp', ht, h1, Option.bind_some]
          have : b ≠ want := fun e => hne (by rw [e])
          cases b <;> cases want <;> simp_all
        | _ => simp [yielded, hp', ht, h1]
      · cases hg
    · cases hg
theorem fits_skip (hf : fits N o = true) : ∀ t, o.dst = some t → t < N := by
  intro t ht
  unfold fits at hf
  rw [ht] at hf
  split at hf <;> simp_all
theorem callee_eval (h : Rep g0 w0 g w σ a N) {x : Operand} {f : Nat} (hf : calleeOf σ x = some f) : a.eval x = .func (.func f) #[] #[] := by
  cases x with
  | func f' => simp only [calleeOf, Option.some.injEq] at hf; subst hf; rfl
  | tmp t =>
    simp only [calleeOf] at hf
    split at hf
    · rename_i f' fi ca ht
      split at hf
      · rename_i he
        cases hf
        obtain ⟨c, h1, h2⟩ := h.env t _ ht
        have := val_inv h2
        subst this
        have e1 : fi = #[] := Array.eq_empty_of_size_eq_zero he.1
        have e2 : ca = #[] := Array.eq_empty_of_size_eq_zero he.2
        subst e1
        subst e2
        simp [Act.eval, Array.getD_eq_getD_getElem?, h1]
      · cases hf
    · cases hf
  | _ => cases hf
theorem OpRun.wpOp {ops : Array Oper} {K : Act → World → Prop} (hok : InfoOk P I) (h : Rep g0 w0 g w σ a N) (hr : OpRun P I ops.toList N σ i rs ws)
    (hn : ∀ g' a' w', Rep g0 w0 g' w' (σ.puts ws) a' N → K a' w') : wpOp P ops Q i K a w := by
  cases hr with
  | go o g' rs ws ho hf hg hb =>
    have ho' : ops[i]? = some o := by simpa using ho
    unfold Go.wpOp
    simp only [ho']
    have hw : Region.wanted o (yielded ops a.tmps) = true := by
      rcases hg with ⟨hg, _⟩ | ⟨t, want, _, h1, h2, h3⟩
      · simp [Region.wanted, hg]
      · rw [guard_wanted h h1 h2 h3]; simp
    rw [if_pos hw]
    refine .inl ?_
    cases hb with
    | plain _ hr => exact opM_sound hok h hf hr hn
    | call x args ats f f' fd vs ks outs ws0 r ho hf' hr hfd hb hname hcon wb hwb =>
      obtain ⟨vs0, outs0, hc, e⟩ := callM_run h hr
      simp only [Prod.mk.injEq] at e
      obtain ⟨rfl, rfl, rfl, rfl, rfl⟩ := e
      obtain ⟨-, -, -, hcells⟩ := goneAll_rep args.toList vs0 σ h hc.nodup (fun i t v hx hv => (hc.args i _ v hx hv).2.1 t rfl) (fun v hv us e => by subst e; have := hc.ok _ hv; cases this) (fun v hv c x e => by subst e; have := hc.ok _ hv; cases this)
      exact call_sound h ho hf' hfd hb hname (fits_call hf ho) hc hcon (fun g' a' w' hR => hn g' a' w' (by
        rw [St.puts_append, St.puts_append, hwb _ (fun i k cs hk hcs => ?_), ← St.puts_append]
        · exact hR
        · rw [hcells]; exact hc.outs i k cs hk hcs))
    | entry x args ats f vs ks ws0 c ho hf' hr hent =>
      obtain ⟨vs0, outs0, hc, e⟩ := callM_run h hr
      simp only [Prod.mk.injEq, true_and] at e
      obtain ⟨rfl, rfl, rfl, rfl⟩ := e
      have hx := callee_eval h hf'
      have hmap : (args.toList.map a.eval).toArray = args.map a.eval := by apply Array.ext'; simp
      have hcf := hent _ _ _ (call_in h hc)
      rw [hmap] at hcf
      have hrun : (execOp a.eval o).run P w = .ok (.value c) w := by
        simp only [execOp, ho]
        simp [resolve, Deferred.ofValue, hx, invoke, hcf]
      obtain ⟨h1, -, -, -⟩ := goneAll_rep args.toList vs0 σ h hc.nodup (fun i t v hx hv => (hc.args i _ v hx hv).2.1 t rfl) (fun v hv us e => by subst e; have := hc.ok _ hv; cases this) (fun v hv c x e => by subst e; have := hc.ok _ hv; cases this)
      refine up_value hrun (hn g _ _ ?_)
      rw [St.puts_append]
      exact h1.dst (fits_call hf ho) (fun _ => .val _ _)
  | skip o t want ho hf hs hg v hv hne =>
    have ho' : ops[i]? = some o := by simpa using ho
    unfold Go.wpOp
    simp only [ho']
    have hw : Region.wanted o (yielded ops a.tmps) = false := by
      exact guard_unwanted h hs hg hv hne
    rw [if_neg (by simp [hw])]
    cases hd : o.dst with
    | none => rw [hd] at hn; exact hn _ _ _ h
    | some d => 
      rw [hd] at hn
      exact hn _ _ _ (h.putTmp (fits_skip hf d hd) (.val _ _))

abbrev Ent := Nat × List Loc × List W
/-- The operations' runs one behind the other. -/
inductive Trace (P : Program) (I : Info) (ops : List Oper) (N : Nat) : St → List Ent → Prop
  | nil (σ : St) : Trace P I ops N σ []
  | cons (σ : St) (i : Nat) (rs : List Loc) (ws : List W) (tr : List Ent) (h : OpRun P I ops N σ i rs ws) (ht : Trace P I ops N (σ.puts ws) tr) : Trace P I ops N σ ((i, rs, ws) :: tr)
def allW (tr : List Ent) : List W := tr.flatMap (·.2.2)
theorem Trace.wpOps {ops : Array Oper} (hok : InfoOk P I) : ∀ {tr : List Ent} {σ : St} {g : Gh} {w : World} {a : Act}, Rep g0 w0 g w σ a N → Trace P I ops.toList N σ tr → (∀ g' a' w', Rep g0 w0 g' w' (σ.puts (allW tr)) a' N → Q .normal a' w') → wpOps P ops Q (tr.map (·.1)) a w
  | [], σ, g, w, a, h, _, hn => hn _ _ _ h
  | (i, rs, ws) :: tr, σ, g, w, a, h, ht, hn => by
    cases ht with
    | cons _ _ _ _ _ hr ht =>
      rw [List.map_cons, wpOps_cons]
      refine hr.wpOp hok h fun g' a' w' h' => Trace.wpOps hok h' ht fun g2 a2 w2 h2 => hn g2 a2 w2 ?_
      simp only [allW, List.flatMap_cons, St.puts_append] at h2 ⊢
      exact h2
theorem Trace.at {ops : List Oper} : ∀ {A B : List Ent} {σ : St} {e : Ent}, Trace P I ops N σ (A ++ e :: B) → OpRun P I ops N (σ.puts (allW A)) e.1 e.2.1 e.2.2
  | [], B, σ, e, h => by cases h with | cons _ _ _ _ _ h _ => exact h
  | x :: A, B, σ, e, h => by
    cases h with
    | cons _ _ _ _ _ _ h => simp only [allW, List.flatMap_cons, St.puts_append]; exact Trace.at h
end
end Go.Proofs.YtacfehneeanlgaaDoor.Ev
namespace Go.Proofs.YtacfehneeanlgaaDoor.Ev
open Go
set_option linter.unusedVariables false
set_option linter.unusedSimpArgs false
section
variable {P : Program} {I : Info} {g0 g : Gh} {w0 w : World} {σ τ : St} {a : Act} {N : Nat} {o : Oper} {next : Act → World → Prop} {Q : Exit → Act → World → Prop} {ws : List W} {rs : List Loc} {i : Nat}

def seqW (D : Nat → Bool) (tr : List Ent) : List W := tr.flatMap fun e => if D e.1 then e.2.2 else []
theorem seqW_cons (D : Nat → Bool) (e : Ent) (tr : List Ent) : seqW D (e :: tr) = (if D e.1 then e.2.2 else []) ++ seqW D tr := by simp [seqW]
theorem seqW_append (D : Nat → Bool) (A B : List Ent) : seqW D (A ++ B) = seqW D A ++ seqW D B := by simp [seqW]
theorem seqW_congr {D E : Nat → Bool} : ∀ {tr : List Ent}, (∀ e ∈ tr, D e.1 = E e.1) → seqW D tr = seqW E tr
  | [], _ => rfl
  | e :: tr, h => by rw [seqW_cons, seqW_cons, h e (.head _), seqW_congr fun x hx => h x (.tail _ hx)]
theorem seqW_all {D : Nat → Bool} : ∀ {tr : List Ent}, (∀ e ∈ tr, D e.1 = true) → seqW D tr = allW tr
  | [], _ => rfl
  | e :: tr, h => by
    rw [seqW_cons, h e (.head _), seqW_all fun x hx => h x (.tail _ hx)]
    simp [allW]
theorem seqW_none {D : Nat → Bool} : ∀ {tr : List Ent}, (∀ e ∈ tr, D e.1 = false) → seqW D tr = []
  | [], _ => rfl
  | e :: tr, h => by
    rw [seqW_cons, h e (.head _), seqW_none fun x hx => h x (.tail _ hx)]
    simp
theorem mem_seqW {D : Nat → Bool} {tr : List Ent} {x : W} (h : x ∈ seqW D tr) : ∃ e ∈ tr, D e.1 = true ∧ x ∈ e.2.2 := by
  simp only [seqW, List.mem_flatMap] at h
  obtain ⟨e, he, hx⟩ := h
  refine ⟨e, he, ?_⟩
  split at hx
  · rename_i hd; exact ⟨hd, hx⟩
  · cases hx

/-- All edges that bind lead into a set. -/
def Edges (ops : List Oper) (D : Nat → Bool) (j : Nat) : Prop := ∀ (o : Oper), ops[j]? = some o → ∀ e ∈ o.after, Region.binds .any e = true → D e.on = true
def Closed (ops : List Oper) (D : Nat → Bool) : Prop := ∀ j, D j = true → Edges ops D j
theorem ahead_in {ops : List Oper} {D : Nat → Bool} (hc : Closed ops D) : ∀ (m j : Nat), Edges ops D j → ∀ i ∈ aheadOf ops m j, D i = true
  | 0, _, _, i, h => by simp [aheadOf] at h
  | m + 1, j, hj, i, h => by
    simp only [aheadOf] at h
    split at h
    · rename_i o ho
      simp only [List.mem_flatMap, List.mem_filter, List.mem_cons] at h
      obtain ⟨e, ⟨he, hb⟩, h⟩ := h
      have hD := hj o ho e (by simpa using he) hb
      rcases h with rfl | h
      · exact hD
      · exact ahead_in hc m e.on (hc _ hD) i h
    · cases h
def clash (x y : Ent) : Prop := meetAny (x.2.2.map W.loc) y.2.1 = true ∨ meetAny (x.2.2.map W.loc) (y.2.2.map W.loc) = true ∨ meetAny (y.2.2.map W.loc) x.2.1 = true
def Apart (ops : List Oper) (tr : List Ent) : Prop := ∀ x ∈ tr, ∀ y ∈ tr, x.1 < y.1 → clash x y → x.1 ∈ aheadOf ops ops.length y.1

theorem meet_mem {xs ys : List Loc} {x y : Loc} (h : ¬ meetAny xs ys = true) (hx : x ∈ xs) (hy : y ∈ ys) : x.meets y = false := by
  cases e : x.meets y with
  | false => rfl
  | true =>
    refine absurd ?_ h
    simp only [meetAny, List.any_eq_true]
    exact ⟨x, hx, y, hy, e⟩
theorem agree_off {D : Nat → Bool} {bad : Loc → Prop} : ∀ (A : List Ent) (σ τ : St), AgreeOff bad σ τ → (∀ e ∈ A, D e.1 = false → ∀ x ∈ e.2.2, ∀ l, x.loc.meets l = true → bad l) → AgreeOff bad (σ.puts (allW A)) (τ.puts (seqW D A))
  | [], σ, τ, h, _ => h
  | e :: A, σ, τ, h, hb => by
    rw [seqW_cons, St.puts_append, show allW (e :: A) = e.2.2 ++ allW A by simp [allW], St.puts_append]
    refine agree_off A _ _ ?_ fun e' he => hb e' (.tail _ he)
    cases hD : D e.1 with
    | true => simp only [if_true]; exact h.puts _
    | false =>
      simp only [Bool.false_eq_true, if_false, St.puts_nil]
      intro l hl
      rw [puts_miss fun x hx => ?_]
      · exact h l hl
      · cases hm : x.loc.meets l with
        | false => rfl
        | true => exact absurd (hb e (.head _) hD x hx l hm) hl

theorem ready_op {ops : List Oper} {D : Nat → Bool} {A B : List Ent} {e : Ent} (hA : ∀ x ∈ A, x.1 < e.1) (hB : ∀ x ∈ B, e.1 < x.1) (hap : Apart ops (A ++ e :: B)) (hc : Closed ops D) (he : Edges ops D e.1) (hd : D e.1 = false)
    (ht : Trace P I ops N σ (A ++ e :: B)) : OpRun P I ops N (σ.puts (seqW D (A ++ e :: B))) e.1 e.2.1 e.2.2 := by
  have hop := ht.at
  refine hop.congr fun l hl => ?_
  rw [seqW_append, seqW_cons, hd, if_neg (by simp), List.nil_append, St.puts_append]
  have h2 : ((σ.puts (seqW D A)).puts (seqW D B)).at_ l = (σ.puts (seqW D A)).at_ l := by
    refine puts_miss fun x hx => ?_
    obtain ⟨y, hy, hDy, hxy⟩ := mem_seqW hx
    have hne : ¬ clash e y := fun hcl => by
      have := ahead_in hc _ _ (hc _ hDy) _ (hap e (by simp) y (by simp [hy]) (hB y hy) hcl)
      rw [hd] at this; cases this
    exact meet_mem (fun h => hne (.inr (.inr h))) (List.mem_map_of_mem hxy) hl
  rw [h2]
  refine agree_off (bad := fun l => ∃ y ∈ A, D y.1 = false ∧ ∃ x ∈ y.2.2, x.loc.meets l = true) A σ σ (fun _ _ => rfl) (fun y hy hDy x hx l hm => ⟨y, hy, hDy, x, hx, hm⟩) l ?_
  rintro ⟨y, hy, hDy, x, hx, hm⟩
  have hne : ¬ clash y e := fun hcl => by
    have := ahead_in hc _ _ he _ (hap y (by simp [hy]) e (by simp) (hA y hy) hcl)
    rw [hDy] at this; cases this
  have := meet_mem (fun h => hne (.inl h)) (List.mem_map_of_mem hx) hl
  rw [hm] at this; cases this
theorem ready_put {ops : List Oper} {D E : Nat → Bool} {A B : List Ent} {e : Ent} (hA : ∀ x ∈ A, x.1 < e.1) (hB : ∀ x ∈ B, e.1 < x.1) (hap : Apart ops (A ++ e :: B)) (hc : Closed ops D) (hd : D e.1 = false)
    (hE : ∀ j, j ≠ e.1 → E j = D j) (hEe : E e.1 = true) : Eqv ((σ.puts (seqW D (A ++ e :: B))).puts e.2.2) (σ.puts (seqW E (A ++ e :: B))) := by
  rw [seqW_append, seqW_cons, hd, if_neg (by simp), List.nil_append, St.puts_append]
  rw [seqW_append E, seqW_cons E, hEe, if_pos rfl, St.puts_append, St.puts_append, seqW_congr (D := E) (E := D) (tr := A) fun x hx => hE _ (by have := hA x hx; omega), seqW_congr (D := E) (E := D) (tr := B) fun x hx => hE _ (by have := hB x hx; omega)]
  refine puts_comm fun x hx y hy => ?_
  obtain ⟨z, hz, hDz, hxz⟩ := mem_seqW hx
  have hne : ¬ clash e z := fun hcl => by
    have := ahead_in hc _ _ (hc _ hDz) _ (hap e (by simp) z (by simp [hz]) (hB z hz) hcl)
    rw [hd] at this; cases this
  have := meet_mem (fun h => hne (.inr (.inl h))) (List.mem_map_of_mem hy) (List.mem_map_of_mem hxz)
  cases h1 : y.loc with
  | tmp t =>
    rw [h1] at this
    cases h2 : x.loc with
    | tmp u => rw [h2] at this; simp only [Loc.meets, beq_eq_false_iff_ne, ne_eq] at this ⊢; exact fun h => this h.symm
    | part u j => rw [h2] at this; simp only [Loc.meets, beq_eq_false_iff_ne, ne_eq] at this ⊢; exact fun h => this h.symm
    | cell k o => cases o <;> rfl
  | part t i =>
    rw [h1] at this
    cases h2 : x.loc with
    | tmp u => rw [h2] at this; simp only [Loc.meets, beq_eq_false_iff_ne, ne_eq] at this ⊢; exact fun h => this h.symm
    | part u j => rw [h2] at this; simp only [Loc.meets, Bool.and_eq_false_imp, beq_iff_eq, beq_eq_false_iff_ne, ne_eq] at this ⊢; exact fun h h' => this h.symm h'.symm
    | cell k o => cases o <;> rfl
  | cell k o =>
    rw [h1] at this
    cases h2 : x.loc with
    | tmp u => cases o <;> rfl
    | part u j => cases o <;> rfl
    | cell k' o' =>
      rw [h2] at this
      cases o <;> cases o' <;> simp only [Loc.meets, decide_eq_false_iff_not, Bool.and_eq_false_imp, decide_eq_true_eq, beq_eq_false_iff_ne, ne_eq] at this ⊢ <;>
        first | exact fun h => this h.symm | exact fun h h' => this h.symm h'.symm

/-! ### The fuel -/
def unl (l : Array Bool) : Nat → Nat
  | 0 => 0
  | n + 1 => unl l n + if l.getD n true then 0 else 1
theorem getD_set_self {l : Array Bool} {i : Nat} : (l.setIfInBounds i true).getD i true = true := by
  by_cases h : i < l.size <;> simp [h]
theorem unl_set_le {l : Array Bool} {i : Nat} : ∀ n, unl (l.setIfInBounds i true) n ≤ unl l n
  | 0 => Nat.le_refl _
  | n + 1 => by
    have := unl_set_le (l := l) (i := i) n
    simp only [unl]
    by_cases h : i = n
    · subst h; rw [getD_set_self]; split <;> simp_all <;> omega
    · rw [getD_set_ne true h]; omega
theorem unl_set {l : Array Bool} {i : Nat} (hi : l.getD i true = false) : ∀ n, i < n → unl (l.setIfInBounds i true) n + 1 ≤ unl l n
  | 0, h => by omega
  | n + 1, h => by
    simp only [unl]
    by_cases e : i = n
    · subst e
      have := unl_set_le (l := l) (i := i) i
      rw [getD_set_self, hi]
      simp
      exact this
    · have := unl_set hi n (by omega)
      rw [getD_set_ne true e]; omega
theorem unl_zero {l : Array Bool} : ∀ {n j : Nat}, unl l n = 0 → j < n → l.getD j true = true
  | 0, _, _, h => by omega
  | n + 1, j, h, hj => by
    simp only [unl] at h
    by_cases e : j = n
    · subst e
      cases hh : l.getD j true with
      | true => rfl
      | false => rw [hh] at h; simp at h
    · exact unl_zero (n := n) (by omega) (by omega)
theorem unl_le {l : Array Bool} : ∀ n, unl l n ≤ n
  | 0 => Nat.le_refl _
  | n + 1 => by have := unl_le (l := l) n; simp only [unl]; split <;> omega

theorem getD_lt {l : Array Bool} {j : Nat} (h : j < l.size) : l.getD j true = l.getD j false := by
  simp [h]
theorem split_at {tr : List Ent} {n : Nat} (hm : tr.map (·.1) = List.range n) {i : Nat} (hi : i < n) : ∃ A e B, tr = A ++ e :: B ∧ e.1 = i ∧ (∀ x ∈ A, x.1 < e.1) ∧ ∀ x ∈ B, e.1 < x.1 := by
  have hl : tr.length = n := by have := congrArg List.length hm; simpa using this
  have hget : ∀ j (h : j < tr.length), (tr[j]).1 = j := by
    intro j h
    have h1 : (tr.map (·.1))[j]? = (List.range n)[j]? := by rw [hm]
    simp [List.getElem?_eq_getElem h, List.getElem?_range, show j < n by omega] at h1
    exact h1
  refine ⟨tr.take i, tr[i]'(by omega), tr.drop (i + 1), ?_, hget i (by omega), fun x hx => ?_, fun x hx => ?_⟩
  · simp
  · obtain ⟨j, hj, rfl⟩ := List.getElem_of_mem hx
    simp only [List.getElem_take]
    rw [hget, hget]
    simp at hj
    omega
  · obtain ⟨j, hj, rfl⟩ := List.getElem_of_mem hx
    simp only [List.getElem_drop]
    rw [hget, hget]
    omega
theorem wpAny_trace {ops : Array Oper} {tr : List Ent} (hok : InfoOk P I) (hm : tr.map (·.1) = List.range ops.size) (ht : Trace P I ops.toList N σ tr) (hap : Apart ops.toList tr) (hed : edgesOk ops.toList = true)
    (hn : ∀ g' a' w', Rep g0 w0 g' w' (σ.puts (allW tr)) a' N → Q .normal a' w') : ∀ (fuel : Nat) (listed : Array Bool) (g : Gh) (w : World) (a : Act), listed.size = ops.size → unl listed ops.size ≤ fuel → Closed ops.toList (fun j => listed.getD j false) →
      Rep g0 w0 g w (σ.puts (seqW (fun j => listed.getD j false) tr)) a N → wpAny P .any ops Q fuel listed a w := by
  have hidx : ∀ e ∈ tr, e.1 < ops.size := by
    intro e he
    have : e.1 ∈ tr.map (·.1) := List.mem_map_of_mem he
    rw [hm] at this
    simpa using this
  have hdone : ∀ (listed : Array Bool) (g : Gh) (w : World) (a : Act), listed.size = ops.size → Region.ready .any ops listed = [] → Rep g0 w0 g w (σ.puts (seqW (fun j => listed.getD j false) tr)) a N → Q .normal a w := by
    intro listed g w a hs hr h
    have hall : ∀ j, j < ops.size → listed.getD j false = true := by
      intro j
      induction j using Nat.strongRecOn with
      | ind j ih =>
        intro hj
        cases hl : listed.getD j false with
        | true => rfl
        | false =>
          exfalso
          have hmem : j ∈ Region.ready .any ops listed := by
            rw [mem_ready]
            refine ⟨by rw [getD_lt (by omega)]; exact hl, ops[j], Array.getElem?_eq_getElem hj, fun e he hb => ?_⟩
            have h1 : e.on < j := by
              simp only [edgesOk, List.all_eq_true, List.mem_range] at hed
              have := hed j (by simpa using hj)
              rw [show ops.toList[j]? = some ops[j] by simp [Array.getElem?_eq_getElem hj]] at this
              simp only [List.all_eq_true] at this
              have := this e (by simpa using he)
              rw [hb] at this
              simpa using this
            exact ih e.on h1 (by omega)
          rw [hr] at hmem
          cases hmem
    rw [seqW_all fun e he => hall _ (hidx e he)] at h
    exact hn _ _ _ h
  intro fuel
  induction fuel with
  | zero =>
    intro listed g w a hs hf hc h
    have hr : Region.ready .any ops listed = [] := by
      cases hr : Region.ready .any ops listed with
      | nil => rfl
      | cons j rest =>
        have hj : j ∈ Region.ready .any ops listed := by rw [hr]; exact .head _
        rw [mem_ready] at hj
        obtain ⟨h0, o, ho, _⟩ := hj
        have := unl_zero (Nat.le_zero.1 hf) (Array.getElem?_eq_some_iff.1 ho).1
        rw [h0] at this
        cases this
    exact ⟨hr, hdone listed g w a hs hr h⟩
  | succ fuel ih =>
    intro listed g w a hs hf hc h
    refine ⟨fun hr => hdone listed g w a hs hr h, fun i hi => ?_⟩
    rw [mem_ready] at hi
    obtain ⟨h0, o, ho, hall⟩ := hi
    have hlt := (Array.getElem?_eq_some_iff.1 ho).1
    obtain ⟨A, e, B, rfl, rfl, hA, hB⟩ := split_at hm hlt
    have hd : (fun j => listed.getD j false) e.1 = false := by simp only []; rw [← getD_lt (by omega)]; exact h0
    have hE : Edges ops.toList (fun j => listed.getD j false) e.1 := by
      intro o' ho'
      have : o' = o := by simpa [ho] using ho'.symm
      subst this
      exact hall
    have hop := ready_op hA hB hap hc hE hd ht
    refine hop.wpOp hok h fun g' a' w' h' => ?_
    refine ih _ g' w' a' (by simp [hs]) ?_ ?_ ?_
    · have := unl_set h0 ops.size hlt
      omega
    · intro j hj o' ho' e' he' hb'
      simp only at hj ⊢
      by_cases ej : j = e.1
      · subst ej
        exact getD_set_true (hE o' ho' e' he' hb')
      · rw [getD_set_ne false (Ne.symm ej)] at hj
        exact getD_set_true (hc j hj o' ho' e' he' hb')
    · refine h'.eqv (ready_put hA hB hap hc hd (fun j hj => ?_) ?_)
      · exact getD_set_ne false (Ne.symm hj)
      · simp [hs, hlt]
theorem region_sound {ops : Array Oper} {id : Nat} {draw : Bool} {tr : List Ent} (hok : InfoOk P I) (h : Rep g0 w0 g w σ a N) (hm : tr.map (·.1) = List.range ops.size) (ht : Trace P I ops.toList N σ tr) (hd : draw = true → Apart ops.toList tr ∧ edgesOk ops.toList = true)
    (hn : ∀ g' a' w', Rep g0 w0 g' w' (σ.puts (allW tr)) a' N → Q .normal a' w') : (Code.region id ops draw).wp P Q a w := by
  cases draw with
  | false =>
    refine wp_region ?_
    have := ht.wpOps (Q := Q) hok h hn
    rwa [hm] at this
  | true =>
    obtain ⟨h1, h2⟩ := hd rfl
    refine wp_region_any hok.mixed ?_
    refine wpAny_trace hok hm ht h1 h2 hn ops.size _ g _ a (by simp) (unl_le _) ?_ ?_
    · intro j hj
      by_cases hlt : j < ops.size <;> simp [hlt] at hj
    · rw [seqW_none fun e he => ?_]
      · exact h.sameHeap rfl rfl rfl rfl
      · have : e.1 ∈ tr.map (·.1) := List.mem_map_of_mem he
        rw [hm] at this
        simp at this
        simp [this]
end
end Go.Proofs.YtacfehneeanlgaaDoor.Ev
namespace Go.Proofs.YtacfehneeanlgaaDoor.Ev
open Go
set_option linter.unusedVariables false
set_option linter.unusedSimpArgs false
section
variable {P : Program} {I : Info} {g0 g : Gh} {w0 w : World} {σ τ : St} {a : Act} {N : Nat} {o : Oper} {next : Act → World → Prop} {Q : Exit → Act → World → Prop} {ws : List W} {rs : List Loc} {i : Nat}

def St.keepsKey (σ : St) (env : List (Nat × V)) (k : Key) : Bool := (match k with | .out _ => true | _ => false) || (env.any fun e => e.2.names k) || σ.box.any fun c => c.2.any (V.namesC k)
theorem getA_keep {σ : St} : ∀ (ts : List Nat) {t : Nat} {v : V}, getA (ts.filterMap fun t => (σ.tmp t).map fun v => (t, v)) t = some v → σ.tmp t = some v
  | [], t, v, h => by cases h
  | u :: ts, t, v, h => by
    simp only [List.filterMap_cons] at h
    cases hu : σ.tmp u with
    | none => rw [hu] at h; exact getA_keep ts h
    | some x =>
      rw [hu] at h
      simp only [Option.map_some, getA] at h
      by_cases e : u = t
      · subst e; simp only [if_true] at h; exact hu.trans h
      · simp only [e, if_false] at h; exact getA_keep ts h
theorem getA_mem {α β : Type} [DecidableEq α] : ∀ {l : List (α × β)} {a : α} {b : β}, getA l a = some b → (a, b) ∈ l
  | [], _, _, h => by cases h
  | (c, x) :: r, a, b, h => by
    simp only [getA] at h
    by_cases e : c = a
    · subst e; simp only [if_true, Option.some.injEq] at h; subst h; exact .head _
    · simp only [e, if_false] at h; exact .tail _ (getA_mem h)
theorem getA_filter {α β : Type} [DecidableEq α] (p : α → Bool) : ∀ (l : List (α × β)) (a : α), getA (l.filter fun b => p b.1) a = if p a then getA l a else none
  | [], a => by simp [getA]
  | (c, x) :: r, a => by
    rw [List.filter_cons]
    by_cases hp : p c
    · rw [if_pos hp]
      simp only [getA, getA_filter p r a]
      by_cases e : c = a
      · subst e; simp [hp]
      · simp [e]
    · rw [if_neg hp]
      simp only [getA, getA_filter p r a]
      by_cases e : c = a
      · subst e; simp [hp]
      · simp [e]
theorem VRel.reAt {g' : Gh} {s : Slot} {v : V} {c : Value} (h : VRel g w s v c) (hown : g'.own = g.own) (hk : ∀ k b, v.names k = true → g.at_ k = some b → g'.at_ k = some b) : VRel g' w s v c := by
  have hst : g'.stable = g.stable := by funext b o; simp only [Gh.stable, hown]
  have flat : ∀ {s : Slot} {v : V} {c : Value}, VRel g w s v c → (v.flat ∨ v.res) → (∀ us, v ≠ .agg us) → (∀ n rows, v ≠ .sarr n rows) → VRel g' w s v c := by
    intro s v c h hf hag hsa
    cases h with
    | val => exact .val _ _
    | arr _ _ _ _ h => exact .arr _ _ _ _ (by rw [hst]; exact h)
    | own _ _ _ _ h hs =>
      refine .own _ _ _ _ (by rw [hst]; exact h) ?_
      rcases hs with hs | hs | ⟨b, cap, cur, e, rfl, h1, h2, h3, h4, h5⟩
      · exact .inl hs
      · exact .inr (.inl hs)
      · exact .inr (.inr ⟨b, cap, cur, e, rfl, h1, h2, by rw [hown]; exact h3, h4, h5⟩)
    | agg => exact absurd rfl (hag _)
    | sarr => exact absurd rfl (hsa _ _)
    | uni _ _ _ _ h => exact .uni _ _ _ _ (h.mono (fun b o c a b' => by rw [hst]; exact ⟨a, b'⟩) fun b ho => ⟨by rw [hown]; exact ho, rfl⟩)
    | slen => exact .slen _ _ _ _
    | _ => rcases hf with hf | hf <;> exact hf.elim
  have cell : ∀ {v : V} {c : Value}, VRel g w .none v c → v.cellP → (∀ k b, V.namesC k v = true → g.at_ k = some b → g'.at_ k = some b) → VRel g' w .none v c := by
    intro v c h hf hk
    cases v with
    | ptr k off =>
      cases h with
      | ptr _ _ _ b h hkm => exact .ptr _ _ _ _ (hk k b (by cases k <;> first | (simp [V.namesC, Key.base]; done) | cases hkm) h) hkm
    | val => exact flat h (.inl trivial) (by simp) (by simp)
    | arr => exact flat h (.inl trivial) (by simp) (by simp)
    | own => exact flat h (.inl trivial) (by simp) (by simp)
    | _ => exact hf.elim
  have agg : ∀ {s : Slot} {us : List V} {c : Value}, VRel g w s (.agg us) c → (∀ k b, V.names k (.agg us) = true → g.at_ k = some b → g'.at_ k = some b) → VRel g' w s (.agg us) c := by
    intro s us c h hk
    cases h with
    | agg _ _ cs hl hf h => exact .agg _ _ cs hl hf fun i v c hv hc => cell (h i v c hv hc) (hf i v hv) fun k b hn => hk k b (by simp only [V.names, V.names1, List.any_eq_true]; exact ⟨v, List.mem_of_getElem? hv, hn⟩)
  have sarr : ∀ {s : Slot} {n : Nat} {rows : List (List V)} {c : Value}, VRel g w s (.sarr n rows) c → (∀ k b, V.names k (.sarr n rows) = true → g.at_ k = some b → g'.at_ k = some b) → VRel g' w s (.sarr n rows) c := by
    intro s n rows c h hk
    cases h with
    | sarr _ _ _ b f hl hm hf hc h => exact .sarr _ _ _ b f hl hm hf (fun i j r v hr hv => by rw [hst]; exact hc i j r v hr hv) fun i j r v hr hv => cell (h i j r v hr hv) (hf i j r v hr hv) fun k b hn => hk k b (by simp only [V.names, V.names1, List.any_eq_true]; exact ⟨r, List.mem_of_getElem? hr, v, List.mem_of_getElem? hv, hn⟩)
  cases h with
  | ptr _ k off b h hkm => exact .ptr _ _ _ _ (hk k b (by cases k <;> first | (simp [V.names, V.names1, Key.base]; done) | cases hkm) h) hkm
  | mp _ t b h => exact .mp _ _ _ (hk _ b (by simp [V.names, V.names1, Key.base]) h)
  | eptr _ _ _ _ _ _ _ _ hi h => exact .eptr _ _ _ _ _ _ _ _ hi (by rw [hst]; exact h)
  | agg _ _ cs hl hf h => exact agg (.agg _ _ cs hl hf h) hk
  | sarr _ _ _ b f hl hm hf hc h => exact sarr (.sarr _ _ _ b f hl hm hf hc h) hk
  | sptr _ n rows i b hi h => exact .sptr _ _ _ _ _ hi (sarr h hk)
  | tup _ us cs hl hr h =>
    refine .tup _ us cs hl hr fun i v c hv hc => ?_
    cases v with
    | agg => exact agg (h i _ c hv hc) (fun k b hn => hk k b (by simp only [V.names, List.any_eq_true]; exact ⟨_, List.mem_of_getElem? hv, hn⟩))
    | sarr => exact sarr (h i _ c hv hc) (fun k b hn => hk k b (by simp only [V.names, List.any_eq_true]; exact ⟨_, List.mem_of_getElem? hv, hn⟩))
    | _ => exact flat (h i _ c hv hc) (.inr (hr i _ hv)) (by simp) (by simp)
  | val => exact .val _ _
  | arr _ _ _ _ h => exact flat (.arr _ _ _ _ h) (.inl trivial) (by simp) (by simp)
  | own _ _ _ _ h hs => exact flat (.own _ _ _ _ h hs) (.inl trivial) (by simp) (by simp)
  | uni _ _ _ _ h => exact flat (.uni _ _ _ _ h) (.inr trivial) (by simp) (by simp)
  | slen _ n p cap => exact .slen _ _ _ _
  | ms _ t _ _ _ b _ n h hn ho hl hm => exact .ms _ _ _ _ _ _ _ _ (hk _ b (by simp [V.names, V.names1, Key.base]) h) (hk _ n (by simp [V.names, V.names1, Key.base]) hn) ho hl hm
  | mptr _ t _ _ _ b n h hn hi => exact .mptr _ _ _ _ _ _ _ (hk _ b (by simp [V.names, V.names1, Key.base]) h) (hk _ n (by simp [V.names, V.names1, Key.base]) hn) hi
theorem keepsNum (σ : St) (env : List (Nat × V)) (k : Key) : St.keepsKey σ env k.num = St.keepsKey σ env k := by
  cases k <;> try rfl
theorem keepsBase (σ : St) (env : List (Nat × V)) (k : Key) : St.keepsKey σ env k.base = St.keepsKey σ env k := by
  cases k <;> try rfl
theorem Rep.kept (h : Rep g0 w0 g w σ a N) (ts : List Nat) : ∃ g', Rep g0 w0 g' w (σ.kept ts) a N := by
  let env := ts.filterMap fun t => (σ.tmp t).map fun v => (t, v)
  have hbox : ∀ k, (σ.kept ts).cells k = if St.keepsKey σ env k then σ.cells k else none := fun k => getA_filter (St.keepsKey σ env) σ.box k
  have hout : ∀ i, St.keepsKey σ env (.out i) = true := fun i => by simp [St.keepsKey]
  refine ⟨{ g with at_ := fun k => if St.keepsKey σ env k then g.at_ k else none }, fun t v hv => ?_, fun k cs hk => ?_, h.fresh, h.base, ?_, h.defers, h.size, fun k b hb => ?_, h.nones⟩
  · obtain ⟨c, h1, h2⟩ := h.env t v (getA_keep ts hv)
    refine ⟨c, h1, h2.reAt rfl fun k b hn hb => ?_⟩
    have : St.keepsKey σ env k = true := by
      simp only [St.keepsKey, Bool.or_eq_true, List.any_eq_true]
      exact .inl (.inr ⟨(t, v), getA_mem hv, hn⟩)
    simp only [this, if_true]
    exact hb
  · rw [hbox] at hk
    by_cases hp : St.keepsKey σ env k = true
    · rw [if_pos hp] at hk
      refine (h.box k cs hk).mono (fun _ _ _ a b => ⟨a, b⟩) (fun b h1 h2 => ⟨by simp only [hp, if_true]; exact h1, h2, rfl⟩) (fun n hn => by simp only [keepsNum σ env k, hp, if_true]; exact hn) (fun i v c hv hfl hvr => hvr.reAt rfl fun k' b' hn hb' => ?_)
      have hnc : V.namesC k' v = true := by cases v <;> first | exact hfl.elim | exact hn
      have : St.keepsKey σ env k' = true := by
        simp only [St.keepsKey, Bool.or_eq_true, List.any_eq_true]
        exact .inr ⟨(k, cs), getA_mem hk, v, List.mem_of_getElem? hv, hnc⟩
      simp only [this, if_true]
      exact hb'
    · rw [if_neg hp] at hk; cases hk
  · have e := h.evol
    exact ⟨e.os, e.tape, e.output, e.size, e.free, e.other, e.arr, e.box, fun i b hb => by simp only [hout, if_true]; exact e.outs i b hb⟩
  · rw [hbox]
    simp only at hb
    rw [keepsBase]
    by_cases hp : St.keepsKey σ env k = true
    · rw [if_pos hp] at hb ⊢; exact h.live k b hb
    · rw [if_neg hp] at hb; cases hb
theorem Rep.keep (h : Rep g0 w0 g w σ a N) (ts : Option (List Nat)) : ∃ g', Rep g0 w0 g' w (σ.keep ts) a N := by
  cases ts with
  | none => exact ⟨g, h⟩
  | some ts => exact h.kept ts

/-! ### What is written in place is written no more -/
def Gh.frz (g : Gh) : Gh where
  own b := match g.own b with | .box (.mp t) => .arr (.tmp t) 0 | p => p
  at_ k := if k.isMp then none else g.at_ k
theorem frz_stable {b o : Nat} (hs : g.stable b o) : g.frz.stable b o := by
  simp only [Gh.stable, Gh.frz] at hs ⊢
  cases ho : g.own b with
  | box k => rw [ho] at hs; exact hs.elim
  | _ => rw [ho] at hs; exact hs
theorem frz_arr {b l : Nat} {s : Slot} (ho : g.own b = .arr s l) : g.frz.own b = .arr s l := by simp only [Gh.frz, ho]
theorem VRel.frzC {s : Slot} {v : V} {c : Value} (h : VRel g w s v c) (hf : v.cellP) : VRel g.frz w s v c := by
  have hst : ∀ b o c, g.stable b o → w.cell? (pl b o) = some c → g.frz.stable b o ∧ w.cell? (pl b o) = some c := fun b o c h1 h2 => ⟨frz_stable h1, h2⟩
  cases h with
  | val => exact .val _ _
  | arr _ _ _ _ h => exact .arr _ _ _ _ (h.mono hst)
  | own _ _ _ _ h hs =>
    refine .own _ _ _ _ (h.mono hst) ?_
    rcases hs with hs | hs | ⟨b, cap, cur, e, rfl, h1, h2, h3, h4, h5⟩
    · exact .inl hs
    · exact .inr (.inl hs)
    · exact .inr (.inr ⟨b, cap, cur, e, rfl, h1, h2, frz_arr h3, h4, h5⟩)
  | ptr _ _ _ _ h hk => exact .ptr _ _ _ _ (by simp only [Gh.frz, hk]; exact h) hk
  | _ => exact hf.elim
theorem VRel.frz {s : Slot} {v : V} {c : Value} (h : VRel g w s v c) (hv : v.res) : VRel g.frz w s v c := by
  have hst : ∀ b o c, g.stable b o → w.cell? (pl b o) = some c → g.frz.stable b o ∧ w.cell? (pl b o) = some c := fun b o c h1 h2 => ⟨frz_stable h1, h2⟩
  have flat : ∀ {s : Slot} {v : V} {c : Value}, VRel g w s v c → v.cellP → VRel g.frz w s v c := fun h hf => h.frzC hf
  cases h with
  | val => exact .val _ _
  | arr _ _ _ _ h => exact .arr _ _ _ _ (h.mono hst)
  | own _ _ _ _ h hs => exact flat (.own _ _ _ _ h hs) trivial
  | uni _ _ _ _ h => exact .uni _ _ _ _ (h.mono hst fun b ho => ⟨frz_arr ho, rfl⟩)
  | slen => exact .slen _ _ _ _
  | agg _ _ cs hl hf h => exact .agg _ _ _ hl hf (fun i v c hv hc => flat (h i v c hv hc) (hf i v hv))
  | sarr _ _ _ b f hl hm hf hc h => exact .sarr _ _ _ b f hl hm hf (fun i j r v hr hv => hst _ _ _ (hc i j r v hr hv).1 (hc i j r v hr hv).2) fun i j r v hr hv => flat (h i j r v hr hv) (hf i j r v hr hv)
  | _ => exact hv.elim
theorem Rep.frz (h : Rep g0 w0 g w σ a N) : Rep g0 w0 g.frz w ⟨[], σ.box.filter fun b => !b.1.isMp⟩ a N := by
  have hst : ∀ b o c, g.stable b o → w.cell? (pl b o) = some c → g.frz.stable b o ∧ w.cell? (pl b o) = some c := fun b o c h1 h2 => ⟨frz_stable h1, h2⟩
  have hbox : ∀ k, (⟨[], σ.box.filter fun b => !b.1.isMp⟩ : St).cells k = if (!k.isMp) then σ.cells k else none := fun k => getA_filter (fun k : Key => !k.isMp) σ.box k
  refine ⟨fun t v hv => (nomatch hv), fun k cs hk => ?_, fun b hb => ?_, h.base, ?_, h.defers, h.size, fun k b hb => ?_, fun b r l hu ho => ?_⟩
  · rw [hbox] at hk
    cases hm : k.isMp with
    | true => rw [hm] at hk; simp at hk
    | false =>
      rw [hm] at hk
      have hk : σ.cells k = some cs := by simpa using hk
      refine (h.box k cs hk).mono hst (fun b h1 h2 => ⟨by simp only [Gh.frz, hm]; exact h1, ?_, rfl⟩) (fun n hn => ?_) (fun i v c hv hfl hvr => hvr.frzC hfl)
      · simp only [Gh.frz, h2]
        cases k <;> first | rfl | cases hm
      · have : k.num.isMp = false := by cases k <;> first | rfl | cases hm
        simp only [Gh.frz, this]
        exact hn
  · simp only [Gh.frz, h.fresh b hb]
  · exact h.evol.trans h.base.1 ⟨rfl, rfl, rfl, Nat.le_refl _, fun b _ q => ⟨rfl, by simp only [Gh.frz, q]⟩, fun b l q => ⟨rfl, by simp only [Gh.frz, q]⟩, fun b s l q => ⟨fun _ _ _ q => q, .inr (.inr ⟨s, l, frz_arr q, Nat.le_refl _⟩)⟩, fun b i q => by simp only [Gh.frz, q], fun i b q => q⟩
  · simp only [Gh.frz] at hb
    cases hm : k.isMp with
    | true => rw [hm] at hb; simp at hb
    | false =>
      rw [hm] at hb
      obtain ⟨cs, hc⟩ := h.live k b (by simpa using hb)
      have hkb : k.base = k := by cases k <;> first | rfl | cases hm
      rw [hkb] at hc ⊢
      exact ⟨cs, by rw [hbox, hm]; simpa using hc⟩
  · simp only [Gh.frz] at ho
    cases hob : g.own b with
    | arr s' l' =>
      rw [hob] at ho
      simp only at ho
      cases ho
      exact h.nones b _ _ hu hob
    | box k =>
      rw [hob] at ho
      cases k with
      | mp t => cases ho; have := Slot.under_root hu; simp [Slot.root] at this
      | _ => cases ho
    | free => rw [hob] at ho; cases ho
    | other => rw [hob] at ho; cases ho
theorem retOk_res {no : Nat} {v : V} (h : retOk no v = true) : v.res := by cases v <;> first | trivial | cases h

/-! ### Results -/
def resF (tmps : Array Value) : ResultVar → Sem Value
  | .tmp t => pure (tmps.getD t undef)
  | .cell a t => do loadVar t (← asAddr (tmps.getD a undef))
theorem results_eq (fn : Func) (tmps : Array Value) : results fn tmps = (do
    let vs ← fn.results.mapM (resF tmps)
    pure (if h : vs.size = 1 then vs[0] else .tuple vs)) := rfl
def slotR : ResultVar → Slot
  | .tmp t => .tmp t
  | .cell _ _ => .none
theorem resV_run {no : Nat} (hok : InfoOk P I) (h : Rep g0 w0 g w σ a N) {r : ResultVar} {v : V} (hv : resV I σ r = some v) (hro : retOk no v = true) : ∃ c, (resF a.tmps r).run P w = .ok c w ∧ VRel g.frz w (slotR (effR σ r)) v c ∧ ((∀ t, r ≠ .tmp t) → v.plain) := by
  suffices hh : ∃ c, (resF a.tmps r).run P w = .ok c w ∧ (VRel g.frz w (slotR (effR σ r)) v c ∨ VRel g w (slotR (effR σ r)) v c) ∧ ((∀ t, r ≠ .tmp t) → v.plain) by
    obtain ⟨c, h1, h2, h3⟩ := hh
    exact ⟨c, h1, h2.elim id (fun h => h.frz (retOk_res hro)), h3⟩
  cases r with
  | tmp t =>
    simp only [resV, Option.bind_eq_some_iff] at hv
    obtain ⟨v0, hv0, hv⟩ := hv
    obtain ⟨c, h1, h2⟩ := h.env t v0 hv0
    refine ⟨c, by simp [resF, Sem.run, pure, Array.getD_eq_getD_getElem?, h1], ?_, fun hn => absurd rfl (hn t)⟩
    cases v0 with
    | ms tt ct off len =>
      cases off with
      | succ => cases hv
      | zero =>
      simp only [frz] at hv
      split at hv
      · rename_i c' rows u hcs
        split at hv
        · rename_i hsame
          cases hv
          obtain rfl := sameCTs_eq _ _ hsame
          obtain ⟨b, cap, n, q1, q2, q3, q4, q5, rfl⟩ := ms_inv h2
          obtain ⟨cur, e0, p1, p2, p3, p4, p5, p6⟩ := ms_box h hcs q1 q2
          have hlen : (rows.take len).length = len := by simp; omega
          refine .inl (.uni _ _ _ _ (.inr ⟨b, cap, cur, e0, by rw [hlen, Nat.zero_mul], by rw [hlen]; exact q4, q5.1, by simp only [Gh.frz, p2, effR, hv0, slotR], p1, ⟨by rw [← p3.2, ← q5.2, Nat.zero_add], p5⟩, fun i j c hi hj => ?_⟩))
          rw [hlen] at hi
          obtain ⟨v, z1, z2⟩ := p6 i j c (by omega) hj
          refine ⟨v, z1, ?_⟩
          have : (rows.take len).getD i [] = rows.getD i [] := by
            rw [List.getD_eq_getElem?_getD, List.getElem?_take, if_pos hi, ← List.getD_eq_getElem?_getD]
          rw [this]
          exact z2.mono fun b o c h1 h2 => ⟨frz_stable h1, h2⟩
        · cases hv
      · cases hv
    | _ => cases hv; exact .inr (by simp only [effR, hv0, slotR]; exact h2)
  | cell at_ t =>
    simp only [resV] at hv
    split at hv
    · rename_i k off n e1 e2 e3
      split at hv
      · rename_i cs hcs
        split at hv
        · rename_i hle
          cases hv
          obtain ⟨p, p1, p2⟩ := h.env at_ _ e1
          have hkm := ptr_key p2
          obtain ⟨b, hb, rfl⟩ := ptr_inv p2
          obtain ⟨b', cur, e, q1, q2, q3, q4, q6, q5⟩ := (h.box k cs hcs).cell hkm
          have : b' = b := Option.some.inj (q1.symm.trans hb)
          subst this
          have hcell : ∀ j, w.cell? (pl b' j) = cur[j]? := fun j => by simp [World.cell?, q3]
          have hlen : ((cur.toList.drop off).take n).length = n := by simp [q4]; omega
          refine ⟨.agg ((cur.toList.drop off).take n).toArray, ?_, .inr ?_, fun _ => trivial⟩
          · have hl := loadVar_many (w := w) hok e2 e3 (b := b') (q := off) hlen (fun j hj => by rw [hcell]; simp [List.getElem?_take, hj])
            simp only [resF, Array.getD_eq_getD_getElem?, p1, Option.getD_some]
            simpa [asAddr] using hl
          · refine .agg _ _ _ (by simp [q4]) (fun i v hv => ?_) (fun i v c hv hc => ?_)
            · simp only [List.getElem?_map, Option.map_eq_some_iff] at hv
              obtain ⟨u, hu, rfl⟩ := hv
              have := q6 (off + i) u (by simp only [List.getElem?_take, List.getElem?_drop] at hu; split at hu <;> simp_all)
              cases u <;> first | trivial | exact this.elim
            · simp only [List.getElem?_map, Option.map_eq_some_iff] at hv
              obtain ⟨u, hu, rfl⟩ := hv
              have hu' : cs[off + i]? = some u := by simp only [List.getElem?_take, List.getElem?_drop] at hu; split at hu <;> simp_all
              have hc' : cur[off + i]? = some c := by
                simp only [List.getElem?_toArray, List.getElem?_take, List.getElem?_drop] at hc
                split at hc
                · simpa using hc
                · cases hc
              refine (q5 _ u c hu' hc').viewed ?_
              have := q6 _ u hu'
              rintro vs rfl
              exact this
        · cases hv
      · cases hv
    · rename_i k off e1 e2 e3
      simp only [Option.map_eq_some_iff, St.cell] at hv
      obtain ⟨u, hu, rfl⟩ := hv
      cases hcs : σ.cells k with
      | none => rw [hcs] at hu; cases hu
      | some cs =>
        rw [hcs] at hu
        have hu' : cs[off]? = some u := hu
        obtain ⟨p, p1, p2⟩ := h.env at_ _ e1
        have hkm := ptr_key p2
        obtain ⟨b, hb, rfl⟩ := ptr_inv p2
        obtain ⟨b', cur, e, q1, q2, q3, q4, q6, q5⟩ := (h.box k cs hcs).cell hkm
        have : b' = b := Option.some.inj (q1.symm.trans hb)
        subst this
        have hlt := (List.getElem?_eq_some_iff.1 hu').1
        have hc : cur[off]? = some (cur[off]'(by omega)) := Array.getElem?_eq_getElem _
        have hcell : w.cell? (pl b' off) = some (cur[off]'(by omega)) := by simp only [World.cell?, q3]; simp
        have hfl := q6 _ u hu'
        have hnt : ∀ vs, u ≠ .tup vs := by rintro vs rfl; exact hfl
        refine ⟨cur[off]'(by omega), ?_, .inr ((q5 _ u _ hu' hc).viewed hnt), fun _ => V.view_plain hnt⟩
        have hl := loadVar_one (w := w) hok e2 hcell
        simp only [resF, Array.getD_eq_getD_getElem?, p1, Option.getD_some]
        simpa [asAddr] using hl
    · cases hv
theorem resVs_run {no : Nat} (hok : InfoOk P I) (h : Rep g0 w0 g w σ a N) : ∀ {rs : List ResultVar} {vs : List V}, resVs I σ rs = some vs → (∀ v ∈ vs, retOk no v = true) → ∃ cs : List Value, (rs.mapM (resF a.tmps)).run P w = .ok cs w ∧ cs.length = vs.length ∧ vs.length = rs.length ∧
    ∀ (i : Nat) (r : ResultVar) (v : V) (c : Value), rs[i]? = some r → vs[i]? = some v → cs[i]? = some c → VRel g.frz w (slotR (effR σ r)) v c ∧ ((∀ t, r ≠ .tmp t) → v.plain)
  | [], vs, hv, _ => by
    cases hv
    exact ⟨[], rfl, rfl, rfl, fun i r v c hr => by simp at hr⟩
  | r :: rs, vs, hv, hro => by
    simp only [resVs] at hv
    split at hv
    · rename_i v vs' h1 h2
      cases hv
      obtain ⟨c, r1, r2, r3⟩ := resV_run hok h h1 (hro _ (.head _))
      obtain ⟨cs, s1, s2, s3, s4⟩ := resVs_run hok h h2 (fun v hv => hro v (.tail _ hv))
      refine ⟨c :: cs, ?_, by simp [s2], by simp [s3], fun i x u d hx hu hd => ?_⟩
      · simp only [List.mapM_cons, Sem.run_bind, r1, Result.andThen, s1]
        rfl
      · cases i with
        | zero => simp at hx hu hd; subst hx; subst hu; subst hd; exact ⟨r2, r3⟩
        | succ i => exact s4 i x u d (by simpa using hx) (by simpa using hu) (by simpa using hd)
    · cases hv

def resIdx : List ResultVar → Nat → Nat → Option Nat
  | [], _, _ => none
  | .tmp u :: r, i, t => if u = t then some i else resIdx r (i + 1) t
  | .cell _ _ :: r, i, t => resIdx r (i + 1) t
theorem resIdx_get : ∀ (rs : List ResultVar) (j i t : Nat), (resTmps rs).Nodup → rs[i]? = some (.tmp t) → resIdx rs j t = some (j + i)
  | [], _, _, _, _, h => by simp at h
  | r :: rs, j, i, t, hn, h => by
    cases i with
    | zero =>
      simp at h
      subst h
      simp [resIdx]
    | succ i =>
      have h' : rs[i]? = some (.tmp t) := by simpa using h
      cases r with
      | tmp u =>
        simp only [resTmps, List.nodup_cons] at hn
        have hm : t ∈ resTmps rs := by
          clear hn
          induction rs generalizing i with
          | nil => simp at h'
          | cons x xs ih =>
            cases i with
            | zero => simp at h'; subst h'; exact .head _
            | succ i =>
              have := ih i (by simpa using h') (by simpa using h')
              cases x with
              | tmp => exact .tail _ this
              | cell => exact this
        have hne : u ≠ t := by rintro rfl; exact hn.1 hm
        simp only [resIdx, hne, if_false]
        rw [resIdx_get rs (j + 1) i t hn.2 h']
        congr 1; omega
      | cell =>
        simp only [resIdx]
        rw [resIdx_get rs (j + 1) i t hn h']
        congr 1; omega
/-- Where a result's room goes. -/
def resTo (rs : List ResultVar) : Slot → Slot
  | .tmp t => match resIdx rs 0 t with
    | some i => if rs.length = 1 then .ret else .sub .ret i
    | none => .tmp t
  | s => s
theorem resTo_root (rs : List ResultVar) (r : Slot) (h : (resTo rs r).root = .none) : r.root = .none := by
  cases r with
  | tmp t =>
    simp only [resTo] at h
    split at h
    · split at h <;> simp [Slot.root] at h
    · simp [Slot.root] at h
  | _ => exact h
/-- What is left behind a call. -/
def Post (g0 : Gh) (w0 : World) (no : Nat) (r : R) (v : Value) (w' : World) : Prop :=
  ∃ g', VRel g' w' .ret r.1 v ∧ r.1.back no ∧ r.2.length = no ∧ (∀ (i : Nat) (cs : List V), r.2[i]? = some cs → BoxRel g' w' (.out i) cs ∧ ∀ v ∈ cs, v.flat) ∧ Evol g0 w0 g' w' ∧ (∀ b, w'.heap.size ≤ b → g'.own b = .free) ∧ ∀ b s l, Slot.under .none s → g'.own b ≠ .arr s l
theorem outsOf_spec {σ : St} : ∀ {n : Nat} {outs : List (List V)}, outsOf σ n = some outs → outs.length = n ∧ ∀ (i : Nat) (cs : List V), outs[i]? = some cs → σ.cells (.out i) = some cs
  | 0, outs, h => by cases h; exact ⟨rfl, fun i cs hi => by simp at hi⟩
  | n + 1, outs, h => by
    simp only [outsOf] at h
    split at h
    · rename_i l cs h1 h2
      cases h
      obtain ⟨e1, e2⟩ := outsOf_spec h1
      refine ⟨by simp [e1], fun i cs' hi => ?_⟩
      by_cases hlt : i < l.length
      · rw [List.getElem?_append_left hlt] at hi
        exact e2 i cs' hi
      · rw [List.getElem?_append_right (by omega)] at hi
        have : i - l.length = 0 := by
          rcases Nat.eq_zero_or_pos (i - l.length) with h | h
          · exact h
          · rw [List.getElem?_eq_none (by simp; omega)] at hi; cases hi
        rw [this] at hi
        simp at hi
        subst hi
        have : i = n := by omega
        subst this
        exact h2
    · cases h
theorem fin_sound (hok : InfoOk P I) (h : Rep g0 w0 g w σ a N) {fn : Func} {no : Nat} {r : R} (hr : fin I fn no σ = some r) : ∃ v, (results fn a.tmps).run P w = .ok v w ∧ Post g0 w0 no r v w := by
  unfold fin at hr
  split at hr
  · rename_i vs outs h1 h2
    split at hr
    · rename_i hc
      obtain ⟨c1, c0, c2, c3⟩ := hc
      obtain ⟨cs, m1, m2, m3, m4⟩ := resVs_run hok h h1 (fun v hv => List.all_eq_true.1 c1 v hv)
      obtain ⟨o1, o2⟩ := outsOf_spec h2
      simp only [Option.some.injEq] at hr
      let f := resTo (fn.results.toList.map (effR σ))
      have hrun : (fn.results.mapM (resF a.tmps)).run P w = .ok cs.toArray w := by
        rw [Array.mapM_eq_mapM_toList, Sem.run_map, m1]
        rfl
      have h1' : Rep g0 w0 g.frz w ⟨[], σ.box.filter fun b => !b.1.isMp⟩ a N := h.frz
      have h2' : Rep g0 w0 (g.frz.ren f) w ⟨[], σ.box.filter fun b => !b.1.isMp⟩ a N := h1'.rename f (resTo_root _) (fun t v hv => by cases hv) (fun k cs o v hk hv => by
        have q6 := (h1'.box k cs hk).flat
        have := q6 o v hv
        cases v <;> first | trivial | rfl | exact this.elim)
      have hval : ∀ (i : Nat) (v : V) (c : Value), vs[i]? = some v → cs[i]? = some c → VRel (g.frz.ren f) w (if fn.results.toList.length = 1 then .ret else .sub .ret i) v c := by
        intro i v c hv hcc
        have hi : i < fn.results.toList.length := by have := (List.getElem?_eq_some_iff.1 hv).1; omega
        obtain ⟨e1, e2⟩ := m4 i _ v c (List.getElem?_eq_getElem hi) hv hcc
        by_cases hp : v.plain
        · exact (e1.plain_ren f hp h1'.nones).slot hp
        · have hok' := List.all_eq_true.1 c1 v (List.mem_of_getElem? hv)
          cases v with
          | own ct xs =>
            cases hx : fn.results.toList[i] with
            | tmp t =>
              rw [hx] at e1
              refine e1.own_ren f ?_
              obtain ⟨u, hu⟩ : ∃ u, effR σ (.tmp t) = .tmp u := by simp only [effR]; split <;> exact ⟨_, rfl⟩
              have := resIdx_get (fn.results.toList.map (effR σ)) 0 i u c3 (by rw [List.getElem?_map, List.getElem?_eq_getElem hi, hx, Option.map_some, hu])
              simp only [f, hu, slotR, resTo, this, Nat.zero_add, List.length_map]
            | cell => exact absurd (e2 (by simp [hx])) hp
          | uni ct xs =>
            cases hx : fn.results.toList[i] with
            | tmp t =>
              rw [hx] at e1
              refine e1.uni_ren f ?_
              obtain ⟨u, hu⟩ : ∃ u, effR σ (.tmp t) = .tmp u := by simp only [effR]; split <;> exact ⟨_, rfl⟩
              have := resIdx_get (fn.results.toList.map (effR σ)) 0 i u c3 (by rw [List.getElem?_map, List.getElem?_eq_getElem hi, hx, Option.map_some, hu])
              simp only [f, hu, slotR, resTo, this, Nat.zero_add, List.length_map]
            | cell => exact absurd (e2 (by simp [hx])) hp
          | tup => cases hok'
          | _ => exact absurd trivial hp
      have hres : ∀ v ∈ vs, v.res := by
        intro v hv
        have := List.all_eq_true.1 c1 v hv
        cases v <;> first | trivial | cases this
      have hbox : ∀ (i : Nat) (cs : List V), outs[i]? = some cs → BoxRel (g.frz.ren f) w (.out i) cs ∧ ∀ v ∈ cs, v.flat := fun i cs hi => ⟨h2'.box _ cs (by rw [show (⟨[], σ.box.filter fun b => !b.1.isMp⟩ : St).cells (.out i) = if (!(Key.out i).isMp) then σ.cells (.out i) else none from getA_filter (fun k : Key => !k.isMp) σ.box _]; exact o2 i cs hi), fun v hv => by have hck := List.all_eq_true.1 (List.all_eq_true.1 c2 cs (List.mem_of_getElem? hi)) v hv; (cases v <;> first | trivial | cases hck)⟩
      have fin : ∀ (v : V) (c : Value), r = (v, outs) → (results fn a.tmps).run P w = .ok c w → VRel (g.frz.ren f) w .ret v c → v.back no → ∃ v, (results fn a.tmps).run P w = .ok v w ∧ Post g0 w0 no r v w := by
        intro v c e hrr hv hb
        subst e
        exact ⟨c, hrr, g.frz.ren f, hv, hb, o1, hbox, h2'.evol, h2'.fresh, h2'.nones⟩
      have hmany : ∀ (hne : cs.length ≠ 1), (results fn a.tmps).run P w = .ok (.tuple cs.toArray) w := by
        intro hne
        rw [results_eq, Sem.run_bind, hrun]
        simp [Result.andThen, hne, Sem.run, pure]
      match hvs : vs, hcs : cs, m2 with
      | [v], [c], _ =>
        refine fin v c (by rw [← hr]) ?_ ?_ ?_
        · rw [results_eq, Sem.run_bind, hrun]
          simp [Result.andThen, Sem.run, pure]
        · have := hval 0 v c rfl rfl
          rwa [if_pos (by simpa using m3.symm)] at this
        · have := List.all_eq_true.1 c1 v (.head _)
          cases v with
          | agg us => exact fun u hu => by have hck := List.all_eq_true.1 this u hu; (cases u <;> first | trivial | cases hck)
          | sarr n rows =>
            refine fun rr hrr u hu => ?_
            have hck := List.all_eq_true.1 (List.all_eq_true.1 this rr hrr) u hu
            rw [Bool.or_eq_true] at hck
            rcases hck with hck | hck
            · left; cases u <;> first | trivial | cases hck
            · right
              cases u with
              | ptr k off =>
                cases k with
                | out i => exact ⟨i, off, rfl, by simpa [V.outPtr] using hck⟩
                | _ => cases hck
              | _ => cases hck
          | _ => first | trivial | cases this
      | [], [], _ =>
        refine fin (.tup []) (.tuple #[]) (by rw [← hr]) (hmany (by simp)) ?_ (fun u hu => by cases hu)
        exact .tup _ _ _ rfl (fun i v hv => by simp at hv) (fun i v c hv => by simp at hv)
      | v1 :: v2 :: vs', c1' :: c2' :: cs', hl =>
        refine fin (.tup (v1 :: v2 :: vs')) _ (by rw [← hr]) (hmany (by simp)) ?_ (fun u hu => by
          have := List.all_eq_true.1 c1 u hu
          have hns := List.all_eq_true.1 (c0.resolve_left (by simp)) u hu
          cases u with
          | agg us => exact fun u hu => by have hck := List.all_eq_true.1 this u hu; (cases u <;> first | trivial | cases hck)
          | sarr => cases hns
          | _ => first | trivial | cases this)
        refine .tup _ _ _ (by simpa using hl.symm) (fun i v hv => hres v (List.mem_of_getElem? hv)) (fun i v c hv hc => ?_)
        have := hval i v c hv (by simpa using hc)
        rwa [if_neg (by rw [← m3]; simp)] at this
    · cases hr
  · cases hr
end
end Go.Proofs.YtacfehneeanlgaaDoor.Ev
