/- A call of a Go function: what the caller knows goes to the callee, and what the callee leaves comes back. -/
import Derived.Test.YtkcopbnaleiocaaOpD
namespace Go.Proofs.Ytkcopbnaleiocaa.Ev
open Go
set_option linter.unusedVariables false
set_option linter.unusedSimpArgs false

/-- What a callee finds. -/
structure Handed (g : Gh) (w : World) (vs : List V) (outs : List (List V)) (cargs : Array Value) : Prop where
  size : cargs.size = vs.length
  args : ∀ (i : Nat) (v : V), vs[i]? = some v → ∃ c, cargs[i]? = some c ∧ VRel g w (.tmp i) v c
  boxes : ∀ (i : Nat) (cs : List V), outs[i]? = some cs → BoxRel g w (.out i) cs
  fresh : ∀ b, w.heap.size ≤ b → g.own b = .free
  loc : ∀ t, g.at_ (.loc t) = none
  mp : ∀ t, g.at_ (.mp t) = none
  mn : ∀ t, g.at_ (.mn t) = none
  out : ∀ i b, g.at_ (.out i) = some b → i < outs.length
  nones : ∀ b r l, Slot.under .none r → g.own b ≠ .arr r l
/-- What a result may be. -/
def V.back1 : V → Prop
  | .val _ | .arr _ _ | .own _ _ | .uni _ _ | .slen _ => True
  | .agg vs => ∀ v ∈ vs, v.flat
  | _ => False
def V.back (no : Nat) : V → Prop
  | .tup us => ∀ u ∈ us, u.back1
  | .sarr _ rows => ∀ r ∈ rows, ∀ v ∈ r, v.flat ∨ ∃ i off, v = .ptr (.out i) off ∧ i < no
  | v => v.back1
/-- What an argument may be. -/
def V.inOk : V → Prop
  | .val _ | .arr _ _ | .own _ _ | .tup _ | .uni _ _ | .slen _ | .ptr _ _ => True
  | .agg vs => ∀ v ∈ vs, v.flat
  | _ => False
/-- What a call comes to. -/
def Contract (P : Program) (f : Nat) (vs : List V) (outs : List (List V)) (r : R) : Prop :=
  ∀ g w cargs, Handed g w vs outs cargs → Calls P f cargs w fun e w' => ∃ v g', e = .returned v ∧ VRel g' w' .ret r.1 v ∧ r.1.back outs.length ∧ r.2.length = outs.length ∧ (∀ (i : Nat) (cs : List V), r.2[i]? = some cs → BoxRel g' w' (.out i) cs ∧ ∀ v ∈ cs, v.flat) ∧ Evol g w g' w' ∧
    (∀ b, w'.heap.size ≤ b → g'.own b = .free) ∧ ∀ b s l, Slot.under .none s → g'.own b ≠ .arr s l

def ownAt : List Operand → List V → Nat → Nat → Option Nat
  | .tmp t :: xs, .own _ _ :: vs, i, u => if t = u then some i else ownAt xs vs (i + 1) u
  | _ :: xs, _ :: vs, i, u => ownAt xs vs (i + 1) u
  | _, _, _, _ => none
def inSlot (xs : List Operand) (vs : List V) (ks : List Key) : Slot → Option Slot
  | .tmp t => (ownAt xs vs 0 t).map .tmp
  | .cell k o => if k ∈ ks then some (.cell (.out (ks.idxOf k)) o) else none
  | _ => none
def outSlot (d : Option Nat) (ks : List Key) : Slot → Option Slot
  | .ret => d.map .tmp
  | .sub .ret i => d.map fun d => .sub (.tmp d) i
  | .cell (.out i) o => (ks[i]?).map fun k => .cell k o
  | _ => none
def gIn (G : Gh) (xs : List Operand) (vs : List V) (ks : List Key) : Gh where
  own b := match G.own b with
    | .free => .free
    | .other l => .other l
    | .arr s l => match inSlot xs vs ks s with | some s' => .arr s' l | none => .other l
    | .box k => if k ∈ ks then .box (.out (ks.idxOf k)) else .other 0
  at_ k := match k with | .out i => (ks[i]?).bind G.at_ | _ => none
def tr (d : Option Nat) (ks : List Key) : Perm → Perm
  | .free => .free
  | .other l => .other l
  | .arr s l => match outSlot d ks s with | some s' => .arr s' l | none => .free
  | .box _ => .free
def gOut (G : Gh) (n : Nat) (g' : Gh) (xs : List Operand) (vs : List V) (ks : List Key) (d : Option Nat) : Gh where
  own b := if b < n then match G.own b with
    | .free => .free
    | .other l => .other l
    | .arr s l => match inSlot xs vs ks s with | some _ => tr d ks (g'.own b) | none => .arr s l
    | .box k => .box k
    else tr d ks (g'.own b)
  at_ := G.at_

section
variable {G g g' : Gh} {w w' : World} {xs : List Operand} {vs : List V} {ks : List Key} {d : Option Nat}
theorem gIn_stable (b o : Nat) : (gIn G xs vs ks).stable b o ↔ G.stable b o := by
  simp only [Gh.stable, gIn]
  cases G.own b with
  | free => exact Iff.rfl
  | other => exact Iff.rfl
  | arr s l => simp only []; cases inSlot xs vs ks s <;> exact Iff.rfl
  | box k => simp only []; split <;> simp [Perm.stable]
theorem tr_stable {p : Perm} {o : Nat} (h : p.stable o) : (tr d ks p).stable o := by
  cases p with
  | free => exact h
  | other => exact h
  | arr s l => simp only [tr]; cases outSlot d ks s with | none => trivial | some => exact h
  | box => exact h.elim
theorem gOut_stable (hev : Evol (gIn G xs vs ks) w g' w') (hfr : ∀ b, w.heap.size ≤ b → G.own b = .free) {b o : Nat} {c : Value} (hs : g'.stable b o) : (gOut G w.heap.size g' xs vs ks d).stable b o := by
  simp only [Gh.stable, gOut] at hs ⊢
  by_cases hb : b < w.heap.size
  · rw [if_pos hb]
    cases ho : G.own b with
    | free => trivial
    | other l =>
      have := (hev.other b l (by simp [gIn, ho])).2
      rw [this] at hs
      exact hs
    | arr s l =>
      simp only []
      cases hi : inSlot xs vs ks s with
      | none =>
        have := (hev.other b l (by simp [gIn, ho, hi])).2
        rw [this] at hs
        exact hs
      | some s' => exact tr_stable hs
    | box k =>
      by_cases hk : k ∈ ks
      · have := hev.box b (ks.idxOf k) (by simp [gIn, ho, hk])
        rw [this] at hs
        exact hs.elim
      · have := (hev.other b 0 (by simp [gIn, ho, hk])).2
        rw [this] at hs
        exact absurd hs (Nat.not_lt_zero _)
  · rw [if_neg hb]
    exact tr_stable hs
theorem gOut_evol (hev : Evol (gIn G xs vs ks) w g' w') (hfr : ∀ b, w.heap.size ≤ b → G.own b = .free) : Evol G w (gOut G w.heap.size g' xs vs ks d) w' := by
  have hlt : ∀ b p, G.own b = p → p ≠ .free → b < w.heap.size := fun b p h hp => Nat.lt_of_not_le fun hle => hp (by rw [← h]; exact hfr b hle)
  refine ⟨hev.os, hev.tape, hev.output, hev.size, fun b hb ho => ?_, fun b l ho => ?_, fun b s l ho => ?_, fun b k ho => ?_, fun i b hb => hb⟩
  · exact ⟨(hev.free b hb (by simp [gIn, ho])).1, by simp [gOut, hb, ho]⟩
  · have hb := hlt b _ ho (by simp)
    exact ⟨(hev.other b l (by simp [gIn, ho])).1, by simp [gOut, hb, ho]⟩
  · have hb := hlt b _ ho (by simp)
    cases hi : inSlot xs vs ks s with
    | none =>
      have h1 := (hev.other b l (by simp [gIn, ho, hi])).1
      exact ⟨fun o c _ hc => by rw [cell_of_heap h1]; exact hc, .inr (.inr ⟨s, l, by simp [gOut, hb, ho, hi], Nat.le_refl _⟩)⟩
    | some s' =>
      obtain ⟨h1, h2⟩ := hev.arr b s' l (by simp [gIn, ho, hi])
      refine ⟨h1, ?_⟩
      have e : (gOut G w.heap.size g' xs vs ks d).own b = tr d ks (g'.own b) := by simp [gOut, hb, ho, hi]
      rw [e]
      rcases h2 with h2 | h2 | ⟨s2, l2, h2, hl⟩
      · exact .inl h2
      · rw [h2]; exact .inr (.inl rfl)
      · rw [h2]
        simp only [tr]
        cases outSlot d ks s2 with
        | none => exact .inr (.inl rfl)
        | some s3 => exact .inr (.inr ⟨s3, l2, rfl, hl⟩)
  · have hb := hlt b _ ho (by simp)
    simp [gOut, hb, ho]
/-- A slice's room comes back. -/
theorem gOut_arr (hev : Evol (gIn G xs vs ks) w g' w') {s s' : Slot} {b l : Nat} (ho : g'.own b = .arr s l) (hs : outSlot d ks s = some s') : (gOut G w.heap.size g' xs vs ks d).own b = .arr s' l := by
  have e : tr d ks (g'.own b) = .arr s' l := by rw [ho]; simp [tr, hs]
  by_cases hb : b < w.heap.size
  · cases hG : G.own b with
    | free => have := (hev.free b hb (by simp [gIn, hG])).2; rw [ho] at this; cases this
    | other l' => have := (hev.other b l' (by simp [gIn, hG])).2; rw [ho] at this; cases this
    | arr s2 l2 =>
      cases hi : inSlot xs vs ks s2 with
      | none => have := (hev.other b l2 (by simp [gIn, hG, hi])).2; rw [ho] at this; cases this
      | some s3 => simp [gOut, hb, hG, hi, e]
    | box k =>
      by_cases hk : k ∈ ks
      · have := hev.box b (ks.idxOf k) (by simp [gIn, hG, hk]); rw [ho] at this; cases this
      · have := (hev.other b 0 (by simp [gIn, hG, hk])).2; rw [ho] at this; cases this
  · simp [gOut, hb, e]
theorem gOut_flat (hev : Evol (gIn G xs vs ks) w g' w') (hfr : ∀ b, w.heap.size ≤ b → G.own b = .free) {s s' : Slot} {v : V} {c : Value} (hv : VRel g' w' s v c) (hf : v.flat) (hs : outSlot d ks s = some s' ∨ v.plain) : VRel (gOut G w.heap.size g' xs vs ks d) w' s' v c := by
  have hst : ∀ b o c, g'.stable b o → w'.cell? (pl b o) = some c → (gOut G w.heap.size g' xs vs ks d).stable b o ∧ w'.cell? (pl b o) = some c := fun b o c h1 h2 => ⟨gOut_stable (c := c) hev hfr h1, h2⟩
  cases hv with
  | val => exact .val _ _
  | arr _ cs xs' c h => exact .arr _ _ _ _ (h.mono hst)
  | own _ cs xs' c h hsp =>
    have hs := hs.resolve_right (fun h => h)
    refine .own _ _ _ _ (h.mono hst) ?_
    rcases hsp with h1 | h1 | ⟨b, cap, cur, e, rfl, h1, h2, h3, h4, h5⟩
    · exact .inl h1
    · exact .inr (.inl h1)
    · exact .inr (.inr ⟨b, cap, cur, e, rfl, h1, h2, gOut_arr hev h3 hs, h4, h5⟩)
  | _ => exact hf.elim
theorem gOut_none (hev : Evol (gIn G xs vs ks) w g' w') (hfr : ∀ b, w.heap.size ≤ b → G.own b = .free) {v : V} {c : Value} (hn : ∀ b r l, Slot.under .none r → g'.own b ≠ .arr r l) (hvr : VRel g' w' .none v c) (hf : v.flat) : VRel (gOut G w.heap.size g' xs vs ks d) w' .none v c := by
  have hst : ∀ b o c, g'.stable b o → w'.cell? (pl b o) = some c → (gOut G w.heap.size g' xs vs ks d).stable b o ∧ w'.cell? (pl b o) = some c := fun b o c h1 h2 => ⟨gOut_stable (c := c) hev hfr h1, h2⟩
  cases hvr with
  | val => exact .val _ _
  | arr _ cs xs' c h => exact .arr _ _ _ _ (h.mono hst)
  | own _ cs xs' c h hsp =>
    refine .own _ _ _ _ (h.mono hst) ?_
    rcases hsp with h1 | h1 | ⟨b, cap, cur, e, rfl, h1, h2, h3, h4, h5⟩
    · exact .inl h1
    · exact .inr (.inl h1)
    · exact absurd h3 (hn b _ _ (.refl _))
  | _ => exact hf.elim
theorem gOut_agg (hev : Evol (gIn G xs vs ks) w g' w') (hfr : ∀ b, w.heap.size ≤ b → G.own b = .free) {s s' : Slot} {us : List V} {c : Value} (hn : ∀ b r l, Slot.under .none r → g'.own b ≠ .arr r l) (hv : VRel g' w' s (.agg us) c) (hb : ∀ v ∈ us, v.flat) : VRel (gOut G w.heap.size g' xs vs ks d) w' s' (.agg us) c := by
  cases hv with
  | agg _ _ cs hl hf h => exact .agg _ _ _ hl hf (fun i v c hv hc => gOut_none hev hfr hn (h i v c hv hc) (hb v (List.mem_of_getElem? hv)))
theorem gOut_sarr (hev : Evol (gIn G xs vs ks) w g' w') (hfr : ∀ b, w.heap.size ≤ b → G.own b = .free) {s s' : Slot} {n : Nat} {rows : List (List V)} {c : Value} (hn : ∀ b r l, Slot.under .none r → g'.own b ≠ .arr r l) (hks : ∀ (i : Nat) (k : Key), ks[i]? = some k → k.isMp = false ∧ ∃ b, G.at_ k = some b)
    (hv : VRel g' w' s (.sarr n rows) c) (hb : ∀ r ∈ rows, ∀ v ∈ r, v.flat ∨ ∃ i off, v = .ptr (.out i) off ∧ i < ks.length) : VRel (gOut G w.heap.size g' xs vs ks d) w' s' (backV ks (.sarr n rows)) c := by
  have hst : ∀ b o c, g'.stable b o → w'.cell? (pl b o) = some c → (gOut G w.heap.size g' xs vs ks d).stable b o ∧ w'.cell? (pl b o) = some c := fun b o c h1 h2 => ⟨gOut_stable (c := c) hev hfr h1, h2⟩
  cases hv with
  | sarr _ _ _ b f hl hm hf hc h =>
    have back : ∀ {i j : Nat} {r : List V} {v : V}, (rows.map fun r => r.map (backC ks))[i]? = some r → r[j]? = some v → ∃ r0 v0, rows[i]? = some r0 ∧ r0[j]? = some v0 ∧ v = backC ks v0 := by
      intro i j r v hr hv
      simp only [List.getElem?_map, Option.map_eq_some_iff] at hr
      obtain ⟨r0, h1, rfl⟩ := hr
      simp only [List.getElem?_map, Option.map_eq_some_iff] at hv
      obtain ⟨v0, h2, rfl⟩ := hv
      exact ⟨r0, v0, h1, h2, rfl⟩
    have el : ∀ {i j : Nat} {r : List V} {v : V}, rows[i]? = some r → r[j]? = some v → (backC ks v).cellP ∧ VRel (gOut G w.heap.size g' xs vs ks d) w' .none (backC ks v) (f i j) := by
      intro i j r v hr hv
      have hvr := h i j r v hr hv
      rcases hb r (List.mem_of_getElem? hr) v (List.mem_of_getElem? hv) with hfl | ⟨m, off, rfl, hlt⟩
      · have : backC ks v = v := by cases v <;> first | rfl | exact hfl.elim
        rw [this]
        exact ⟨hfl.p, gOut_none hev hfr hn hvr hfl⟩
      · have hk : ks[m]? = some ks[m] := List.getElem?_eq_getElem hlt
        obtain ⟨hkm, bk, hbk⟩ := hks m _ hk
        have hat := hev.outs m bk (by simp [gIn, hk, hbk])
        have e : backC ks (.ptr (.out m) off) = .ptr ks[m] off := by simp only [backC, hk]
        rw [e]
        refine ⟨trivial, ?_⟩
        generalize f i j = u at hvr
        cases hvr with
        | ptr _ _ _ b' hb' hk' =>
          have : b' = bk := Option.some.inj (hb'.symm.trans hat)
          subst this
          exact .ptr _ _ _ _ hbk hkm
    have hlen : (rows.map fun r => r.map (backC ks)).length = rows.length := by simp
    have := VRel.sarr (g := gOut G w.heap.size g' xs vs ks d) (w := w') s' n (rows.map fun r => r.map (backC ks)) b f (fun i r hr => by
      simp only [List.getElem?_map, Option.map_eq_some_iff] at hr
      obtain ⟨r0, h1, rfl⟩ := hr
      simpa using hl i r0 h1) (by rw [hlen]; exact hm) (fun i j r v hr hv => by
      obtain ⟨r0, v0, h1, h2, rfl⟩ := back hr hv
      exact (el h1 h2).1) (fun i j r v hr hv => by
      obtain ⟨r0, v0, h1, h2, rfl⟩ := back hr hv
      exact hst _ _ _ (hc i j r0 v0 h1 h2).1 (hc i j r0 v0 h1 h2).2) (fun i j r v hr hv => by
      obtain ⟨r0, v0, h1, h2, rfl⟩ := back hr hv
      exact (el h1 h2).2)
    rw [hlen] at this
    exact this
theorem gOut_uni (hev : Evol (gIn G xs vs ks) w g' w') (hfr : ∀ b, w.heap.size ≤ b → G.own b = .free) {s s' : Slot} {cs : List CT} {rows : List (List D)} {c : Value} (hv : VRel g' w' s (.uni cs rows) c) (hs : outSlot d ks s = some s') : VRel (gOut G w.heap.size g' xs vs ks d) w' s' (.uni cs rows) c := by
  have hst : ∀ b o c, g'.stable b o → w'.cell? (pl b o) = some c → (gOut G w.heap.size g' xs vs ks d).stable b o ∧ w'.cell? (pl b o) = some c := fun b o c h1 h2 => ⟨gOut_stable (c := c) hev hfr h1, h2⟩
  cases hv with
  | uni _ _ _ _ h => exact .uni _ _ _ _ (h.mono hst fun b ho => ⟨gOut_arr hev ho hs, rfl⟩)
theorem gOut_slen {s s' : Slot} {n : Nat} {c : Value} {G' : Gh} (hv : VRel g' w' s (.slen n) c) : VRel G' w' s' (.slen n) c := by
  cases hv; exact .slen _ _ _ _
/-- A result comes back. -/
theorem gOut_ret (hev : Evol (gIn G xs vs ks) w g' w') (hfr : ∀ b, w.heap.size ≤ b → G.own b = .free) {t : Nat} {v : V} {c : Value} (hn : ∀ b r l, Slot.under .none r → g'.own b ≠ .arr r l) (hks : ∀ (i : Nat) (k : Key), ks[i]? = some k → k.isMp = false ∧ ∃ b, G.at_ k = some b) (hv : VRel g' w' .ret v c) (hb : v.back ks.length) : VRel (gOut G w.heap.size g' xs vs ks (some t)) w' (.tmp t) (backV ks v) c := by
  cases v with
  | val => exact gOut_flat hev hfr hv trivial (.inr trivial)
  | arr => exact gOut_flat hev hfr hv trivial (.inr trivial)
  | own => exact gOut_flat hev hfr hv trivial (.inl rfl)
  | uni => exact gOut_uni hev hfr hv rfl
  | slen => exact gOut_slen hv
  | agg => exact gOut_agg hev hfr hn hv hb
  | sarr => exact gOut_sarr hev hfr hn hks hv hb
  | tup us =>
    cases hv with
    | tup _ _ cs hl hr h =>
      refine .tup _ _ _ hl hr (fun i v c hv hc => ?_)
      have hvr := h i v c hv hc
      cases v with
      | val => exact gOut_flat hev hfr hvr trivial (.inr trivial)
      | arr => exact gOut_flat hev hfr hvr trivial (.inr trivial)
      | own => exact gOut_flat hev hfr hvr trivial (.inl rfl)
      | uni => exact gOut_uni hev hfr hvr rfl
      | slen => exact gOut_slen hvr
      | agg => exact gOut_agg hev hfr hn hvr (hb _ (List.mem_of_getElem? hv))
      | _ => exact (hb _ (List.mem_of_getElem? hv)).elim
  | _ => exact hb.elim
end
end Go.Proofs.Ytkcopbnaleiocaa.Ev
