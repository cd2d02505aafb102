/- What the evaluator's operations write stands for what the model's operations leave: moves. -/
import Derived.Test.YtkcopbnaleiocaaRel
namespace Go.Proofs.Ytkcopbnaleiocaa.Ev
open Go
set_option linter.unusedVariables false
set_option linter.unusedSimpArgs false

/-! ### States -/
@[simp] theorem St.tmp_put (σ : St) (t u : Nat) (v : Option V) : (σ.put (.tmp t v)).tmp u = if t = u then v else σ.tmp u := by
  cases v <;> simp [St.put, St.tmp, getA_setA, getA_delA]
@[simp] theorem St.cells_put_tmp (σ : St) (t : Nat) (v : Option V) (k : Key) : (σ.put (.tmp t v)).cells k = σ.cells k := by
  cases v <;> simp [St.put, St.cells]
@[simp] theorem St.tmp_put_box (σ : St) (k : Key) (cs : List V) (u : Nat) : (σ.put (.box k cs)).tmp u = σ.tmp u := rfl
@[simp] theorem St.cells_put_box (σ : St) (k l : Key) (cs : List V) : (σ.put (.box k cs)).cells l = if k = l then some cs else σ.cells l := by
  simp [St.put, St.cells, getA_setA]
@[simp] theorem St.tmp_put_cell (σ : St) (k : Key) (o : Nat) (v : V) (u : Nat) : (σ.put (.cell k o v)).tmp u = σ.tmp u := by
  simp only [St.put]
  cases σ.cells k <;> rfl
@[simp] theorem St.cells_put_cell (σ : St) (k l : Key) (o : Nat) (v : V) : (σ.put (.cell k o v)).cells l = if k = l then (σ.cells k).map (·.set o v) else σ.cells l := by
  simp only [St.put]
  cases h : σ.cells k with
  | none =>
    by_cases e : k = l
    · subst e; simp [h]
    · simp [e]
  | some cs => simp [St.cells, getA_setA]
theorem St.part_some {σ : St} {t i : Nat} {v : V} (h : σ.part t i = some v) : ∃ vs, σ.tmp t = some (.tup vs) ∧ vs[i]? = some v := by
  unfold St.part at h
  split at h
  · rename_i vs e; exact ⟨vs, e, h⟩
  · cases h
theorem St.put_part {σ : St} {t i : Nat} {v : V} {vs : List V} (h : σ.tmp t = some (.tup vs)) : σ.put (.part t i v) = σ.put (.tmp t (some (.tup (vs.set i v)))) := by
  simp only [St.put, h]
@[simp] theorem St.tmp_put_part (σ : St) (t i : Nat) (v : V) (u : Nat) : (σ.put (.part t i v)).tmp u = if t = u then (match σ.tmp t with | some (.tup vs) => some (.tup (vs.set i v)) | x => x) else σ.tmp u := by
  by_cases e : t = u
  · subst e
    rw [if_pos rfl]
    split
    · rename_i vs h; rw [St.put_part h]; simp
    · rename_i h
      simp only [St.put]
      try (split; (first | (rename_i vs h2; exact absurd h2 (h vs)) | rfl))
  · rw [if_neg e]
    cases h : σ.tmp t with
    | none => simp only [St.put, h]
    | some w =>
      cases w with
      | tup vs => rw [St.put_part h]; simp [e]
      | _ => simp only [St.put, h]
@[simp] theorem St.cells_put_part (σ : St) (t i : Nat) (v : V) (k : Key) : (σ.put (.part t i v)).cells k = σ.cells k := by
  simp only [St.put]
  split <;> rfl
theorem St.part_put_part (σ : St) (t i : Nat) (v : V) (u j : Nat) : (σ.put (.part t i v)).part u j = if t = u ∧ i = j then (σ.part t i).map (fun _ => v) else σ.part u j := by
  unfold St.part
  rw [St.tmp_put_part]
  by_cases e : t = u
  · subst e
    rw [if_pos rfl]
    cases h : σ.tmp t with
    | none => simp
    | some w =>
      cases w with
      | tup vs =>
        simp only [true_and]
        rw [List.getElem?_set]
        by_cases e2 : i = j
        · subst e2
          simp only [if_true]
          by_cases hl : i < vs.length
          · simp [hl]
          · simp [hl]
        · simp [e2]
      | _ => simp
  · simp [e]
theorem St.puts_append (σ : St) (xs ys : List W) : σ.puts (xs ++ ys) = (σ.puts xs).puts ys := by
  induction xs generalizing σ with
  | nil => rfl
  | cons x xs ih => exact ih (σ.put x)
@[simp] theorem St.puts_nil (σ : St) : σ.puts [] = σ := rfl
@[simp] theorem St.puts_cons (σ : St) (x : W) (xs : List W) : σ.puts (x :: xs) = (σ.put x).puts xs := rfl

/-! ### Slots -/
def V.plain : V → Prop
  | .own _ _ => False
  | .tup _ => False
  | .uni _ _ => False
  | _ => True
theorem VRel.slot {g : Gh} {w : World} {s s' : Slot} {v : V} {c : Value} (hp : v.plain) (h : VRel g w s v c) : VRel g w s' v c := by
  cases h with
  | val => exact .val _ _
  | arr _ _ _ _ h => exact .arr _ _ _ _ h
  | own => exact hp.elim
  | ptr _ _ _ _ h hk => exact .ptr _ _ _ _ h hk
  | mp _ _ _ h => exact .mp _ _ _ h
  | eptr _ _ _ _ _ _ _ _ hi h => exact .eptr _ _ _ _ _ _ _ _ hi h
  | agg _ _ _ hl hf h => exact .agg _ _ _ hl hf h
  | tup => exact hp.elim
  | uni => exact hp.elim
  | slen => exact .slen _ _ _ _
  | ms _ _ _ _ _ _ _ _ h hn hof hl hm => exact .ms _ _ _ _ _ _ _ _ h hn hof hl hm
  | mptr _ _ _ _ _ _ _ h hn hi => exact .mptr _ _ _ _ _ _ _ h hn hi
  | sarr _ _ _ _ _ hl hm hf hc h => exact .sarr _ _ _ _ _ hl hm hf hc h
  | sptr _ _ _ _ _ hi h => exact .sptr _ _ _ _ _ hi h
theorem VRel.view {g : Gh} {w : World} {s s' : Slot} {cs : List CT} {xs : List (List D)} {c : Value} (h : VRel g w s (.own cs xs) c) : VRel g w s' (.arr cs xs) c := by
  cases h with | own _ _ _ _ h _ => exact .arr _ _ _ _ h
def Gh.ren (g : Gh) (f : Slot → Slot) : Gh := { g with own := fun b => match g.own b with | .arr s l => .arr (f s) l | p => p }
theorem Gh.ren_stable (g : Gh) (f : Slot → Slot) : (g.ren f).stable = g.stable := by
  funext b o
  simp only [Gh.stable, Gh.ren]
  cases g.own b <;> rfl
theorem Spare.ren {g : Gh} {w : World} {s : Slot} {sz n : Nat} {c : Value} (f : Slot → Slot) (h : Spare g w s sz n c) : Spare (g.ren f) w (f s) sz n c := by
  rcases h with hs | hs | ⟨b, cap, cur, e, rfl, h1, h2, h3, h4, h5⟩
  · exact .inl hs
  · exact .inr (.inl hs)
  · exact .inr (.inr ⟨b, cap, cur, e, rfl, h1, h2, by simp only [Gh.ren, h3], h4, h5⟩)
theorem UniRel.ren {g : Gh} {w : World} {s s' : Slot} {cs : List CT} {xs : List (List D)} {c : Value} (f : Slot → Slot) (e : f s = s') (h : UniRel g w s cs xs c) : UniRel (g.ren f) w s' cs xs c :=
  h.mono (fun b o c a b' => by rw [Gh.ren_stable]; exact ⟨a, b'⟩) (fun b ho => ⟨by simp only [Gh.ren, ho, e], rfl⟩)
/-- A value's slots stay as they are. -/
def okFor (f : Slot → Slot) (s : Slot) : V → Prop
  | .own _ _ => f s = s
  | .uni _ _ => f s = s
  | .tup vs => ∀ (i : Nat) (v : V), vs[i]? = some v → v.plain ∨ f (.sub s i) = .sub s i
  | _ => True
theorem VRel.sarr_any {g g' : Gh} {w w' : World} (hst : ∀ b o c, g.stable b o → w.cell? (pl b o) = some c → g'.stable b o ∧ w'.cell? (pl b o) = some c) (hat : ∀ k b, g.at_ k = some b → g'.at_ k = some b) (hn : ∀ b r l, Slot.under .none r → g.own b ≠ .arr r l) {s s' : Slot} {n : Nat} {rows : List (List V)} {c : Value} (h : VRel g w s (.sarr n rows) c) : VRel g' w' s' (.sarr n rows) c := by
  have h1 : VRel g w .none _ c := VRel.slot (s' := .none) (by trivial) h
  have h2 := h1.mono hst hat (fun r b l hu ho => absurd ho (hn b r l hu)) (fun r b l hu ho => absurd ho (hn b r l hu))
  exact VRel.slot (by trivial) h2
theorem VRel.sptr_any {g g' : Gh} {w w' : World} (hst : ∀ b o c, g.stable b o → w.cell? (pl b o) = some c → g'.stable b o ∧ w'.cell? (pl b o) = some c) (hat : ∀ k b, g.at_ k = some b → g'.at_ k = some b) (hn : ∀ b r l, Slot.under .none r → g.own b ≠ .arr r l) {s s' : Slot} {n i : Nat} {rows : List (List V)} {c : Value} (h : VRel g w s (.sptr n rows i) c) : VRel g' w' s' (.sptr n rows i) c := by
  have h1 : VRel g w .none _ c := VRel.slot (s' := .none) (by trivial) h
  have h2 := h1.mono hst hat (fun r b l hu ho => absurd ho (hn b r l hu)) (fun r b l hu ho => absurd ho (hn b r l hu))
  exact VRel.slot (by trivial) h2
theorem VRel.plain_ren {g : Gh} {w : World} (f : Slot → Slot) {s : Slot} {v : V} {c : Value} (hp : v.plain) (h : VRel g w s v c) (hn : ∀ b r l, Slot.under .none r → g.own b ≠ .arr r l) : VRel (g.ren f) w s v c := by
  cases h with
  | val => exact .val _ _
  | arr _ cs xs c h => exact .arr _ cs xs c (by rw [Gh.ren_stable]; exact h)
  | own => exact hp.elim
  | ptr _ _ _ _ h hk => exact .ptr _ _ _ _ h hk
  | mp _ _ _ h => exact .mp (g := g.ren f) _ _ _ h
  | eptr _ _ _ _ _ _ _ _ hi h => exact .eptr _ _ _ _ _ _ _ _ hi (by rw [Gh.ren_stable]; exact h)
  | agg _ _ _ hl hf h =>
    exact .agg _ _ _ hl hf (fun i v c hv hc => VRel.mono (g := g) (g' := g.ren f) (w := w) (w' := w) (fun b o c h1 h2 => by rw [Gh.ren_stable]; exact ⟨h1, h2⟩) (fun _ _ h => h) (h i v c hv hc) (fun r b l hu ho => absurd ho (hn b r l hu)) (fun r b l hu ho => absurd ho (hn b r l hu)))
  | tup => exact hp.elim
  | uni => exact hp.elim
  | slen => exact .slen _ _ _ _
  | ms _ _ _ _ _ _ _ _ h hn hof hl hm => exact .ms (g := g.ren f) _ _ _ _ _ _ _ _ h hn hof hl hm
  | mptr _ _ _ _ _ _ _ h hn hi => exact .mptr (g := g.ren f) _ _ _ _ _ _ _ h hn hi
  | sarr _ _ _ _ _ hl hm hf hc h => exact VRel.sarr_any (g := g) (g' := g.ren f) (w := w) (w' := w) (fun b o c a b' => by rw [Gh.ren_stable]; exact ⟨a, b'⟩) (fun _ _ h => h) hn (VRel.sarr (g := g) (w := w) s _ _ _ _ hl hm hf hc h)
  | sptr _ _ _ _ _ hi h => exact VRel.sptr_any (g := g) (g' := g.ren f) (w := w) (w' := w) (fun b o c a b' => by rw [Gh.ren_stable]; exact ⟨a, b'⟩) (fun _ _ h => h) hn (VRel.sptr (g := g) (w := w) s _ _ _ _ hi h)
theorem VRel.ren {g : Gh} {w : World} (f : Slot → Slot) {s : Slot} {v : V} {c : Value} (h : VRel g w s v c) (ho : okFor f s v) (hn : ∀ b r l, Slot.under .none r → g.own b ≠ .arr r l) : VRel (g.ren f) w s v c := by
  cases h with
  | own _ cs xs c h hs =>
    have e : f s = s := ho
    refine .own _ cs xs c (by rw [Gh.ren_stable]; exact h) ?_
    have := hs.ren f
    rwa [e] at this
  | tup _ vs cs hl ht h =>
    refine .tup _ vs cs hl ht (fun i v c hv hc => ?_)
    rcases ho i v hv with hp | e
    · exact (h i v c hv hc).plain_ren f hp hn
    · have hv' := h i v c hv hc
      by_cases hp : v.plain
      · exact hv'.plain_ren f hp hn
      · cases hv' with
        | own _ _ _ _ h1 hs =>
          refine .own _ _ _ _ (by rw [Gh.ren_stable]; exact h1) ?_
          have := hs.ren f
          rwa [e] at this
        | uni _ _ _ _ h1 => exact .uni _ _ _ _ (h1.ren f e)
        | tup => exact (ht i _ hv).elim
        | _ => exact absurd trivial hp
  | val => exact .val _ _
  | arr _ _ _ _ h => exact (VRel.arr _ _ _ _ h).plain_ren f trivial hn
  | ptr _ _ _ _ h hk => exact .ptr _ _ _ _ h hk
  | mp _ _ _ h => exact .mp (g := g.ren f) _ _ _ h
  | eptr _ _ _ _ _ _ _ _ hi h => exact (VRel.eptr _ _ _ _ _ _ _ _ hi h).plain_ren f trivial hn
  | agg _ _ _ hl hf h => exact (VRel.agg _ _ _ hl hf h).plain_ren f trivial hn
  | uni _ cs xs c h => exact .uni _ _ _ _ (h.ren f ho)
  | slen => exact .slen _ _ _ _
  | ms _ _ _ _ _ _ _ _ h hn hof hl hm => exact .ms (g := g.ren f) _ _ _ _ _ _ _ _ h hn hof hl hm
  | mptr _ _ _ _ _ _ _ h hn hi => exact .mptr (g := g.ren f) _ _ _ _ _ _ _ h hn hi
  | sarr _ _ _ _ _ hl hm hf hc h => exact VRel.plain_ren (g := g) (w := w) f trivial (VRel.sarr (g := g) (w := w) s _ _ _ _ hl hm hf hc h) hn
  | sptr _ _ _ _ _ hi h => exact VRel.plain_ren (g := g) (w := w) f trivial (VRel.sptr (g := g) (w := w) s _ _ _ _ hi h) hn
/-- A slice's spare room, moved. -/
theorem VRel.own_ren {g : Gh} {w : World} (f : Slot → Slot) {s s' : Slot} {cs : List CT} {xs : List (List D)} {c : Value} (h : VRel g w s (.own cs xs) c) (e : f s = s') : VRel (g.ren f) w s' (.own cs xs) c := by
  cases h with
  | own _ _ _ _ h hs => subst e; exact .own _ _ _ _ (by rw [Gh.ren_stable]; exact h) (hs.ren f)
theorem VRel.uni_ren {g : Gh} {w : World} (f : Slot → Slot) {s s' : Slot} {cs : List CT} {xs : List (List D)} {c : Value} (h : VRel g w s (.uni cs xs) c) (e : f s = s') : VRel (g.ren f) w s' (.uni cs xs) c := by
  cases h with
  | uni _ _ _ _ h => exact .uni _ _ _ _ (h.ren f e)
def Slot.root : Slot → Slot
  | .sub s _ => s.root
  | s => s
theorem Slot.under_root {s r : Slot} (h : Slot.under s r) : r.root = s.root := by
  induction h with
  | refl => rfl
  | sub s r i _ ih => exact ih
theorem Slot.under_step {s r : Slot} (h : Slot.under s r) (i : Nat) : Slot.under s (.sub r i) := by
  induction h with
  | refl s => exact .sub _ _ i (.refl _)
  | sub s r j _ ih => exact .sub _ _ j ih
theorem Slot.under_none {s : Slot} (h : s.root = .none) : Slot.under .none s := by
  induction s with
  | sub s i ih => exact Slot.under_step (ih h) i
  | none => exact .refl _
  | _ => simp [Slot.root] at h

variable {g0 g : Gh} {w0 w : World} {σ : St} {a : Act} {N : Nat}

theorem Rep.mono_slot (h : Rep g0 w0 g w σ a N) {g' : Gh} {w' : World} (hst : ∀ b o c, g.stable b o → w.cell? (pl b o) = some c → g'.stable b o ∧ w'.cell? (pl b o) = some c)
    (hat : ∀ k b, g.at_ k = some b → g'.at_ k = some b) {s : Slot} {v : V} {c : Value} (hv : VRel g w s v c)
    (harr : ∀ r b l, r.root = s.root → g.own b = .arr r l → g'.own b = .arr r l ∧ w'.heap[b]? = w.heap[b]?) : VRel g' w' s v c :=
  hv.mono hst hat (fun r b l hu ho => harr r b l (Slot.under_root hu) ho) (fun r b l hu ho => absurd ho (h.nones b r l hu))

/-- A temporary is written. -/
theorem Rep.putTmp (h : Rep g0 w0 g w σ a N) {d : Nat} {v : V} {c : Value} (hd : d < N) (hv : VRel g w (.tmp d) v c) : Rep g0 w0 g w (σ.put (.tmp d (some v))) (a.put (some d) c) N := by
  refine ⟨fun t u hu => ?_, fun k cs hk => h.box k cs (by simpa using hk), h.fresh, h.base, h.evol, h.defers, by simpa [Act.put] using h.size, fun k b hb => by simpa using h.live k b hb, h.nones⟩
  simp only [St.tmp_put] at hu
  by_cases e : d = t
  · subst e
    simp only [if_true, Option.some.injEq] at hu
    subst hu
    refine ⟨c, ?_, hv⟩
    have := h.size
    simp only [Act.put, Array.getElem?_setIfInBounds_self]
    rw [if_pos (by omega)]
  · simp only [e, if_false] at hu
    obtain ⟨c', h1, h2⟩ := h.env t u hu
    exact ⟨c', by simp only [Act.put]; rw [Array.getElem?_setIfInBounds_ne e]; exact h1, h2⟩
/-- .. with nothing that is known. -/
theorem Rep.dropTmp (h : Rep g0 w0 g w σ a N) (d : Nat) : Rep g0 w0 g w (σ.put (.tmp d none)) a N := by
  refine ⟨fun t u hu => ?_, fun k cs hk => h.box k cs (by simpa using hk), h.fresh, h.base, h.evol, h.defers, h.size, fun k b hb => by simpa using h.live k b hb, h.nones⟩
  simp only [St.tmp_put] at hu
  by_cases e : d = t
  · simp [e] at hu
  · simp only [e, if_false] at hu
    exact h.env t u hu
theorem Rep.undef (h : Rep g0 w0 g w σ a N) (d : Nat) (c : Value) : Rep g0 w0 g w (σ.put (.tmp d none)) (a.put (some d) c) N := by
  refine ⟨fun t u hu => ?_, fun k cs hk => h.box k cs (by simpa using hk), h.fresh, h.base, h.evol, h.defers, by simpa [Act.put] using h.size, fun k b hb => by simpa using h.live k b hb, h.nones⟩
  simp only [St.tmp_put] at hu
  by_cases e : d = t
  · simp [e] at hu
  · simp only [e, if_false] at hu
    obtain ⟨c', h1, h2⟩ := h.env t u hu
    exact ⟨c', by simp only [Act.put]; rw [Array.getElem?_setIfInBounds_ne e]; exact h1, h2⟩
/-- A slice in a temporary loses its spare room, or whatever else stands for the same value. -/
theorem Rep.viewTmp (h : Rep g0 w0 g w σ a N) {s : Nat} {v v' : V} (hs : σ.tmp s = some v) (hv : ∀ c, VRel g w (.tmp s) v c → VRel g w (.tmp s) v' c) : Rep g0 w0 g w (σ.put (.tmp s (some v'))) a N := by
  refine ⟨fun t u hu => ?_, fun k cs hk => h.box k cs (by simpa using hk), h.fresh, h.base, h.evol, h.defers, h.size, fun k b hb => by simpa using h.live k b hb, h.nones⟩
  simp only [St.tmp_put] at hu
  by_cases e : s = t
  · subst e
    simp only [if_true, Option.some.injEq] at hu
    subst hu
    obtain ⟨c, h1, h2⟩ := h.env s v hs
    exact ⟨c, h1, hv c h2⟩
  · simp only [e, if_false] at hu
    exact h.env t u hu
/-- Spare room goes from slot to slot. -/
theorem Rep.rename (h : Rep g0 w0 g w σ a N) (f : Slot → Slot) (hn : ∀ r, (f r).root = .none → r.root = .none)
    (hs : ∀ t v, σ.tmp t = some v → okFor f (.tmp t) v) (hb : ∀ k cs o v, σ.cells k = some cs → cs[o]? = some v → okFor f (.cell k o) v) : Rep g0 w0 (g.ren f) w σ a N := by
  refine ⟨fun t v hv => ?_, fun k cs hk => ?_, fun b hb => ?_, h.base, ?_, h.defers, h.size, h.live, fun b r l hu ho => ?_⟩
  · obtain ⟨c, h1, h2⟩ := h.env t v hv
    exact ⟨c, h1, h2.ren f (hs t v hv) h.nones⟩
  · exact (h.box k cs hk).mono (fun b o c h1 h2 => ⟨by rw [Gh.ren_stable]; exact h1, h2⟩) (fun b h1 h2 => ⟨h1, by simp only [Gh.ren, h2], rfl⟩) (fun _ h => h) (fun i v c hv _ hc => hc.ren f (hb k cs i v hk hv) h.nones)
  · simp only [Gh.ren, h.fresh b hb]
  · refine h.evol.trans h.base ⟨rfl, rfl, rfl, Nat.le_refl _, fun b _ ho => ⟨rfl, by simp only [Gh.ren, ho]⟩, fun b l ho => ⟨rfl, by simp only [Gh.ren, ho]⟩, fun b s l ho => ⟨fun _ _ _ h => h, .inr (.inr ⟨f s, l, by simp only [Gh.ren, ho], Nat.le_refl _⟩)⟩, fun b k ho => by simp only [Gh.ren, ho], fun i b hb => hb⟩
  · simp only [Gh.ren] at ho
    cases hob : g.own b with
    | arr s l' =>
      rw [hob] at ho
      simp only [Perm.arr.injEq] at ho
      obtain ⟨rfl, rfl⟩ := ho
      exact h.nones b s l' (Slot.under_none (hn s (Slot.under_root hu))) hob
    | free => rw [hob] at ho; simp at ho
    | other => rw [hob] at ho; simp at ho
    | box => rw [hob] at ho; simp at ho

def slotOf : Operand → Slot
  | .tmp t => .tmp t
  | _ => .none
/-- An operand that is read. -/
theorem opd_sound (h : Rep g0 w0 g w σ a N) {x : Operand} {k : V → Step} {r : Bool × List W} (hr : (opd x k).run σ = some r) :
    ∃ v, (k v).run σ = some r ∧ VRel g w (slotOf x) v (a.eval x) ∧ (∀ t, x = .tmp t → σ.tmp t = some v) ∧ ((∀ t, x ≠ .tmp t) → v.plain) := by
  cases x with
  | tmp t =>
    simp only [opd, M.run] at hr
    cases hv : σ.tmp t with
    | none => rw [hv] at hr; cases hr
    | some v =>
      rw [hv] at hr
      obtain ⟨c, h1, h2⟩ := h.env t v hv
      refine ⟨v, hr, ?_, fun t' e => by cases e; exact hv, fun hx => absurd rfl (hx t)⟩
      simp only [Act.eval, Array.getD_eq_getD_getElem?, h1, Option.getD_some]
      exact h2
  | const v => exact ⟨.val v, hr, .val _ v, (fun _ e => nomatch e), fun _ => trivial⟩
  | func f => exact ⟨.val _, hr, .val _ _, (fun _ e => nomatch e), fun _ => trivial⟩
  | global g => cases hr

theorem up_value {P : Program} {o : Oper} {next : Act → World → Prop} {Q : Exit → Act → World → Prop} {c : Value} {w' : World} (hr : (execOp a.eval o).run P w = .ok (.value c) w') (hn : next (a.put o.dst c) w') : o.wp P a w next Q := by
  unfold Oper.wp; rw [hr]; exact hn
theorem up_skip {P : Program} {o : Oper} {next : Act → World → Prop} {Q : Exit → Act → World → Prop} {w' : World} (hr : (execOp a.eval o).run P w = .ok .skip w') (hn : next (a.put o.dst undef) w') : o.wp P a w next Q := by
  unfold Oper.wp; rw [hr]; exact hn

/-- A plain value is written to where an operation's value goes. -/
theorem Rep.dst (h : Rep g0 w0 g w σ a N) {d : Option Nat} {v : V} {c : Value} (hd : ∀ t, d = some t → t < N) (hv : ∀ t, VRel g w (.tmp t) v c) : Rep g0 w0 g w (σ.puts (dstW d v)) (a.put d c) N := by
  cases d with
  | none => exact h
  | some d => exact h.putTmp (hd d rfl) (hv d)
/-- One slot's room goes to another slot. -/
def toSlot (s s' : Slot) (r : Slot) : Slot := if r = s then s' else r
theorem toSlot_self (s s' : Slot) : toSlot s s' s = s' := by simp [toSlot]
theorem toSlot_ne {s s' r : Slot} (h : r ≠ s) : toSlot s s' r = r := by simp [toSlot, h]
theorem toSlot_none {s s' : Slot} (hs : s'.root ≠ .none) : ∀ r, (toSlot s s' r).root = .none → r.root = .none := by
  intro r
  unfold toSlot
  split
  · intro h; exact absurd h hs
  · exact id
theorem okFor_ne {s s' r : Slot} {v : V} (h : r ≠ s) (h2 : ∀ i, Slot.sub r i ≠ s) : okFor (toSlot s s') r v := by
  cases v with
  | own => exact toSlot_ne h
  | uni => exact toSlot_ne h
  | tup vs => exact fun i u hu => .inr (toSlot_ne (h2 i))
  | _ => trivial
theorem okFor_plain {f : Slot → Slot} {r : Slot} {v : V} (h : v.plain) : okFor f r v := by
  cases v with
  | own => exact h.elim
  | uni => exact h.elim
  | tup => exact h.elim
  | _ => trivial
/-- Spare room goes from a temporary to a slot. -/
theorem Rep.giveTmp (h : Rep g0 w0 g w σ a N) {s : Nat} {s' : Slot} (hr : s'.root ≠ .none) (hs : ∀ u, σ.tmp s = some u → u.plain) : Rep g0 w0 (g.ren (toSlot (.tmp s) s')) w σ a N := by
  refine h.rename _ (toSlot_none hr) (fun t v hv => ?_) (fun k cs o v _ _ => okFor_ne (by simp) (by simp))
  by_cases e : t = s
  · subst e; exact okFor_plain (hs v hv)
  · exact okFor_ne (by simpa using e) (by simp)
/-- .. from a part of a tuple. -/
theorem Rep.giveSub (h : Rep g0 w0 g w σ a N) {s i : Nat} {s' : Slot} (hr : s'.root ≠ .none) (hs : ∀ u, σ.tmp s = some u → okFor (toSlot (.sub (.tmp s) i) s') (.tmp s) u) : Rep g0 w0 (g.ren (toSlot (.sub (.tmp s) i) s')) w σ a N := by
  refine h.rename _ (toSlot_none hr) (fun t v hv => ?_) (fun k cs o v _ _ => okFor_ne (by simp) (by simp))
  by_cases e : t = s
  · subst e; exact hs v hv
  · exact okFor_ne (by simp) (fun j hj => e (by simp only [Slot.sub.injEq, Slot.tmp.injEq] at hj; exact hj.1))
/-- .. from a cell. -/
theorem Rep.giveCell (h : Rep g0 w0 g w σ a N) {k : Key} {o : Nat} {s' : Slot} (hr : s'.root ≠ .none) (hs : ∀ cs u, σ.cells k = some cs → cs[o]? = some u → u.plain) : Rep g0 w0 (g.ren (toSlot (.cell k o) s')) w σ a N := by
  refine h.rename _ (toSlot_none hr) (fun t v _ => okFor_ne (by simp) (by simp)) (fun k' cs o' v hk hv => ?_)
  by_cases e : k' = k ∧ o' = o
  · obtain ⟨rfl, rfl⟩ := e
    exact okFor_plain (hs cs v hk hv)
  · exact okFor_ne (by simpa using fun e1 e2 => e ⟨e1, e2⟩) (by simp)
/-- A tuple's spare room goes from temporary to temporary. -/
def tupSlot (s d : Nat) : Slot → Slot
  | .sub (.tmp t) i => if t = s then .sub (.tmp d) i else .sub (.tmp t) i
  | r => r
theorem Rep.giveTup (h : Rep g0 w0 g w σ a N) {s d : Nat} (hs : ∀ u, σ.tmp s = some u → u.plain) : Rep g0 w0 (g.ren (tupSlot s d)) w σ a N := by
  refine h.rename _ (fun r => ?_) (fun t v hv => ?_) (fun k cs o v _ _ => ?_)
  · unfold tupSlot
    split
    · split <;> simp [Slot.root]
    · exact id
  · by_cases e : t = s
    · subst e; exact okFor_plain (hs v hv)
    · cases v with
      | own => rfl
      | uni => rfl
      | tup vs => exact fun i u hu => .inr (by simp [tupSlot, e])
      | _ => trivial
  · cases v with
    | own => rfl
    | uni => rfl
    | tup vs => exact fun i u hu => .inr rfl
    | _ => trivial
theorem VRel.tup_ren {s d : Nat} {vs : List V} {c : Value} (h : VRel g w (.tmp s) (.tup vs) c) (hn : ∀ b r l, Slot.under .none r → g.own b ≠ .arr r l) : VRel (g.ren (tupSlot s d)) w (.tmp d) (.tup vs) c := by
  cases h with
  | tup _ _ cs hl ht h =>
    refine .tup _ vs cs hl ht (fun i v c hv hc => ?_)
    have hv' := h i v c hv hc
    by_cases hp : v.plain
    · exact (hv'.plain_ren _ hp hn).slot hp
    · cases v with
      | own cs xs => exact hv'.own_ren _ (by simp [tupSlot])
      | uni cs xs => exact hv'.uni_ren _ (by simp [tupSlot])
      | tup => exact (ht i _ hv).elim
      | _ => exact absurd trivial hp
end Go.Proofs.Ytkcopbnaleiocaa.Ev
