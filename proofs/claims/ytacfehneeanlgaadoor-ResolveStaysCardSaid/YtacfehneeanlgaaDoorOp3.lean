/- What the evaluator's operations write stands for what the model's operations leave: moves. What a slice of which there is no other view may turn to: one that grows, one that is written in place. What the evaluator's operations write stands for what the model's operations leave: operations that touch no memory. What the evaluator's operations write stands for what the model's operations leave: numbers, strings, addresses. -/
import Derived.Test.YtacfehneeanlgaaDoorRel
import Derived.ChangeKeysEq
import Derived.Laws.Entries
import Derived.Laws.StructEq
import Derived.Deep.MidRow
namespace Go.Proofs.YtacfehneeanlgaaDoor.Ev
open Go
set_option linter.unusedVariables false
set_option linter.unusedSimpArgs false

/-! ### States -/
@[simp] theorem St.tmp_put (σ : St) (t u : Nat) (v : Option V) : (σ.put (.tmp t v)).tmp u = if t = u then v else σ.tmp u := by
  cases v <;> simp [St.put, St.tmp, getA_setA, getA_delA]
@[simp] theorem St.cells_put_tmp (σ : St) (t : Nat) (v : Option V) (k : Key) : (σ.put (.tmp t v)).cells k = σ.cells k := by
  cases v <;> simp [St.put, St.cells]
@[simp] theorem St.tmp_put_box (σ : St) (k : Key) (cs : List V) (u : Nat) : (σ.put (.box k cs)).tmp u = σ.tmp u := rfl
@[simp] theorem St.cells_put_box (σ : St) (k l : Key) (cs : List V) : (σ.put (.box k cs)).cells l = if k = l then some cs else σ.cells l := by
  simp [St.put, St.cells, getA_setA]
@[simp] theorem St.tmp_put_cell (σ : St) (k : Key) (o : Nat) (v : V) (u : Nat) : (σ.put (.cell k o v)).tmp u = σ.tmp u := by
  simp only [St.put]
  cases σ.cells k <;> rfl
@[simp] theorem St.cells_put_cell (σ : St) (k l : Key) (o : Nat) (v : V) : (σ.put (.cell k o v)).cells l = if k = l then (σ.cells k).map (·.set o v) else σ.cells l := by
  simp only [St.put]
  cases h : σ.cells k with
  | none =>
    by_cases e : k = l
    · subst e; simp [h]
    · simp [e]
  | some cs => simp [St.cells, getA_setA]
theorem St.part_some {σ : St} {t i : Nat} {v : V} (h : σ.part t i = some v) : ∃ vs, σ.tmp t = some (.tup vs) ∧ vs[i]? = some v := by
  unfold St.part at h
  split at h
  · rename_i vs e; exact ⟨vs, e, h⟩
  · cases h
theorem St.put_part {σ : St} {t i : Nat} {v : V} {vs : List V} (h : σ.tmp t = some (.tup vs)) : σ.put (.part t i v) = σ.put (.tmp t (some (.tup (vs.set i v)))) := by
  simp only [St.put, h]
@[simp] theorem St.tmp_put_part (σ : St) (t i : Nat) (v : V) (u : Nat) : (σ.put (.part t i v)).tmp u = if t = u then (match σ.tmp t with | some (.tup vs) => some (.tup (vs.set i v)) | x => x) else σ.tmp u := by
  by_cases e : t = u
  · subst e
    rw [if_pos rfl]
    split
    · rename_i vs h; rw [St.put_part h]; simp
    · rename_i h
      simp only [St.put]
      try (split; (first | (rename_i vs h2; exact absurd h2 (h vs)) | rfl))
  · rw [if_neg e]
    cases h : σ.tmp t with
    | none => simp only [St.put, h]
    | some w =>
      cases w with
      | tup vs => rw [St.put_part h]; simp [e]
      | _ => simp only [St.put, h]
@[simp] theorem St.cells_put_part (σ : St) (t i : Nat) (v : V) (k : Key) : (σ.put (.part t i v)).cells k = σ.cells k := by
  simp only [St.put]
  split <;> rfl
theorem St.part_put_part (σ : St) (t i : Nat) (v : V) (u j : Nat) : (σ.put (.part t i v)).part u j = if t = u ∧ i = j then (σ.part t i).map (fun _ => v) else σ.part u j := by
  unfold St.part
  rw [St.tmp_put_part]
  by_cases e : t = u
  · subst e
    rw [if_pos rfl]
    cases h : σ.tmp t with
    | none => simp
    | some w =>
      cases w with
      | tup vs =>
        simp only [true_and]
        rw [List.getElem?_set]
        by_cases e2 : i = j
        · subst e2
          simp only [if_true]
          by_cases hl : i < vs.length
          · simp [hl]
          · simp [hl]
        · simp [e2]
      | _ => simp
  · simp [e]
theorem St.puts_append (σ : St) (xs ys : List W) : σ.puts (xs ++ ys) = (σ.puts xs).puts ys := by
  induction xs generalizing σ with
  | nil => rfl
  | cons x xs ih => exact ih (σ.put x)
@[simp] theorem St.puts_nil (σ : St) : σ.puts [] = σ := rfl
@[simp] theorem St.puts_cons (σ : St) (x : W) (xs : List W) : σ.puts (x :: xs) = (σ.put x).puts xs := rfl

/-! ### Slots -/
def V.plain : V → Prop
  | .own _ _ => False
  | .tup _ => False
  | .uni _ _ => False
  | _ => True
theorem VRel.slot {g : Gh} {w : World} {s s' : Slot} {v : V} {c : Value} (hp : v.plain) (h : VRel g w s v c) : VRel g w s' v c := by
  cases h with
  | val => exact .val _ _
  | arr _ _ _ _ h => exact .arr _ _ _ _ h
  | own => exact hp.elim
  | ptr _ _ _ _ h hk => exact .ptr _ _ _ _ h hk
  | mp _ _ _ h => exact .mp _ _ _ h
  | eptr _ _ _ _ _ _ _ _ hi h => exact .eptr _ _ _ _ _ _ _ _ hi h
  | agg _ _ _ hl hf h => exact .agg _ _ _ hl hf h
  | tup => exact hp.elim
  | uni => exact hp.elim
  | slen => exact .slen _ _ _ _
  | ms _ _ _ _ _ _ _ _ h hn hof hl hm => exact .ms _ _ _ _ _ _ _ _ h hn hof hl hm
  | mptr _ _ _ _ _ _ _ h hn hi => exact .mptr _ _ _ _ _ _ _ h hn hi
  | sarr _ _ _ _ _ hl hm hf hc h => exact .sarr _ _ _ _ _ hl hm hf hc h
  | sptr _ _ _ _ _ hi h => exact .sptr _ _ _ _ _ hi h
theorem VRel.view {g : Gh} {w : World} {s s' : Slot} {cs : List CT} {xs : List (List D)} {c : Value} (h : VRel g w s (.own cs xs) c) : VRel g w s' (.arr cs xs) c := by
  cases h with | own _ _ _ _ h _ => exact .arr _ _ _ _ h
def Gh.ren (g : Gh) (f : Slot → Slot) : Gh := { g with own := fun b => match g.own b with | .arr s l => .arr (f s) l | p => p }
theorem Gh.ren_stable (g : Gh) (f : Slot → Slot) : (g.ren f).stable = g.stable := by
  funext b o
  simp only [Gh.stable, Gh.ren]
  cases g.own b <;> rfl
theorem Spare.ren {g : Gh} {w : World} {s : Slot} {sz n : Nat} {c : Value} (f : Slot → Slot) (h : Spare g w s sz n c) : Spare (g.ren f) w (f s) sz n c := by
  rcases h with hs | hs | ⟨b, cap, cur, e, rfl, h1, h2, h3, h4, h5⟩
  · exact .inl hs
  · exact .inr (.inl hs)
  · exact .inr (.inr ⟨b, cap, cur, e, rfl, h1, h2, by simp only [Gh.ren, h3], h4, h5⟩)
theorem UniRel.ren {g : Gh} {w : World} {s s' : Slot} {cs : List CT} {xs : List (List D)} {c : Value} (f : Slot → Slot) (e : f s = s') (h : UniRel g w s cs xs c) : UniRel (g.ren f) w s' cs xs c :=
  h.mono (fun b o c a b' => by rw [Gh.ren_stable]; exact ⟨a, b'⟩) (fun b ho => ⟨by simp only [Gh.ren, ho, e], rfl⟩)
/-- A value's slots stay as they are. -/
def okFor (f : Slot → Slot) (s : Slot) : V → Prop
  | .own _ _ => f s = s
  | .uni _ _ => f s = s
  | .tup vs => ∀ (i : Nat) (v : V), vs[i]? = some v → v.plain ∨ f (.sub s i) = .sub s i
  | _ => True
theorem VRel.sarr_any {g g' : Gh} {w w' : World} (hst : ∀ b o c, g.stable b o → w.cell? (pl b o) = some c → g'.stable b o ∧ w'.cell? (pl b o) = some c) (hat : ∀ k b, g.at_ k = some b → g'.at_ k = some b) (hn : ∀ b r l, Slot.under .none r → g.own b ≠ .arr r l) {s s' : Slot} {n : Nat} {rows : List (List V)} {c : Value} (h : VRel g w s (.sarr n rows) c) : VRel g' w' s' (.sarr n rows) c := by
  have h1 : VRel g w .none _ c := VRel.slot (s' := .none) (by trivial) h
  have h2 := h1.mono hst hat (fun r b l hu ho => absurd ho (hn b r l hu)) (fun r b l hu ho => absurd ho (hn b r l hu))
  exact VRel.slot (by trivial) h2
theorem VRel.sptr_any {g g' : Gh} {w w' : World} (hst : ∀ b o c, g.stable b o → w.cell? (pl b o) = some c → g'.stable b o ∧ w'.cell? (pl b o) = some c) (hat : ∀ k b, g.at_ k = some b → g'.at_ k = some b) (hn : ∀ b r l, Slot.under .none r → g.own b ≠ .arr r l) {s s' : Slot} {n i : Nat} {rows : List (List V)} {c : Value} (h : VRel g w s (.sptr n rows i) c) : VRel g' w' s' (.sptr n rows i) c := by
  have h1 : VRel g w .none _ c := VRel.slot (s' := .none) (by trivial) h
  have h2 := h1.mono hst hat (fun r b l hu ho => absurd ho (hn b r l hu)) (fun r b l hu ho => absurd ho (hn b r l hu))
  exact VRel.slot (by trivial) h2
theorem VRel.plain_ren {g : Gh} {w : World} (f : Slot → Slot) {s : Slot} {v : V} {c : Value} (hp : v.plain) (h : VRel g w s v c) (hn : ∀ b r l, Slot.under .none r → g.own b ≠ .arr r l) : VRel (g.ren f) w s v c := by
  cases h with
  | val => exact .val _ _
  | arr _ cs xs c h => exact .arr _ cs xs c (by rw [Gh.ren_stable]; exact h)
  | own => exact hp.elim
  | ptr _ _ _ _ h hk => exact .ptr _ _ _ _ h hk
  | mp _ _ _ h => exact .mp (g := g.ren f) _ _ _ h
  | eptr _ _ _ _ _ _ _ _ hi h => exact .eptr _ _ _ _ _ _ _ _ hi (by rw [Gh.ren_stable]; exact h)
  | agg _ _ _ hl hf h =>
    exact .agg _ _ _ hl hf (fun i v c hv hc => VRel.mono (g := g) (g' := g.ren f) (w := w) (w' := w) (fun b o c h1 h2 => by rw [Gh.ren_stable]; exact ⟨h1, h2⟩) (fun _ _ h => h) (h i v c hv hc) (fun r b l hu ho => absurd ho (hn b r l hu)) (fun r b l hu ho => absurd ho (hn b r l hu)))
  | tup => exact hp.elim
  | uni => exact hp.elim
  | slen => exact .slen _ _ _ _
  | ms _ _ _ _ _ _ _ _ h hn hof hl hm => exact .ms (g := g.ren f) _ _ _ _ _ _ _ _ h hn hof hl hm
  | mptr _ _ _ _ _ _ _ h hn hi => exact .mptr (g := g.ren f) _ _ _ _ _ _ _ h hn hi
  | sarr _ _ _ _ _ hl hm hf hc h => exact VRel.sarr_any (g := g) (g' := g.ren f) (w := w) (w' := w) (fun b o c a b' => by rw [Gh.ren_stable]; exact ⟨a, b'⟩) (fun _ _ h => h) hn (VRel.sarr (g := g) (w := w) s _ _ _ _ hl hm hf hc h)
  | sptr _ _ _ _ _ hi h => exact VRel.sptr_any (g := g) (g' := g.ren f) (w := w) (w' := w) (fun b o c a b' => by rw [Gh.ren_stable]; exact ⟨a, b'⟩) (fun _ _ h => h) hn (VRel.sptr (g := g) (w := w) s _ _ _ _ hi h)
theorem VRel.ren {g : Gh} {w : World} (f : Slot → Slot) {s : Slot} {v : V} {c : Value} (h : VRel g w s v c) (ho : okFor f s v) (hn : ∀ b r l, Slot.under .none r → g.own b ≠ .arr r l) : VRel (g.ren f) w s v c := by
  cases h with
  | own _ cs xs c h hs =>
    have e : f s = s := ho
    refine .own _ cs xs c (by rw [Gh.ren_stable]; exact h) ?_
    have := hs.ren f
    rwa [e] at this
  | tup _ vs cs hl ht h =>
    refine .tup _ vs cs hl ht (fun i v c hv hc => ?_)
    rcases ho i v hv with hp | e
    · exact (h i v c hv hc).plain_ren f hp hn
    · have hv' := h i v c hv hc
      by_cases hp : v.plain
      · exact hv'.plain_ren f hp hn
      · cases hv' with
        | own _ _ _ _ h1 hs =>
          refine .own _ _ _ _ (by rw [Gh.ren_stable]; exact h1) ?_
          have := hs.ren f
          rwa [e] at this
        | uni _ _ _ _ h1 => exact .uni _ _ _ _ (h1.ren f e)
        | tup => exact (ht i _ hv).elim
        | _ => exact absurd trivial hp
  | val => exact .val _ _
  | arr _ _ _ _ h => exact (VRel.arr _ _ _ _ h).plain_ren f trivial hn
  | ptr _ _ _ _ h hk => exact .ptr _ _ _ _ h hk
  | mp _ _ _ h => exact .mp (g := g.ren f) _ _ _ h
  | eptr _ _ _ _ _ _ _ _ hi h => exact (VRel.eptr _ _ _ _ _ _ _ _ hi h).plain_ren f trivial hn
  | agg _ _ _ hl hf h => exact (VRel.agg _ _ _ hl hf h).plain_ren f trivial hn
  | uni _ cs xs c h => exact .uni _ _ _ _ (h.ren f ho)
  | slen => exact .slen _ _ _ _
  | ms _ _ _ _ _ _ _ _ h hn hof hl hm => exact .ms (g := g.ren f) _ _ _ _ _ _ _ _ h hn hof hl hm
  | mptr _ _ _ _ _ _ _ h hn hi => exact .mptr (g := g.ren f) _ _ _ _ _ _ _ h hn hi
  | sarr _ _ _ _ _ hl hm hf hc h => exact VRel.plain_ren (g := g) (w := w) f trivial (VRel.sarr (g := g) (w := w) s _ _ _ _ hl hm hf hc h) hn
  | sptr _ _ _ _ _ hi h => exact VRel.plain_ren (g := g) (w := w) f trivial (VRel.sptr (g := g) (w := w) s _ _ _ _ hi h) hn
/-- A slice's spare room, moved. -/
theorem VRel.own_ren {g : Gh} {w : World} (f : Slot → Slot) {s s' : Slot} {cs : List CT} {xs : List (List D)} {c : Value} (h : VRel g w s (.own cs xs) c) (e : f s = s') : VRel (g.ren f) w s' (.own cs xs) c := by
  cases h with
  | own _ _ _ _ h hs => subst e; exact .own _ _ _ _ (by rw [Gh.ren_stable]; exact h) (hs.ren f)
theorem VRel.uni_ren {g : Gh} {w : World} (f : Slot → Slot) {s s' : Slot} {cs : List CT} {xs : List (List D)} {c : Value} (h : VRel g w s (.uni cs xs) c) (e : f s = s') : VRel (g.ren f) w s' (.uni cs xs) c := by
  cases h with
  | uni _ _ _ _ h => exact .uni _ _ _ _ (h.ren f e)
def Slot.root : Slot → Slot
  | .sub s _ => s.root
  | s => s
theorem Slot.under_root {s r : Slot} (h : Slot.under s r) : r.root = s.root := by
  induction h with
  | refl => rfl
  | sub s r i _ ih => exact ih
theorem Slot.under_step {s r : Slot} (h : Slot.under s r) (i : Nat) : Slot.under s (.sub r i) := by
  induction h with
  | refl s => exact .sub _ _ i (.refl _)
  | sub s r j _ ih => exact .sub _ _ j ih
theorem Slot.under_none {s : Slot} (h : s.root = .none) : Slot.under .none s := by
  induction s with
  | sub s i ih => exact Slot.under_step (ih h) i
  | none => exact .refl _
  | _ => simp [Slot.root] at h

variable {g0 g : Gh} {w0 w : World} {σ : St} {a : Act} {N : Nat}

theorem Rep.mono_slot (h : Rep g0 w0 g w σ a N) {g' : Gh} {w' : World} (hst : ∀ b o c, g.stable b o → w.cell? (pl b o) = some c → g'.stable b o ∧ w'.cell? (pl b o) = some c)
    (hat : ∀ k b, g.at_ k = some b → g'.at_ k = some b) {s : Slot} {v : V} {c : Value} (hv : VRel g w s v c)
    (harr : ∀ r b l, r.root = s.root → g.own b = .arr r l → g'.own b = .arr r l ∧ w'.heap[b]? = w.heap[b]?) : VRel g' w' s v c :=
  hv.mono hst hat (fun r b l hu ho => harr r b l (Slot.under_root hu) ho) (fun r b l hu ho => absurd ho (h.nones b r l hu))

/-- A temporary is written. -/
theorem Rep.putTmp (h : Rep g0 w0 g w σ a N) {d : Nat} {v : V} {c : Value} (hd : d < N) (hv : VRel g w (.tmp d) v c) : Rep g0 w0 g w (σ.put (.tmp d (some v))) (a.put (some d) c) N := by
  refine ⟨fun t u hu => ?_, fun k cs hk => h.box k cs (by simpa using hk), h.fresh, h.base, h.evol, h.defers, by simpa [Act.put] using h.size, fun k b hb => by simpa using h.live k b hb, h.nones⟩
  simp only [St.tmp_put] at hu
  by_cases e : d = t
  · subst e
    simp only [if_true, Option.some.injEq] at hu
    subst hu
    refine ⟨c, ?_, hv⟩
    have := h.size
    simp only [Act.put, Array.getElem?_setIfInBounds_self]
    rw [if_pos (by omega)]
  · simp only [e, if_false] at hu
    obtain ⟨c', h1, h2⟩ := h.env t u hu
    exact ⟨c', by simp only [Act.put]; rw [Array.getElem?_setIfInBounds_ne e]; exact h1, h2⟩
/-- .. with nothing that is known. -/
theorem Rep.dropTmp (h : Rep g0 w0 g w σ a N) (d : Nat) : Rep g0 w0 g w (σ.put (.tmp d none)) a N := by
  refine ⟨fun t u hu => ?_, fun k cs hk => h.box k cs (by simpa using hk), h.fresh, h.base, h.evol, h.defers, h.size, fun k b hb => by simpa using h.live k b hb, h.nones⟩
  simp only [St.tmp_put] at hu
  by_cases e : d = t
  · simp [e] at hu
  · simp only [e, if_false] at hu
    exact h.env t u hu
theorem Rep.undef (h : Rep g0 w0 g w σ a N) (d : Nat) (c : Value) : Rep g0 w0 g w (σ.put (.tmp d none)) (a.put (some d) c) N := by
  refine ⟨fun t u hu => ?_, fun k cs hk => h.box k cs (by simpa using hk), h.fresh, h.base, h.evol, h.defers, by simpa [Act.put] using h.size, fun k b hb => by simpa using h.live k b hb, h.nones⟩
  simp only [St.tmp_put] at hu
  by_cases e : d = t
  · simp [e] at hu
  · simp only [e, if_false] at hu
    obtain ⟨c', h1, h2⟩ := h.env t u hu
    exact ⟨c', by simp only [Act.put]; rw [Array.getElem?_setIfInBounds_ne e]; exact h1, h2⟩
/-- A slice in a temporary loses its spare room, or whatever else stands for the same value. -/
theorem Rep.viewTmp (h : Rep g0 w0 g w σ a N) {s : Nat} {v v' : V} (hs : σ.tmp s = some v) (hv : ∀ c, VRel g w (.tmp s) v c → VRel g w (.tmp s) v' c) : Rep g0 w0 g w (σ.put (.tmp s (some v'))) a N := by
  refine ⟨fun t u hu => ?_, fun k cs hk => h.box k cs (by simpa using hk), h.fresh, h.base, h.evol, h.defers, h.size, fun k b hb => by simpa using h.live k b hb, h.nones⟩
  simp only [St.tmp_put] at hu
  by_cases e : s = t
  · subst e
    simp only [if_true, Option.some.injEq] at hu
    subst hu
    obtain ⟨c, h1, h2⟩ := h.env s v hs
    exact ⟨c, h1, hv c h2⟩
  · simp only [e, if_false] at hu
    exact h.env t u hu
/-- Spare room goes from slot to slot. -/
theorem Rep.rename (h : Rep g0 w0 g w σ a N) (f : Slot → Slot) (hn : ∀ r, (f r).root = .none → r.root = .none)
    (hs : ∀ t v, σ.tmp t = some v → okFor f (.tmp t) v) (hb : ∀ k cs o v, σ.cells k = some cs → cs[o]? = some v → okFor f (.cell k o) v) : Rep g0 w0 (g.ren f) w σ a N := by
  refine ⟨fun t v hv => ?_, fun k cs hk => ?_, fun b hb => ?_, h.base, ?_, h.defers, h.size, h.live, fun b r l hu ho => ?_⟩
  · obtain ⟨c, h1, h2⟩ := h.env t v hv
    exact ⟨c, h1, h2.ren f (hs t v hv) h.nones⟩
  · exact (h.box k cs hk).mono (fun b o c h1 h2 => ⟨by rw [Gh.ren_stable]; exact h1, h2⟩) (fun b h1 h2 => ⟨h1, by simp only [Gh.ren, h2], rfl⟩) (fun _ h => h) (fun i v c hv _ hc => hc.ren f (hb k cs i v hk hv) h.nones)
  · simp only [Gh.ren, h.fresh b hb]
  · refine h.evol.trans h.base.1 ⟨rfl, rfl, rfl, Nat.le_refl _, fun b _ ho => ⟨rfl, by simp only [Gh.ren, ho]⟩, fun b l ho => ⟨rfl, by simp only [Gh.ren, ho]⟩, fun b s l ho => ⟨fun _ _ _ h => h, .inr (.inr ⟨f s, l, by simp only [Gh.ren, ho], Nat.le_refl _⟩)⟩, fun b k ho => by simp only [Gh.ren, ho], fun i b hb => hb⟩
  · simp only [Gh.ren] at ho
    cases hob : g.own b with
    | arr s l' =>
      rw [hob] at ho
      simp only [Perm.arr.injEq] at ho
      obtain ⟨rfl, rfl⟩ := ho
      exact h.nones b s l' (Slot.under_none (hn s (Slot.under_root hu))) hob
    | free => rw [hob] at ho; simp at ho
    | other => rw [hob] at ho; simp at ho
    | box => rw [hob] at ho; simp at ho

def slotOf : Operand → Slot
  | .tmp t => .tmp t
  | _ => .none
/-- An operand that is read. -/
theorem opd_sound (h : Rep g0 w0 g w σ a N) {x : Operand} {k : V → Step} {r : Bool × List W} (hr : (opd x k).run σ = some r) :
    ∃ v, (k v).run σ = some r ∧ VRel g w (slotOf x) v (a.eval x) ∧ (∀ t, x = .tmp t → σ.tmp t = some v) ∧ ((∀ t, x ≠ .tmp t) → v.plain) := by
  cases x with
  | tmp t =>
    simp only [opd, M.run] at hr
    cases hv : σ.tmp t with
    | none => rw [hv] at hr; cases hr
    | some v =>
      rw [hv] at hr
      obtain ⟨c, h1, h2⟩ := h.env t v hv
      refine ⟨v, hr, ?_, fun t' e => by cases e; exact hv, fun hx => absurd rfl (hx t)⟩
      simp only [Act.eval, Array.getD_eq_getD_getElem?, h1, Option.getD_some]
      exact h2
  | const v => exact ⟨.val v, hr, .val _ v, (fun _ e => nomatch e), fun _ => trivial⟩
  | func f => exact ⟨.val _, hr, .val _ _, (fun _ e => nomatch e), fun _ => trivial⟩
  | global g => cases hr

theorem up_value {P : Program} {o : Oper} {next : Act → World → Prop} {Q : Exit → Act → World → Prop} {c : Value} {w' : World} (hr : (execOp a.eval o).run P w = .ok (.value c) w') (hn : next (a.put o.dst c) w') : o.wp P a w next Q := by
  unfold Oper.wp; rw [hr]; exact hn
theorem up_skip {P : Program} {o : Oper} {next : Act → World → Prop} {Q : Exit → Act → World → Prop} {w' : World} (hr : (execOp a.eval o).run P w = .ok .skip w') (hn : next (a.put o.dst undef) w') : o.wp P a w next Q := by
  unfold Oper.wp; rw [hr]; exact hn

/-- A plain value is written to where an operation's value goes. -/
theorem Rep.dst (h : Rep g0 w0 g w σ a N) {d : Option Nat} {v : V} {c : Value} (hd : ∀ t, d = some t → t < N) (hv : ∀ t, VRel g w (.tmp t) v c) : Rep g0 w0 g w (σ.puts (dstW d v)) (a.put d c) N := by
  cases d with
  | none => exact h
  | some d => exact h.putTmp (hd d rfl) (hv d)
/-- One slot's room goes to another slot. -/
def toSlot (s s' : Slot) (r : Slot) : Slot := if r = s then s' else r
theorem toSlot_self (s s' : Slot) : toSlot s s' s = s' := by simp [toSlot]
theorem toSlot_ne {s s' r : Slot} (h : r ≠ s) : toSlot s s' r = r := by simp [toSlot, h]
theorem toSlot_none {s s' : Slot} (hs : s'.root ≠ .none) : ∀ r, (toSlot s s' r).root = .none → r.root = .none := by
  intro r
  unfold toSlot
  split
  · intro h; exact absurd h hs
  · exact id
theorem okFor_ne {s s' r : Slot} {v : V} (h : r ≠ s) (h2 : ∀ i, Slot.sub r i ≠ s) : okFor (toSlot s s') r v := by
  cases v with
  | own => exact toSlot_ne h
  | uni => exact toSlot_ne h
  | tup vs => exact fun i u hu => .inr (toSlot_ne (h2 i))
  | _ => trivial
theorem okFor_plain {f : Slot → Slot} {r : Slot} {v : V} (h : v.plain) : okFor f r v := by
  cases v with
  | own => exact h.elim
  | uni => exact h.elim
  | tup => exact h.elim
  | _ => trivial
/-- Spare room goes from a temporary to a slot. -/
theorem Rep.giveTmp (h : Rep g0 w0 g w σ a N) {s : Nat} {s' : Slot} (hr : s'.root ≠ .none) (hs : ∀ u, σ.tmp s = some u → u.plain) : Rep g0 w0 (g.ren (toSlot (.tmp s) s')) w σ a N := by
  refine h.rename _ (toSlot_none hr) (fun t v hv => ?_) (fun k cs o v _ _ => okFor_ne (by simp) (by simp))
  by_cases e : t = s
  · subst e; exact okFor_plain (hs v hv)
  · exact okFor_ne (by simpa using e) (by simp)
/-- .. from a part of a tuple. -/
theorem Rep.giveSub (h : Rep g0 w0 g w σ a N) {s i : Nat} {s' : Slot} (hr : s'.root ≠ .none) (hs : ∀ u, σ.tmp s = some u → okFor (toSlot (.sub (.tmp s) i) s') (.tmp s) u) : Rep g0 w0 (g.ren (toSlot (.sub (.tmp s) i) s')) w σ a N := by
  refine h.rename _ (toSlot_none hr) (fun t v hv => ?_) (fun k cs o v _ _ => okFor_ne (by simp) (by simp))
  by_cases e : t = s
  · subst e; exact hs v hv
  · exact okFor_ne (by simp) (fun j hj => e (by simp only [Slot.sub.injEq, Slot.tmp.injEq] at hj; exact hj.1))
/-- .. from a cell. -/
theorem Rep.giveCell (h : Rep g0 w0 g w σ a N) {k : Key} {o : Nat} {s' : Slot} (hr : s'.root ≠ .none) (hs : ∀ cs u, σ.cells k = some cs → cs[o]? = some u → u.plain) : Rep g0 w0 (g.ren (toSlot (.cell k o) s')) w σ a N := by
  refine h.rename _ (toSlot_none hr) (fun t v _ => okFor_ne (by simp) (by simp)) (fun k' cs o' v hk hv => ?_)
  by_cases e : k' = k ∧ o' = o
  · obtain ⟨rfl, rfl⟩ := e
    exact okFor_plain (hs cs v hk hv)
  · exact okFor_ne (by simpa using fun e1 e2 => e ⟨e1, e2⟩) (by simp)
/-- A tuple's spare room goes from temporary to temporary. -/
def tupSlot (s d : Nat) : Slot → Slot
  | .sub (.tmp t) i => if t = s then .sub (.tmp d) i else .sub (.tmp t) i
  | r => r
theorem Rep.giveTup (h : Rep g0 w0 g w σ a N) {s d : Nat} (hs : ∀ u, σ.tmp s = some u → u.plain) : Rep g0 w0 (g.ren (tupSlot s d)) w σ a N := by
  refine h.rename _ (fun r => ?_) (fun t v hv => ?_) (fun k cs o v _ _ => ?_)
  · unfold tupSlot
    split
    · split <;> simp [Slot.root]
    · exact id
  · by_cases e : t = s
    · subst e; exact okFor_plain (hs v hv)
    · cases v with
      | own => rfl
      | uni => rfl
      | tup vs => exact fun i u hu => .inr (by simp [tupSlot, e])
      | _ => trivial
  · cases v with
    | own => rfl
    | uni => rfl
    | tup vs => exact fun i u hu => .inr rfl
    | _ => trivial
theorem VRel.tup_ren {s d : Nat} {vs : List V} {c : Value} (h : VRel g w (.tmp s) (.tup vs) c) (hn : ∀ b r l, Slot.under .none r → g.own b ≠ .arr r l) : VRel (g.ren (tupSlot s d)) w (.tmp d) (.tup vs) c := by
  cases h with
  | tup _ _ cs hl ht h =>
    refine .tup _ vs cs hl ht (fun i v c hv hc => ?_)
    have hv' := h i v c hv hc
    by_cases hp : v.plain
    · exact (hv'.plain_ren _ hp hn).slot hp
    · cases v with
      | own cs xs => exact hv'.own_ren _ (by simp [tupSlot])
      | uni cs xs => exact hv'.uni_ren _ (by simp [tupSlot])
      | tup => exact (ht i _ hv).elim
      | _ => exact absurd trivial hp
end Go.Proofs.YtacfehneeanlgaaDoor.Ev
namespace Go.Proofs.YtacfehneeanlgaaDoor.Ev
open Go
set_option linter.unusedVariables false
set_option linter.unusedSimpArgs false
def Gh.set (g : Gh) (b : Nat) (p : Perm) : Gh := { g with own := fun b' => if b' = b then p else g.own b' }
def Gh.setAt (g : Gh) (k : Key) (b : Nat) : Gh := { g with at_ := fun k' => if k' = k then some b else g.at_ k' }
section
variable {g0 g : Gh} {w0 w : World} {σ τ : St} {a : Act} {N : Nat}
theorem own_lt (h : Rep g0 w0 g w σ a N) {b : Nat} {p : Perm} (ho : g.own b = p) (hp : p ≠ .free) : b < w.heap.size :=
  Nat.lt_of_not_le fun hle => hp (by rw [← ho]; exact h.fresh b hle)
theorem VRel.plain_mono {g' : Gh} {w' : World} (hst : ∀ b o c, g.stable b o → w.cell? (pl b o) = some c → g'.stable b o ∧ w'.cell? (pl b o) = some c) (hat : ∀ k b, g.at_ k = some b → g'.at_ k = some b) (hn : ∀ b r l, Slot.under .none r → g.own b ≠ .arr r l)
    {s : Slot} {v : V} {c : Value} (hp : v.plain) (hv : VRel g w s v c) : VRel g' w' s v c := by
  cases hv with
  | val => exact .val _ _
  | arr _ _ _ _ h => exact .arr _ _ _ _ (h.mono hst)
  | own => exact hp.elim
  | ptr _ _ _ _ h hk => exact .ptr _ _ _ _ (hat _ _ h) hk
  | mp _ _ _ h => exact .mp _ _ _ (hat _ _ h)
  | eptr _ _ _ _ _ _ _ _ hi h => exact .eptr _ _ _ _ _ _ _ _ hi (h.mono hst)
  | uni => exact hp.elim
  | slen => exact .slen _ _ _ _
  | ms _ _ _ _ _ _ _ _ h hn ho hl hm => exact .ms _ _ _ _ _ _ _ _ (hat _ _ h) (hat _ _ hn) ho hl hm
  | mptr _ _ _ _ _ _ _ h hn hi => exact .mptr _ _ _ _ _ _ _ (hat _ _ h) (hat _ _ hn) hi
  | agg _ _ _ hl hf h => exact .agg _ _ _ hl hf (fun i v c hv hc => (h i v c hv hc).mono hst hat (fun r b l hu ho => absurd ho (hn b r l hu)) (fun r b l hu ho => absurd ho (hn b r l hu)))
  | tup => exact hp.elim
  | sarr _ _ _ _ _ hl hm hf hc h => exact (VRel.sarr (g := g) (w := w) s _ _ _ _ hl hm hf hc h).sarr_any hst hat hn
  | sptr _ _ _ _ _ hi h => exact (VRel.sptr (g := g) (w := w) s _ _ _ _ hi h).sptr_any hst hat hn
/-- A slice grows in its own block. -/
theorem Rep.change (h : Rep g0 w0 g w σ a N) {s d b L L' : Nat} {w' : World} (ho : g.own b = .arr (.tmp s) L) (s1 : w'.os = w.os) (s2 : w'.tape = w.tape) (s3 : w'.output = w.output) (s4 : w'.heap.size = w.heap.size) (hoth : ∀ b', b' ≠ b → w'.heap[b']? = w.heap[b']?)
    (hsame : ∀ o c, o < L → w.cell? (pl b o) = some c → w'.cell? (pl b o) = some c) (hLL : L ≤ L') (hs : ∀ u, σ.tmp s = some u → u.plain) :
    Rep g0 w0 (g.set b (.arr (.tmp d) L')) w' σ a N ∧ (∀ b' o c, g.stable b' o → w.cell? (pl b' o) = some c → (g.set b (.arr (.tmp d) L')).stable b' o ∧ w'.cell? (pl b' o) = some c) := by
  have hown : ∀ b', b' ≠ b → (g.set b (.arr (.tmp d) L')).own b' = g.own b' := fun b' hb' => by simp [Gh.set, hb']
  have hst : ∀ b' o c, g.stable b' o → w.cell? (pl b' o) = some c → (g.set b (.arr (.tmp d) L')).stable b' o ∧ w'.cell? (pl b' o) = some c := by
    intro b' o c h1 h2
    by_cases e' : b' = b
    · subst e'
      unfold Gh.stable at h1 ⊢
      rw [ho] at h1
      have h1' : o < L := h1
      exact ⟨by simp only [Gh.set, if_true]; exact Nat.lt_of_lt_of_le h1' hLL, hsame o c h1' h2⟩
    · exact ⟨by unfold Gh.stable at h1 ⊢; rw [hown b' e']; exact h1, by rw [cell_of_heap (hoth b' e')]; exact h2⟩
  have mv : ∀ r v c, (v.plain ∨ ¬ Slot.under r (.tmp s)) → VRel g w r v c → VRel (g.set b (.arr (.tmp d) L')) w' r v c := by
    intro r v c hp hv
    rcases hp with hp | hp
    · exact hv.plain_mono hst (fun _ _ h => h) h.nones hp
    · refine hv.mono hst (fun _ _ h => h) (fun r' b' l hu h1 => ?_) (fun r' b' l hu h1 => absurd h1 (h.nones b' r' l hu))
      have : b' ≠ b := fun e' => by
        subst e'
        rw [ho] at h1
        cases h1
        exact hp hu
      exact ⟨by rw [hown b' this]; exact h1, hoth b' this⟩
  have hunder : ∀ t, t ≠ s → ¬ Slot.under (.tmp t) (.tmp s) := fun t ht hu => by
    have := Slot.under_root hu
    simp [Slot.root] at this
    exact absurd this.symm ht
  refine ⟨⟨fun t v hv => ?_, fun k cs hk => ?_, fun b' hb' => ?_, h.base, ?_, h.defers, h.size, h.live, fun b' r l hu h1 => ?_⟩, hst⟩
  · obtain ⟨c, h1, h2⟩ := h.env t v hv
    refine ⟨c, h1, mv _ _ _ ?_ h2⟩
    by_cases e' : t = s
    · subst e'; exact .inl (hs v hv)
    · exact .inr (hunder t e')
  · refine (h.box k cs hk).mono hst (fun b1 h1 h2 => ?_) (fun _ h => h) (fun i v c _ _ hv => mv _ _ _ (.inr fun hu => ?_) hv)
    · have : b1 ≠ b := fun e' => by subst e'; rw [ho] at h2; cases h2
      exact ⟨h1, by rw [hown b1 this]; exact h2, hoth b1 this⟩
    have := Slot.under_root hu
    simp [Slot.root] at this
  · rw [s4] at hb'
    have : b' ≠ b := fun e' => by subst e'; have := own_lt h ho (by simp); omega
    rw [hown b' this]
    exact h.fresh b' hb'
  · refine h.evol.trans h.base.1 ⟨s1, s2, s3, by rw [s4]; exact Nat.le_refl _, fun b' hb' h1 => ?_, fun b' l h1 => ?_, fun b' r l h1 => ?_, fun b' k h1 => ?_, fun _ _ h => h⟩
    · have : b' ≠ b := fun e' => by subst e'; rw [ho] at h1; cases h1
      exact ⟨hoth b' this, by rw [hown b' this]; exact h1⟩
    · have : b' ≠ b := fun e' => by subst e'; rw [ho] at h1; cases h1
      exact ⟨hoth b' this, by rw [hown b' this]; exact h1⟩
    · by_cases e' : b' = b
      · subst e'
        rw [ho] at h1
        cases h1
        refine ⟨fun q c hq hc => (hst b' q c (by unfold Gh.stable; rw [ho]; exact hq) hc).2, .inr (.inr ⟨.tmp d, L', by simp [Gh.set], hLL⟩)⟩
      · exact ⟨fun q c _ hc => by rw [cell_of_heap (hoth b' e')]; exact hc, .inr (.inr ⟨r, l, by rw [hown b' e']; exact h1, Nat.le_refl _⟩)⟩
    · have : b' ≠ b := fun e' => by subst e'; rw [ho] at h1; cases h1
      rw [hown b' this]; exact h1
  · by_cases e' : b' = b
    · subst e'
      simp only [Gh.set, if_true] at h1
      cases h1
      have := Slot.under_root hu
      simp [Slot.root] at this
    · rw [hown b' e'] at h1
      exact h.nones b' r l hu h1
theorem CT_same_eq : ∀ (n : Nat) (c d : CT), CT.same n c d = true → c = d
  | 0, c, d, h => by cases c <;> cases d <;> simp [CT.same] at h
  | n + 1, c, d, h => by
    have go : ∀ cs ds, CT.same.go n cs ds = true → cs = ds := by
      intro cs
      induction cs with
      | nil => intro ds h; cases ds <;> simp [CT.same.go] at h; rfl
      | cons c cs ih =>
        intro ds h
        cases ds with
        | nil => simp [CT.same.go] at h
        | cons d ds =>
          simp only [CT.same.go, Bool.and_eq_true] at h
          rw [CT_same_eq n c d h.1, ih ds h.2]
    cases c <;> cases d <;> simp [CT.same] at h <;> try rfl
    · rw [h]
    · rw [go _ _ h]
theorem sameCTs_eq : ∀ (cs ds : List CT), sameCTs cs ds = true → cs = ds
  | [], [], _ => rfl
  | c :: cs, d :: ds, h => by
    simp only [sameCTs, Bool.and_eq_true] at h
    rw [CT_same_eq 9 c d h.1, sameCTs_eq cs ds h.2]
  | [], _ :: _, h => by simp [sameCTs] at h
  | _ :: _, [], h => by simp [sameCTs] at h


/-- A state that tells alike. -/
theorem Rep.same (h : Rep g0 w0 g w σ a N) (ht : ∀ t, σ.tmp t = τ.tmp t) (hk : ∀ k, σ.cells k = τ.cells k) : Rep g0 w0 g w τ a N :=
  ⟨fun t v hv => h.env t v (by rw [ht]; exact hv), fun k cs hc => h.box k cs (by rw [hk]; exact hc), h.fresh, h.base, h.evol, h.defers, h.size, fun k b hb => by obtain ⟨cs, hc⟩ := h.live k b hb; exact ⟨cs, by rw [← hk]; exact hc⟩, h.nones⟩
theorem Rep.setTmp (h : Rep g0 w0 g w σ a N) {s : Nat} {v : V} {c : Value} (hc : a.tmps[s]? = some c) (hv : VRel g w (.tmp s) v c) : Rep g0 w0 g w (σ.put (.tmp s (some v))) a N := by
  refine ⟨fun t u hu => ?_, fun k cs hk => h.box k cs (by simpa using hk), h.fresh, h.base, h.evol, h.defers, h.size, fun k b hb => by simpa using h.live k b hb, h.nones⟩
  simp only [St.tmp_put] at hu
  by_cases e : s = t
  · subst e
    simp only [if_true, Option.some.injEq] at hu
    subst hu
    exact ⟨c, hc, hv⟩
  · simp only [e, if_false] at hu
    exact h.env t u hu
/-- It may have other views from now on. -/
theorem Rep.raise (h : Rep g0 w0 g w σ a N) {s : Nat} {cts : List CT} {xs : List (List D)} (hs : σ.tmp s = some (.uni cts xs)) : ∃ g', Rep g0 w0 g' w (σ.put (.tmp s (some (.own cts xs)))) a N := by
  obtain ⟨c, hc, hv⟩ := h.env s _ hs
  have h1 := h.dropTmp s
  have fin : ∀ g', Rep g0 w0 g' w (σ.put (.tmp s none)) a N → VRel g' w (.tmp s) (.own cts xs) c → ∃ g', Rep g0 w0 g' w (σ.put (.tmp s (some (.own cts xs)))) a N := fun g' hg hv =>
    ⟨g', (hg.setTmp hc hv).same (fun t => by simp only [St.tmp_put]; split <;> rfl) (fun k => by simp only [St.cells_put_tmp])⟩
  cases hv with
  | uni _ _ _ _ hu =>
    rcases hu with ⟨rfl, rfl⟩ | ⟨b, cap, cur, e, rfl, h2, h3, h4, h5, h6, h7⟩
    · exact fin g h1 (.own _ _ _ _ (.nil _ _ _ rfl) (.inl rfl))
    · obtain ⟨hr, hst⟩ := h1.change (s := s) (d := s) (L' := xs.length * cts.length) (w' := w) h4 rfl rfl rfl rfl (fun _ _ => rfl) (fun o c ho => absurd ho (Nat.not_lt_zero _)) (Nat.zero_le _) (fun u hu => by simp at hu)
      have hle : xs.length * cts.length ≤ cur.size := by rw [h6.1]; exact Nat.mul_le_mul_right _ h2
      have hlt : ∀ i j, i < xs.length → j < cts.length → i * cts.length + j < xs.length * cts.length := fun i j hi hj => by
        have := Nat.mul_le_mul_right cts.length (show i + 1 ≤ xs.length from hi)
        rw [Nat.add_mul] at this
        omega
      refine fin _ hr (.own _ _ _ _ (DRel.arr cts (.arr xs) b 0 cap (fun i j => (cur[i * cts.length + j]?).getD Go.undef) h2 h3 (fun i j hi hj => ⟨?_, ?_⟩) (fun i j ct hi hj => ?_)) (.inr (.inr ⟨b, cap, cur, e, rfl, h2, h3, by simp [Gh.set], h5, h6⟩)))
      · have := hlt i j hi hj
        simp only [Gh.stable, Gh.set, if_true, Perm.stable]
        omega
      · have := hlt i j hi hj
        have hlt2 : i * cts.length + j < cur.size := by omega
        simp only [World.cell?, h5, Nat.zero_add]
        simp [Array.getElem?_eq_getElem hlt2]
      · obtain ⟨v, q1, q2⟩ := h7 i j ct hi hj
        rw [q1]
        exact q2.mono hst
/-- It is written in place from now on. -/
theorem Rep.boxUni (h : Rep g0 w0 g w σ a N) {s : Nat} {cts : List CT} {xs : List (List D)} (hs : σ.tmp s = some (.uni cts xs)) (hf : σ.cells (.mp s) = none) (hpos : 0 < xs.length) :
    ∃ g' c, a.tmps[s]? = some c ∧ (∀ sl, VRel g' w sl (.ms s cts 0 xs.length) c) ∧ Rep g0 w0 g' w ((σ.put (.box (.mp s) [.arr cts xs, .val Go.undef])).put (.tmp s (some (.ms s cts 0 xs.length)))) a N := by
  obtain ⟨c, hc, hv⟩ := h.env s _ hs
  have h1 := h.dropTmp s
  cases hv with
  | uni _ _ _ _ hu =>
    rcases hu with ⟨rfl, rfl⟩ | ⟨b, cap, cur, e, rfl, h2, h3, h4, h5, h6, h7⟩
    · simp at hpos
    · let g' : Gh := { own := fun b' => if b' = b then .box (.mp s) else g.own b', at_ := fun k => if k = .mp s then some b else if k = .mn s then some (xs.length + cap * 18446744073709551616) else g.at_ k }
      have hnone : ∀ k, k.base = .mp s → g.at_ k = none := fun k hk => by
        cases hat : g.at_ k with
        | none => rfl
        | some b => obtain ⟨cs', hcs⟩ := h.live _ _ hat; rw [hk, hf] at hcs; cases hcs
      have hat : ∀ k b', g.at_ k = some b' → g'.at_ k = some b' := fun k b' hk => by
        have n1 : k ≠ .mp s := fun e => by rw [e, hnone _ rfl] at hk; cases hk
        have n2 : k ≠ .mn s := fun e => by rw [e, hnone _ rfl] at hk; cases hk
        simp only [g', n1, n2, if_false]
        exact hk
      have hown : ∀ b', b' ≠ b → g'.own b' = g.own b' := fun b' hb' => by simp only [g', hb', if_false]
      have hst : ∀ b' o c, g.stable b' o → w.cell? (pl b' o) = some c → g'.stable b' o ∧ w.cell? (pl b' o) = some c := fun b' o c q1 q2 => by
        refine ⟨?_, q2⟩
        by_cases e' : b' = b
        · subst e'
          unfold Gh.stable at q1
          rw [h4] at q1
          exact absurd q1 (Nat.not_lt_zero _)
        · unfold Gh.stable at q1 ⊢; rw [hown b' e']; exact q1
      have mv : ∀ r v c, r.root ≠ .tmp s → VRel g w r v c → VRel g' w r v c := fun r v c hr hv =>
        h1.mono_slot hst hat hv (fun r' b' l hu ho => by
          have : b' ≠ b := fun e' => by
            subst e'
            rw [h4] at ho
            cases ho
            exact hr hu.symm
          exact ⟨by rw [hown b' this]; exact ho, rfl⟩)
      have hmn : mnN (xs.length + cap * 18446744073709551616) = xs.length ∧ mnC (xs.length + cap * 18446744073709551616) = cap := by
        have : maxLen < 18446744073709551616 := by decide
        unfold mnN mnC
        omega
      have hnew : ∀ sl, VRel g' w sl (.ms s cts 0 xs.length) (.slice (some (pl b 0)) xs.length cap) := fun sl => by
        have := VRel.ms (g := g') (w := w) sl s cts 0 xs.length b cap (xs.length + cap * 18446744073709551616) (by simp [g']) (by simp [g']) (by rw [hmn.1]; omega) h2 ⟨h3, by rw [Nat.zero_add]; exact hmn.2.symm⟩
        simpa using this
      have hle : xs.length * cts.length ≤ cur.size := by rw [h6.1]; exact Nat.mul_le_mul_right _ h2
      refine ⟨g', _, hc, hnew, fun t u hu => ?_, fun k cs hk => ?_, fun b' hb' => ?_, h.base, ?_, h.defers, h.size, fun k b' hb' => ?_, fun b' r l hu ho => ?_⟩
      · simp only [St.tmp_put, St.tmp_put_box] at hu
        by_cases e' : s = t
        · subst e'
          simp only [if_true, Option.some.injEq] at hu
          subst hu
          exact ⟨_, hc, hnew _⟩
        · simp only [e', if_false] at hu
          obtain ⟨c', q1, q2⟩ := h.env t u hu
          exact ⟨c', q1, mv _ _ _ (by simp [Slot.root]; exact fun e2 => e' e2.symm) q2⟩
      · simp only [St.cells_put_tmp, St.cells_put_box] at hk
        by_cases e' : Key.mp s = k
        · subst e'
          simp only [if_true, Option.some.injEq] at hk
          subst hk
          refine .ofMap rfl ⟨b, _, by simp [g'], by simp [g'], h5, .inr (.inr ⟨cts, xs, cur, e, Go.undef, rfl, rfl, ⟨_, by simp [g', Key.num], hmn.1, by rw [hmn.2, h6.1]⟩, hle, h6.2, fun i j ct hi hj => ?_⟩)⟩
          obtain ⟨v, q1, q2⟩ := h7 i j ct hi hj
          exact ⟨v, q1, q2.mono hst⟩
        · simp only [e', if_false] at hk
          refine (h.box k cs hk).mono hst (fun b1 q1 q2 => ⟨hat _ _ q1, ?_, rfl⟩) (fun n q => hat _ _ q) (fun i v c _ _ hv => mv _ _ _ (by simp [Slot.root]) hv)
          have : b1 ≠ b := fun e2 => by subst e2; rw [h4] at q2; cases q2
          rw [hown b1 this]; exact q2
      · have : b' ≠ b := fun e' => by subst e'; have := own_lt h h4 (by simp); omega
        rw [hown b' this]
        exact h.fresh b' hb'
      · refine h.evol.trans h.base.1 ⟨rfl, rfl, rfl, Nat.le_refl _, fun b' _ q => ⟨rfl, ?_⟩, fun b' l q => ⟨rfl, ?_⟩, fun b' r l q => ⟨fun _ _ _ q => q, ?_⟩, fun b' i q => ?_, fun i b' q => hat _ _ q⟩
        · rw [hown b' (fun e' => by subst e'; rw [h4] at q; cases q)]; exact q
        · rw [hown b' (fun e' => by subst e'; rw [h4] at q; cases q)]; exact q
        · by_cases e' : b' = b
          · subst e'; rw [h4] at q; cases q; exact .inl rfl
          · exact .inr (.inr ⟨r, l, by rw [hown b' e']; exact q, Nat.le_refl _⟩)
        · rw [hown b' (fun e' => by subst e'; rw [h4] at q; cases q)]; exact q
      · simp only [St.cells_put_tmp, St.cells_put_box]
        by_cases e' : Key.mp s = k.base
        · exact ⟨_, by rw [if_pos e']⟩
        · rw [if_neg e']
          refine h.live k b' ?_
          simp only [g'] at hb'
          rw [if_neg (fun e2 => e' (by rw [e2]; rfl)), if_neg (fun e2 => e' (by rw [e2]; rfl))] at hb'
          exact hb'
      · by_cases e' : b' = b
        · subst e'; simp only [g', if_true] at ho; cases ho
        · rw [hown b' e'] at ho; exact h.nones b' r l hu ho
end
end Go.Proofs.YtacfehneeanlgaaDoor.Ev
namespace Go.Proofs.YtacfehneeanlgaaDoor.Ev
open Go
set_option linter.unusedVariables false
set_option linter.unusedSimpArgs false

/-- What is known of the program is so. -/
structure InfoOk (P : Program) (I : Info) : Prop where
  und : ∀ {t d}, I.und t = some d → P.underlying t = some d
  size : ∀ {t n}, I.size t = some n → ∃ i, P.info? t = some i ∧ i.size = n
  zero : ∀ {t zs}, I.zero t = some zs → ∃ i z, P.info? t = some i ∧ i.zero = some z ∧ zs = z.cells.toList.map V.val
  cts : ∀ {t cs}, I.cts t = some cs → ∃ i, P.info? t = some i ∧ i.size = cs.length
  bytes : ∀ {t n}, I.bytes t = some n → ∃ i, P.info? t = some i ∧ i.bytes = n
  zval : ∀ {t z}, I.zval t = some z → ∃ i, P.info? t = some i ∧ i.zero = some z
  func : ∀ {f fd}, I.func f = some fd → P.funcs[f]? = some fd
  mixed : P.follows .mixedOrders = true
  eqOk : ∀ {t}, I.eqOk t = true → P.stoodInHeld t = false ∧ P.eqGuardType P.depth t = false

section
variable {P : Program} {I : Info} {g0 g : Gh} {w0 w : World} {σ : St} {a : Act} {N : Nat} {o : Oper} {ops : List Oper} {next : Act → World → Prop} {Q : Exit → Act → World → Prop} {ws : List W} {b : Bool}

/-- A value goes on, with its spare room. -/
theorem Rep.goes (h : Rep g0 w0 g w σ a N) {x : Operand} {v : V} {c : Value} {d : Option Nat} (hd : ∀ t, d = some t → t < N) (hv : VRel g w (slotOf x) v c) (hx : ∀ t, x = .tmp t → σ.tmp t = some v) (hp : (∀ t, x ≠ .tmp t) → v.plain) :
    ∃ g', Rep g0 w0 g' w (σ.puts (gone x v ++ dstW d v)) (a.put d c) N := by
  by_cases hpl : v.plain
  · have : gone x v = [] := by cases x <;> cases v <;> first | rfl | exact hpl.elim
    rw [this, List.nil_append]
    exact ⟨g, h.dst hd (fun t => hv.slot hpl)⟩
  · cases x with
    | tmp s =>
      have hs := hx s rfl
      cases v with
      | own cs xs =>
        have h1 := h.viewTmp hs (v' := .arr cs xs) (fun c hc => hc.view)
        cases d with
        | none => exact ⟨g, h1⟩
        | some d => exact ⟨_, (h1.giveTmp (s := s) (s' := .tmp d) (by simp [Slot.root]) (fun u hu => by simp at hu; subst hu; trivial)).putTmp (hd d rfl) (hv.own_ren _ (toSlot_self _ _))⟩
      | uni cs xs =>
        have h1 := h.dropTmp s
        cases d with
        | none => exact ⟨g, h1⟩
        | some d => exact ⟨_, (h1.giveTmp (s := s) (s' := .tmp d) (by simp [Slot.root]) (fun u hu => by simp at hu)).putTmp (hd d rfl) (hv.uni_ren _ (toSlot_self _ _))⟩
      | tup vs =>
        have h1 := h.dropTmp s
        cases d with
        | none => exact ⟨g, h1⟩
        | some d => exact ⟨_, (h1.giveTup (s := s) (d := d) (fun u hu => by simp at hu)).putTmp (hd d rfl) (hv.tup_ren h.nones)⟩
      | _ => exact absurd trivial hpl
    | _ => exact absurd (hp (fun t e => by cases e)) hpl
theorem V.view_plain {v : V} (h : ∀ vs, v ≠ .tup vs) : v.view.plain := by
  cases v <;> first | trivial | exact absurd rfl (h _)
theorem VRel.slen_of {s s' : Slot} {cs : List CT} {xs : List (List D)} {c : Value} (h : VRel g w s (.uni cs xs) c) : VRel g w s' (.slen xs.length) c := by
  cases h with
  | uni _ _ _ _ h =>
    rcases h with ⟨rfl, rfl⟩ | ⟨b, cap, cur, e, rfl, _⟩
    · exact .slen _ _ _ _
    · exact .slen _ _ _ _
theorem VRel.viewed {s s' : Slot} {v : V} {c : Value} (h : VRel g w s v c) (ht : ∀ vs, v ≠ .tup vs) : VRel g w s' v.view c := by
  cases v with
  | own cs xs => exact h.view
  | uni cs xs => exact h.slen_of
  | tup vs => exact absurd rfl (ht vs)
  | _ => exact h.slot trivial

theorem op_move {x : Operand} (ho : o.op = .move x) (h : Rep g0 w0 g w σ a N) (hd : ∀ t, o.dst = some t → t < N) (hr : (opM I ops o).run σ = some (true, ws)) (hn : ∀ g' a' w', Rep g0 w0 g' w' (σ.puts ws) a' N → next a' w') : o.wp P a w next Q := by
  unfold opM at hr
  rw [ho] at hr
  obtain ⟨v, hr, hv, hx, hp⟩ := opd_sound h hr
  refine up_value (c := a.eval x) (w' := w) (by simp [execOp, ho, Sem.run, pure]) ?_
  have key : ∀ ws', gone x v ++ dstW o.dst v = ws' → ws = ws' → next (a.put o.dst (a.eval x)) w := by
    rintro _ rfl rfl
    obtain ⟨g', h'⟩ := h.goes hd hv hx hp
    exact hn g' _ _ h'
  cases v with
  | own cs xs =>
    simp only at hr
    split at hr
    · simp only [M.run, Option.some.injEq, Prod.mk.injEq, true_and] at hr
      exact key _ rfl hr.symm
    · simp only [M.run, Option.some.injEq, Prod.mk.injEq, true_and] at hr
      subst hr
      exact hn g _ _ (h.dst hd (fun t => hv.view))
  | uni cs xs =>
    simp only at hr
    split at hr
    · simp only [M.run, Option.some.injEq, Prod.mk.injEq, true_and] at hr
      exact key _ rfl hr.symm
    split at hr
    · rename_i s _q1 _q2
      simp only [M.run, Option.some.injEq, Prod.mk.injEq, true_and] at hr
      subst hr
      obtain ⟨g1, h1⟩ := h.raise (hx s rfl)
      obtain ⟨c, hc, hv1⟩ := h1.env s (.own cs xs) (by simp)
      have hc' : a.eval (.tmp s) = c := by simp only [Act.eval, Array.getD_eq_getD_getElem?, hc, Option.getD_some]
      obtain ⟨g2, h2⟩ := h1.goes (x := .tmp s) (d := o.dst) hd hv1 (fun t e => by cases e; simp) (fun hne => absurd rfl (hne s))
      rw [← hc'] at h2
      refine hn g2 _ _ (h2.same (fun t => ?_) (fun k => ?_))
      · cases o.dst <;> simp only [gone, dstW, List.cons_append, List.nil_append, St.puts_cons, St.puts_nil, St.tmp_put] <;> (repeat' split) <;> rfl
      · cases o.dst <;> simp only [gone, dstW, List.cons_append, List.nil_append, St.puts_cons, St.puts_nil, St.cells_put_tmp]
    · rename_i s _q1 _q2
      split at hr
      · simp only [M.run] at hr
        cases hf : σ.cells (.mp s) with
        | some => rw [hf] at hr; cases hr
        | none =>
          rw [hf] at hr
          simp only [Option.some.injEq, Prod.mk.injEq, decide_eq_true_eq] at hr
          obtain ⟨hpos, rfl⟩ := hr
          obtain ⟨g1, c, hc, hnew, h1⟩ := h.boxUni (hx s rfl) hf hpos
          have hc' : a.eval (.tmp s) = c := by simp only [Act.eval, Array.getD_eq_getD_getElem?, hc, Option.getD_some]
          exact hn g1 _ _ (h1.dst hd (fun t => by rw [hc']; exact hnew _))
      · simp only [M.run, Option.some.injEq, Prod.mk.injEq, true_and] at hr
        subst hr
        exact hn g _ _ (h.dst hd (fun t => hv.slen_of))
      · simp only [M.run, Option.some.injEq, Prod.mk.injEq, true_and] at hr
        subst hr
        obtain ⟨g1, h1⟩ := h.raise (hx s rfl)
        obtain ⟨c, hc, hv1⟩ := h1.env s (.own cs xs) (by simp)
        have hc' : a.eval (.tmp s) = c := by simp only [Act.eval, Array.getD_eq_getD_getElem?, hc, Option.getD_some]
        exact hn g1 _ _ (h1.dst hd (fun t => by rw [hc']; exact hv1.view))
    · cases hr
  | _ =>
    simp only [M.run, Option.some.injEq, Prod.mk.injEq, true_and] at hr
    exact key _ rfl hr.symm
theorem op_assign {x : Operand} (ho : o.op = .assign x) (h : Rep g0 w0 g w σ a N) (hd : ∀ t, o.dst = some t → t < N) (hr : (opM I ops o).run σ = some (true, ws)) (hn : ∀ g' a' w', Rep g0 w0 g' w' (σ.puts ws) a' N → next a' w') : o.wp P a w next Q := by
  unfold opM at hr
  rw [ho] at hr
  obtain ⟨v, hr, hv, hx, hp⟩ := opd_sound h hr
  refine up_value (c := a.eval x) (w' := w) (by simp [execOp, ho, Sem.run, pure]) ?_
  simp only [M.run, Option.some.injEq, Prod.mk.injEq, true_and] at hr
  subst hr
  obtain ⟨g', h'⟩ := h.goes hd hv hx hp
  exact hn g' _ _ h'

/-- An operation that yields a plain value and touches nothing. -/
theorem op_plain {v : V} {c : Value} (h : Rep g0 w0 g w σ a N) (hd : ∀ t, o.dst = some t → t < N) (hrun : (execOp a.eval o).run P w = .ok (.value c) w) (hv : ∀ t, VRel g w (.tmp t) v c)
    (hr : (M.ret (true, dstW o.dst v) : Step).run σ = some (true, ws)) (hn : ∀ g' a' w', Rep g0 w0 g' w' (σ.puts ws) a' N → next a' w') : o.wp P a w next Q := by
  simp only [M.run, Option.some.injEq, Prod.mk.injEq, true_and] at hr
  subst hr
  exact up_value hrun (hn g _ _ (h.dst hd hv))
theorem ret_ok {v : V} {d : Option Nat} {σ : St} (hr : (M.ret (b, dstW d v) : Step).run σ = some (true, ws)) : b = true ∧ (M.ret (true, dstW d v) : Step).run σ = some (true, ws) := by
  simp only [M.run, Option.some.injEq, Prod.mk.injEq] at hr ⊢
  exact ⟨hr.1, trivial, hr.2⟩

theorem pick_run {c x y : Operand} (ho : o.op = .pick c x y) {b : Bool} (hc : a.eval c = .bool b) : (execOp a.eval o).run P w = .ok (.value (if b then a.eval x else a.eval y)) w := by
  simp [execOp, ho, hc, asBool, Sem.run, pure, bind, Sem.bind]
theorem op_pick {c x y : Operand} (ho : o.op = .pick c x y) (h : Rep g0 w0 g w σ a N) (hd : ∀ t, o.dst = some t → t < N) (hr : (opM I ops o).run σ = some (true, ws)) (hn : ∀ g' a' w', Rep g0 w0 g' w' (σ.puts ws) a' N → next a' w') : o.wp P a w next Q := by
  unfold opM at hr
  rw [ho] at hr
  obtain ⟨v, hr, hv, -, -⟩ := opd_sound h hr
  have fin : ∀ (z : Operand) (b : Bool), a.eval c = .bool b → (if b then a.eval x else a.eval y) = a.eval z → (opd z fun v => match v with | .tup _ => .fail | v => .ret (true, dstW o.dst v.view)).run σ = some (true, ws) → o.wp P a w next Q := by
    intro z b hc hz hr
    obtain ⟨u, hr, hu, -, -⟩ := opd_sound h hr
    have hrun := pick_run (P := P) (w := w) ho hc
    rw [hz] at hrun
    cases u with
    | tup vs => cases hr
    | _ => exact op_plain h hd hrun (fun t => hu.viewed (by intro vs e; cases e)) hr hn
  split at hr
  · cases hv' : a.eval c <;> rw [hv'] at hv <;> cases hv
    exact fin x true hv' rfl hr
  · cases hv' : a.eval c <;> rw [hv'] at hv <;> cases hv
    exact fin y false hv' rfl hr
  · cases hr

theorem op_extract {x : Operand} {ix : Nat} (ho : o.op = .extract x ix) (h : Rep g0 w0 g w σ a N) (hd : ∀ t, o.dst = some t → t < N) (hr : (opM I ops o).run σ = some (true, ws)) (hn : ∀ g' a' w', Rep g0 w0 g' w' (σ.puts ws) a' N → next a' w') : o.wp P a w next Q := by
  unfold opM at hr
  rw [ho] at hr
  cases x with
  | tmp s =>
    simp only [M.run] at hr
    cases hpt : σ.part s ix with
    | none => rw [hpt] at hr; cases hr
    | some u =>
      rw [hpt] at hr
      obtain ⟨vs, hs, hi⟩ := St.part_some hpt
      obtain ⟨cc, hcc, hv⟩ := h.env s _ hs
      have hc : a.eval (.tmp s) = cc := by simp only [Act.eval, Array.getD_eq_getD_getElem?, hcc, Option.getD_some]
      cases hv with
      | tup _ _ cs hl hti hcs =>
        obtain ⟨c, hci⟩ : ∃ c, cs[ix]? = some c := by
          obtain ⟨hlt, _⟩ := List.getElem?_eq_some_iff.1 hi
          exact ⟨_, Array.getElem?_eq_getElem (by omega)⟩
        have hu := hcs ix u c hi hci
        have hrun : (execOp a.eval o).run P w = .ok (.value c) w := by
          simp [execOp, ho, hc, Instr.extract, hci, Sem.run, pure, bind, Sem.bind]
        have hplain : u.plain → (M.ret (true, dstW o.dst u) : Step).run σ = some (true, ws) → o.wp P a w next Q := fun hp hr => op_plain h hd hrun (fun t => hu.slot hp) hr hn
        cases u with
        | own cs' xs =>
            simp only [M.run, Option.some.injEq, Prod.mk.injEq, true_and] at hr
            subst hr
            simp only [St.puts_cons, St.put_part hs] at hn
            refine up_value hrun ?_
            have h1 := h.viewTmp hs (v' := .tup (vs.set ix (.arr cs' xs))) (fun c0 hc0 => by
              cases hc0 with
              | tup _ _ cs0 hl0 ht0 hcs0 =>
                refine .tup _ _ _ (by simpa using hl0) (fun i v hv => ?_) (fun i v c hv hc => ?_)
                all_goals
                  rw [List.getElem?_set] at hv
                  by_cases e : ix = i
                  · subst e
                    simp only [if_true] at hv
                    split at hv
                    · cases hv
                      first | exact trivial | exact (hcs0 ix _ c hi hc).view
                    · cases hv
                  · simp only [e, if_false] at hv
                    first | exact ht0 i v hv | exact hcs0 i v c hv hc)
            cases hdd : o.dst with
            | none =>
              have := hn g (a.put o.dst c) w (by rw [hdd]; exact h1)
              rwa [hdd] at this
            | some d =>
              have h2 := (h1.giveSub (s := s) (i := ix) (s' := .tmp d) (by simp [Slot.root]) (fun u hu => by
                simp only [St.tmp_put, if_true, Option.some.injEq] at hu
                subst hu
                intro i v hv
                rw [List.getElem?_set] at hv
                by_cases e : ix = i
                · subst e
                  simp only [if_true] at hv
                  split at hv
                  · cases hv; exact .inl trivial
                  · cases hv
                · exact .inr (toSlot_ne (by simpa using fun e' => e e'.symm)))).putTmp (hd d hdd) (hu.own_ren _ (toSlot_self _ _))
              have := hn _ (a.put o.dst c) w (by rw [hdd]; exact h2)
              rwa [hdd] at this
        | uni cs' xs =>
          have move : ∀ (K : Act → World → Prop), (∀ g' a' w', Rep g0 w0 g' w' (σ.puts (.part s ix (.slen xs.length) :: dstW o.dst (.uni cs' xs))) a' N → K a' w') → K (a.put o.dst c) w := by
            intro K hn
            simp only [St.puts_cons, St.put_part hs] at hn
            have h1 := h.viewTmp hs (v' := .tup (vs.set ix (.slen xs.length))) (fun c0 hc0 => by
              cases hc0 with
              | tup _ _ cs0 hl0 ht0 hcs0 =>
                refine .tup _ _ _ (by simpa using hl0) (fun i v hv => ?_) (fun i v c hv hc => ?_)
                all_goals
                  rw [List.getElem?_set] at hv
                  by_cases e : ix = i
                  · subst e
                    simp only [if_true] at hv
                    split at hv
                    · cases hv
                      first | exact trivial | exact (hcs0 ix _ c hi hc).slen_of
                    · cases hv
                  · simp only [e, if_false] at hv
                    first | exact ht0 i v hv | exact hcs0 i v c hv hc)
            cases hdd : o.dst with
            | none =>
              have := hn g (a.put o.dst c) w (by rw [hdd]; exact h1)
              rwa [hdd] at this
            | some d =>
              have h2 := (h1.giveSub (s := s) (i := ix) (s' := .tmp d) (by simp [Slot.root]) (fun u hu => by
                simp only [St.tmp_put, if_true, Option.some.injEq] at hu
                subst hu
                intro i v hv
                rw [List.getElem?_set] at hv
                by_cases e : ix = i
                · subst e
                  simp only [if_true] at hv
                  split at hv
                  · cases hv; exact .inl trivial
                  · cases hv
                · exact .inr (toSlot_ne (by simpa using fun e' => e e'.symm)))).putTmp (hd d hdd) (hu.uni_ren _ (toSlot_self _ _))
              have := hn _ (a.put o.dst c) w (by rw [hdd]; exact h2)
              rwa [hdd] at this
          simp only at hr
          split at hr
          · simp only [M.run, Option.some.injEq, Prod.mk.injEq, true_and] at hr
            subst hr
            exact up_value hrun (move _ hn)
          · simp only [M.run, Option.some.injEq, Prod.mk.injEq, true_and] at hr
            subst hr
            refine up_value hrun (move _ fun g' a' w' h1 => ?_)
            cases hdd : o.dst with
            | none => rw [hdd] at h1 hn; exact hn g' a' w' h1
            | some d =>
              rw [hdd] at h1 hn
              obtain ⟨g2, h2⟩ := h1.raise (s := d) (cts := cs') (xs := xs) (by simp [dstW])
              exact hn g2 a' w' (h2.same (fun t => by simp only [dstW, St.puts_cons, St.puts_nil, St.tmp_put]; split <;> rfl) (fun k => by simp only [dstW, St.puts_cons, St.puts_nil, St.cells_put_tmp]))
        | tup vs' => exact (hti ix _ hi).elim
        | _ => exact hplain trivial hr
  | _ => cases hr
end
end Go.Proofs.YtacfehneeanlgaaDoor.Ev
namespace Go.Proofs.YtacfehneeanlgaaDoor.Ev
open Go
set_option linter.unusedVariables false
set_option linter.unusedSimpArgs false

theorem pureRun_run {s : Sem Value} {v : Value} (h : pureRun s = some v) : s = .pure v := by
  cases s <;> simp [pureRun] at h
  rw [h]
theorem run_then {P : Program} {α β : Type} {s : Sem α} {f : α → Sem β} {w w' : World} {v : α} (h : s.run P w = .ok v w') : (s.bind f).run P w = (f v).run P w' := by
  have := Sem.run_bind (P := P) (w := w) s f
  simp only [bind] at this
  rw [this, h]
  rfl
theorem und_run {P : Program} {t : TypeId} {d : TypeDesc} (h : P.underlying t = some d) (w : World) : (underlying t).run P w = .ok d w := run_underlying h w
theorem equal_bool {P : Program} {t : TypeId} (h : P.underlying t = some .bool) (p q : Bool) (w : World) : (Op.equal t (.bool p) (.bool q)).run P w = .ok (p == q) w := by
  show (Op.equalIn (9999 + 1) t (.bool p) (.bool q)).run P w = _
  rw [Op.equalIn]
  show ((underlying t).bind _).run P w = _
  rw [run_then (und_run h w)]
  rfl
theorem equal_nil {P : Program} {t e : TypeId} (h : P.underlying t = some (.slice e)) (p : Option Addr) (l c : Nat) (w : World) : (Op.equal t (.slice p l c) (.slice none 0 0)).run P w = .ok p.isNone w := by
  show (Op.equalIn (9999 + 1) t (.slice p l c) (.slice none 0 0)).run P w = _
  rw [Op.equalIn]
  show ((underlying t).bind _).run P w = _
  rw [run_then (und_run h w)]
  cases p <;> rfl
theorem pl_add (b o n : Nat) : (pl b o).add n = pl b (o + n) := by
  unfold Addr.add
  split
  · rename_i h; subst h; rfl
  · rfl

section
variable {P : Program} {I : Info} {g0 g : Gh} {w0 w : World} {σ : St} {a : Act} {N : Nat} {o : Oper} {ops : List Oper} {next : Act → World → Prop} {Q : Exit → Act → World → Prop} {ws : List W} {b : Bool}

theorem val_inv {s : Slot} {v c : Value} (h : VRel g w s (.val v) c) : c = v := by cases h; rfl
theorem ptr_inv {s : Slot} {k : Key} {off : Nat} {c : Value} (h : VRel g w s (.ptr k off) c) : ∃ b, g.at_ k = some b ∧ c = .pointer (some (pl b off)) := by cases h with | ptr _ _ _ b h _ => exact ⟨b, h, rfl⟩
theorem ptr_key {s : Slot} {k : Key} {off : Nat} {c : Value} (h : VRel g w s (.ptr k off) c) : k.isMp = false := by cases h; assumption
theorem mp_inv {s : Slot} {t : Nat} {c : Value} (h : VRel g w s (.mp t false) c) : ∃ b, g.at_ (.mp t) = some b ∧ c = .map (some b) := by
  generalize hv : V.mp t false = v at h
  cases h with
  | mp _ _ b h => cases hv; exact ⟨b, h, rfl⟩
  | _ => cases hv
theorem it_inv {s : Slot} {t : Nat} {c : Value} (h : VRel g w s (.mp t true) c) : ∃ b, g.at_ (.mp t) = some b ∧ c = .pointer (some (pl b 0)) := by
  generalize hv : V.mp t true = v at h
  cases h with
  | mp _ _ b h => cases hv; exact ⟨b, h, rfl⟩
  | _ => cases hv

theorem guardless {op : BinOp} {t : TypeId} {x y : Operand} {u v : Value} (h1 : u ≠ .nilIface) (h2 : ∀ cs, u ≠ .agg cs) (k : Unit → Sem Value) : ((eqGuard op t x y u v).bind k).run P w = (k ()).run P w := by
  unfold eqGuard
  cases op <;> first | rfl | (cases u <;> cases v <;> first | rfl | exact absurd rfl h1 | exact absurd rfl (h2 _))
theorem bin_run {t yt : TypeId} {op : BinOp} {x y : Operand} (ho : o.op = .binOp op t x y yt) {v : Value} (hok : InfoOk P I) (hb : binV (I.und t) op (a.eval x) (a.eval y) = some (true, v)) : (execOp a.eval o).run P w = .ok (.value v) w := by
  have hrun : (execOp a.eval o) = ((eqGuard op t x y (a.eval x) (a.eval y)).bind fun _ => binOp op t (a.eval x) (a.eval y)).bind fun v => .pure (.value v) := by
    simp only [execOp, ho]; rfl
  rw [hrun]
  have key : ((eqGuard op t x y (a.eval x) (a.eval y)).bind fun _ => binOp op t (a.eval x) (a.eval y)).run P w = .ok v w → (((eqGuard op t x y (a.eval x) (a.eval y)).bind fun _ => binOp op t (a.eval x) (a.eval y)).bind fun v => Sem.pure (Next.value v)).run P w = .ok (.value v) w := by
    intro h
    rw [run_then h]
    rfl
  apply key
  clear key hrun
  generalize a.eval x = u at hb ⊢
  generalize a.eval y = v' at hb ⊢
  cases u with
  | int k m =>
    rw [guardless (by simp) (by simp)]
    cases v' with
    | int k' n =>
      cases op <;> simp only [binV] at hb
      case quo | rem =>
        split at hb
        · rename_i e; subst e
          simp only [Option.some.injEq, Prod.mk.injEq, decide_eq_true_eq] at hb
          obtain ⟨h0, rfl⟩ := hb
          simp [binOp, Op.intDiv, h0, Sem.run, pure]
        · cases hb
      case shl | shr =>
        simp only [Option.some.injEq, Prod.mk.injEq, decide_eq_true_eq] at hb
        obtain ⟨h0, rfl⟩ := hb
        simp [binOp, Op.shift, show ¬ n < 0 by omega, Sem.run, pure]
      all_goals
        split at hb
        · rename_i e; subst e
          simp only [Option.map_eq_some_iff, Prod.mk.injEq, true_and, exists_eq_right] at hb
          have := pureRun_run hb
          simp [binOp, this, Sem.run]
        · cases hb
    | _ => simp [binV] at hb
  | string s =>
    rw [guardless (by simp) (by simp)]
    cases v' with
    | string t' =>
      cases op <;> simp only [binV] at hb
      case add =>
        simp only [Option.some.injEq, Prod.mk.injEq, decide_eq_true_eq] at hb
        obtain ⟨h0, rfl⟩ := hb
        have hm : IntKind.i64.max = 9223372036854775807 := rfl
        have : ¬ (((s.size + t'.size : Nat) : Int) > IntKind.i64.max) := by rw [hm]; omega
        show (Op.stringOp .add s t').run P w = _
        unfold Op.stringOp
        simp only [if_neg this]
        rfl
      all_goals
        simp only [Option.map_eq_some_iff, Prod.mk.injEq, true_and, exists_eq_right] at hb
        have := pureRun_run hb
        simp [binOp, this, Sem.run]
    | _ => simp [binV] at hb
  | bool p =>
    rw [guardless (by simp) (by simp)]
    cases v' with
    | bool q =>
      cases hu : I.und t with
      | none => rw [hu] at hb; cases op <;> simp [binV] at hb
      | some d =>
        rw [hu] at hb
        have hd := hok.und hu
        cases d <;> cases op <;> simp [binV] at hb
        all_goals
          subst hb
          show ((Op.equal t (.bool p) (.bool q)).bind _).run P w = _
          rw [run_then (equal_bool hd p q w)]
          rfl
    | _ => simp [binV] at hb
  | slice p l c =>
    rw [guardless (by simp) (by simp)]
    cases v' with
    | slice p' l' c' =>
      cases p <;> cases l <;> cases c <;> cases p' <;> cases l' <;> cases c' <;> try (simp [binV] at hb; done)
      cases hu : I.und t with
      | none => rw [hu] at hb; cases op <;> simp [binV] at hb
      | some d =>
        rw [hu] at hb
        have hd := hok.und hu
        cases d <;> cases op <;> simp [binV] at hb
        all_goals
          subst hb
          show ((Op.equal t (.slice none 0 0) (.slice none 0 0)).bind _).run P w = _
          rw [run_then (equal_nil hd none 0 0 w)]
          rfl
    | _ => simp [binV] at hb
  | _ => simp [binV] at hb
theorem nil_run {t yt : TypeId} {op : BinOp} {x y : Operand} (ho : o.op = .binOp op t x y yt) {v : Value} {q : Addr} {n l c : Nat} (hok : InfoOk P I) (hx : a.eval x = .slice (some q) l c) (hy : a.eval y = .slice none 0 0) (hb : nilCmp (I.und t) op n = some (true, v)) : (execOp a.eval o).run P w = .ok (.value v) w := by
  have hrun : (execOp a.eval o) = ((eqGuard op t x y (a.eval x) (a.eval y)).bind fun _ => binOp op t (a.eval x) (a.eval y)).bind fun v => .pure (.value v) := by
    simp only [execOp, ho]; rfl
  rw [hrun]
  have key : ((eqGuard op t x y (a.eval x) (a.eval y)).bind fun _ => binOp op t (a.eval x) (a.eval y)).run P w = .ok v w → (((eqGuard op t x y (a.eval x) (a.eval y)).bind fun _ => binOp op t (a.eval x) (a.eval y)).bind fun v => Sem.pure (Next.value v)).run P w = .ok (.value v) w := by
    intro h
    rw [run_then h]
    rfl
  apply key
  rw [guardless (by rw [hx]; simp) (by rw [hx]; simp), hx, hy]
  cases hu : I.und t with
  | none => rw [hu] at hb; cases op <;> simp [nilCmp] at hb
  | some d =>
    rw [hu] at hb
    have hd := hok.und hu
    cases d <;> cases op <;> simp [nilCmp] at hb
    all_goals
      obtain ⟨-, rfl⟩ := hb
      show ((Op.equal t (.slice (some q) l c) (.slice none 0 0)).bind _).run P w = _
      rw [run_then (equal_nil hd (some q) l c w)]
      rfl

theorem isAgg_run {t : TypeId} (hok : InfoOk P I) {b : Bool} (h : isAggT I t = some b) (w : World) : (isAgg t).run P w = .ok b w ∧ ∃ d, P.underlying t = some d ∧ d.isRow = b := by
  unfold isAggT at h
  cases hu : I.und t with
  | none => rw [hu] at h; cases h
  | some d =>
    rw [hu] at h
    have h1 := hok.und hu
    refine ⟨?_, d, h1, ?_⟩
    · simp only [isAgg, Sem.run_bind, und_run h1, Result.andThen_ok]
      cases d <;> simp_all
    · cases d <;> simp_all [TypeDesc.isRow]
theorem eq1_run (hok : InfoOk P I) {d : Nat} {t : TypeId} {x y : Value} {q : Bool} (h : eq1 (I.und t) x y = some q) : (Op.equalIn (d + 1) t x y).run P w = .ok q w := by
  unfold eq1 at h
  split at h
  · rename_i k' k m k2 n hu
    split at h
    · rename_i e; subst e; cases h; exact run_equalIn_int w d t k k' m n (hok.und hu)
    · cases h
  · rename_i hu; cases h
    rw [run_equalIn_string w d t _ _ (hok.und hu), beq_toListBytes]
  · rename_i hu; cases h; exact run_equalIn_bool w d t _ _ (hok.und hu)
  · cases h
theorem eqFs_run (hok : InfoOk P I) {us vs : List V} {xs ys : Array Value} (hl1 : us.length = xs.size) (hl2 : vs.length = ys.size) (h1 : ∀ (i : Nat) (v : V) (c : Value), us[i]? = some v → xs[i]? = some c → VRel g w .none v c) (h2 : ∀ (i : Nat) (v : V) (c : Value), vs[i]? = some v → ys[i]? = some c → VRel g w .none v c) :
    ∀ (fs : List Field) (r : Bool), eqFs I us vs fs = some r → (Op.eqFields 9999 xs ys fs).run P w = .ok r w
  | [], r, h => by cases h; simp [Op.eqFields]
  | f :: fs, r, h => by
    unfold eqFs at h
    split at h
    · rename_i x y r' hn hag hx hy hrec
      simp only [Option.map_eq_some_iff] at h
      obtain ⟨q, hq, rfl⟩ := h
      have ih := eqFs_run hok hl1 hl2 h1 h2 fs r' hrec
      have hne : f.name ≠ "_" := by simpa using hn
      have hx' : xs[f.offset]? = some x := by
        have hlt := (List.getElem?_eq_some_iff.1 hx).1
        have hc : xs[f.offset]? = some (xs[f.offset]'(by omega)) := Array.getElem?_eq_getElem _
        rw [hc, val_inv (h1 _ _ _ hx hc)]
      have hy' : ys[f.offset]? = some y := by
        have hlt := (List.getElem?_eq_some_iff.1 hy).1
        have hc : ys[f.offset]? = some (ys[f.offset]'(by omega)) := Array.getElem?_eq_getElem _
        rw [hc, val_inv (h2 _ _ _ hy hc)]
      have hq' := eq1_run (w := w) hok (d := 9998) hq
      have p1 : (part f.type xs f.offset).run P w = .ok x w := by simp [part, (isAgg_run hok hag w).1, hx']
      have p2 : (part f.type ys f.offset).run P w = .ok y w := by simp [part, (isAgg_run hok hag w).1, hy']
      simp only [Op.eqFields, ne_eq, hne, not_false_eq_true, if_true, Sem.run_bind, p1, p2, Result.andThen_ok, hq']
      cases q
      · simp
      · simpa using ih
    · cases h
theorem struct_run {t yt : TypeId} {op : BinOp} {x y : Operand} (ho : o.op = .binOp op t x y yt) (hok : InfoOk P I) {us vs : List V} {fs : Array Field} {r : Bool} (hu : I.und t = some (.struct fs)) (hq : I.eqOk t = true) (hr : eqFs I us vs fs.toList = some r)
    {xs ys : Array Value} (hx : a.eval x = .agg xs) (hy : a.eval y = .agg ys) (hl1 : us.length = xs.size) (hl2 : vs.length = ys.size) (h1 : ∀ (i : Nat) (v : V) (c : Value), us[i]? = some v → xs[i]? = some c → VRel g w .none v c) (h2 : ∀ (i : Nat) (v : V) (c : Value), vs[i]? = some v → ys[i]? = some c → VRel g w .none v c) :
    (op = .eql → (execOp a.eval o).run P w = .ok (.value (.bool r)) w) ∧ (op = .neq → (execOp a.eval o).run P w = .ok (.value (.bool (!r))) w) := by
  obtain ⟨e1, e2⟩ := hok.eqOk hq
  have hrun : (execOp a.eval o) = ((eqGuard op t x y (a.eval x) (a.eval y)).bind fun _ => binOp op t (a.eval x) (a.eval y)).bind fun v => .pure (.value v) := by
    simp only [execOp, ho]; rfl
  have hud := hok.und hu
  have hfs : P.fieldsOf t = fs := by simp [Program.fieldsOf, hud]
  have hee : (Op.equalIn (9999 + 1) t (.agg xs) (.agg ys)).run P w = .ok r w := by
    rw [run_equalIn_struct w 9999 t xs ys (by rw [hfs]; exact hud) e1, hfs]
    exact eqFs_run hok hl1 hl2 h1 h2 _ _ hr
  constructor
  · rintro rfl
    rw [hrun, hx, hy]
    refine run_then (v := Value.bool r) ?_ |>.trans rfl
    rw [run_then (run_eqGuard_agg w .eql t x y xs ys e2), run_eql_struct, hee]
    rfl
  · rintro rfl
    rw [hrun, hx, hy]
    refine run_then (v := Value.bool (!r)) ?_ |>.trans rfl
    rw [run_then (run_eqGuard_agg w .neq t x y xs ys e2), run_neq_struct, hee]
    rfl
theorem op_bin {t yt : TypeId} {op : BinOp} {x y : Operand} (ho : o.op = .binOp op t x y yt) (hok : InfoOk P I) (h : Rep g0 w0 g w σ a N) (hd : ∀ t, o.dst = some t → t < N) (hr : (opM I ops o).run σ = some (true, ws)) (hn : ∀ g' a' w', Rep g0 w0 g' w' (σ.puts ws) a' N → next a' w') : o.wp P a w next Q := by
  unfold opM at hr
  rw [ho] at hr
  obtain ⟨u, hr, hu, -, -⟩ := opd_sound h hr
  obtain ⟨v, hr, hv, -, -⟩ := opd_sound h hr
  have slice : ∀ (cs : List CT) (xs : List (List D)), DRel g.stable w (.arr cs) (.arr xs) (a.eval x) → a.eval y = .slice none 0 0 → (match nilCmp (I.und t) op xs.length with | some (ok, v) => (M.ret (ok, dstW o.dst (.val v)) : Step) | none => .fail).run σ = some (true, ws) → o.wp P a w next Q := by
    intro cs xs hx hy hr
    split at hr
    · rename_i ok v hb
      obtain ⟨hok', hr⟩ := ret_ok hr
      subst hok'
      have hpos : 0 < xs.length := by
        unfold nilCmp at hb
        split at hb <;> first | (cases hb; done) | (simp only [Option.some.injEq, Prod.mk.injEq, decide_eq_true_eq] at hb; exact hb.1)
      generalize hc : a.eval x = c at hx
      generalize hd' : D.arr xs = d at hx
      cases hx with
      | nil _ _ p hn' => subst hd'; have : xs = [] := hn'; subst this; simp at hpos
      | arr _ _ b q cap f _ _ _ _ => exact op_plain h hd (nil_run ho hok hc hy hb) (fun _ => .val _ _) hr hn
    · cases hr
  split at hr
  · split at hr
    · rename_i ok v hb
      obtain ⟨hok', hr⟩ := ret_ok hr
      subst hok'
      exact op_plain h hd (nil_run ho hok (val_inv hu) (val_inv hv) hb) (fun _ => .val _ _) hr hn
    · cases hr
  · have e1 := val_inv hu
    have e2 := val_inv hv
    subst e1
    subst e2
    split at hr
    · rename_i ok v hb
      obtain ⟨hok', hr⟩ := ret_ok hr
      subst hok'
      exact op_plain h hd (bin_run ho hok hb) (fun _ => .val _ _) hr hn
    · cases hr
  · cases hu; exact slice _ _ (by assumption) (val_inv hv) hr
  · cases hu; exact slice _ _ (by assumption) (val_inv hv) hr
  · rename_i us vs
    generalize hcx : a.eval x = cx at hu
    generalize hcy : a.eval y = cy at hv
    cases hu with
    | agg _ _ xs hl1 _ h1 =>
    cases hv with
    | agg _ _ ys hl2 _ h2 =>
    split at hr
    · rename_i fs hut hq _
      split at hr
      · rename_i r he
        exact op_plain h hd ((struct_run ho hok hut hq he hcx hcy hl1 hl2 h1 h2).1 rfl) (fun _ => .val _ _) hr hn
      · cases hr
    · rename_i fs hut hq _
      split at hr
      · rename_i r he
        exact op_plain h hd ((struct_run ho hok hut hq he hcx hcy hl1 hl2 h1 h2).2 rfl) (fun _ => .val _ _) hr hn
      · cases hr
    · cases hr
  · cases hr
theorem op_un {t : TypeId} {op : UnOp} {x : Operand} (ho : o.op = .unOp op t x) (h : Rep g0 w0 g w σ a N) (hd : ∀ t, o.dst = some t → t < N) (hr : (opM I ops o).run σ = some (true, ws)) (hn : ∀ g' a' w', Rep g0 w0 g' w' (σ.puts ws) a' N → next a' w') : o.wp P a w next Q := by
  unfold opM at hr
  rw [ho] at hr
  obtain ⟨u, hr, hu, -, -⟩ := opd_sound h hr
  cases u <;> try (cases hr; done)
  have e1 := val_inv hu
  subst e1
  simp only at hr
  split at hr
  · rename_i v hb
    have := pureRun_run hb
    exact op_plain h hd (by simp [execOp, ho, this, Sem.run, pure, bind, Sem.bind]) (fun _ => .val _ _) hr hn
  · cases hr
theorem eptr_inv {s : Slot} {cs : List CT} {xs : List (List D)} {i j : Nat} {c : Value} (h : VRel g w s (.eptr cs xs i j) c) : ∃ b o cap, i < xs.length ∧ DRel g.stable w (.arr cs) (.arr xs) (.slice (some (pl b o)) xs.length cap) ∧ c = .pointer (some (pl b (o + i * cs.length + j))) := by
  cases h with | eptr _ _ _ _ _ b o cap hi h => exact ⟨b, o, cap, hi, h, rfl⟩
theorem mptr_inv {s : Slot} {t : Nat} {cs : List CT} {i j : Nat} {c : Value} (h : VRel g w s (.mptr t cs i j) c) : ∃ b n, g.at_ (.mp t) = some b ∧ g.at_ (.mn t) = some n ∧ i < mnN n ∧ c = .pointer (some (pl b (i * cs.length + j))) := by
  cases h with | mptr _ _ _ _ _ b n h hn hi => exact ⟨b, n, h, hn, hi, rfl⟩
theorem ms_inv {s : Slot} {t : Nat} {cs : List CT} {off len : Nat} {c : Value} (h : VRel g w s (.ms t cs off len) c) : ∃ b cap n, g.at_ (.mp t) = some b ∧ g.at_ (.mn t) = some n ∧ off + len ≤ mnN n ∧ len ≤ cap ∧ (cap ≤ maxLen ∧ off + cap = mnC n) ∧ c = .slice (some (pl b (off * cs.length))) len cap := by
  cases h with | ms _ _ _ _ _ b cap n h hn ho hl hm => exact ⟨b, cap, n, h, hn, ho, hl, hm, rfl⟩
theorem sptr_inv {s : Slot} {n i : Nat} {rows : List (List V)} {c : Value} (h : VRel g w s (.sptr n rows i) c) : ∃ b, i < rows.length ∧ VRel g w .none (.sarr n rows) (.slice (some (pl b 0)) rows.length rows.length) ∧ c = .pointer (some (pl b (i * n))) := by
  cases h with | sptr _ _ _ _ b hi h => exact ⟨b, hi, h, rfl⟩
theorem sarr_inv {s : Slot} {n : Nat} {rows : List (List V)} {c : Value} (h : VRel g w s (.sarr n rows) c) : ∃ (b : Nat) (f : Nat → Nat → Value), c = .slice (some (pl b 0)) rows.length rows.length ∧ rows.length ≤ maxLen ∧ (∀ (i : Nat) (r : List V), rows[i]? = some r → r.length = n) ∧
    (∀ (i j : Nat) (r : List V) (v : V), rows[i]? = some r → r[j]? = some v → v.cellP ∧ g.stable b (i * n + j) ∧ w.cell? (pl b (i * n + j)) = some (f i j) ∧ VRel g w .none v (f i j)) := by
  cases h with | sarr _ _ _ b f hl hm hf hc h => exact ⟨b, f, rfl, hm, hl, fun i j r v hr hv => ⟨hf i j r v hr hv, (hc i j r v hr hv).1, (hc i j r v hr hv).2, h i j r v hr hv⟩⟩
theorem op_nilCheck {x : Operand} (ho : o.op = .nilCheck x) (h : Rep g0 w0 g w σ a N) (hd : ∀ t, o.dst = some t → t < N) (hr : (opM I ops o).run σ = some (true, ws)) (hn : ∀ g' a' w', Rep g0 w0 g' w' (σ.puts ws) a' N → next a' w') : o.wp P a w next Q := by
  unfold opM at hr
  rw [ho] at hr
  obtain ⟨u, hr, hu, -, -⟩ := opd_sound h hr
  cases u with
  | ptr k off =>
    obtain ⟨b, hb, e⟩ := ptr_inv hu
    exact op_plain (v := .ptr k off) (c := a.eval x) h hd (by simp [execOp, ho, e, Sem.run, pure]) (fun _ => hu.slot trivial) hr hn
  | eptr cs xs i j =>
    obtain ⟨b, o', cap, hi, hd', e⟩ := eptr_inv hu
    exact op_plain (v := .eptr cs xs i j) (c := a.eval x) h hd (by simp [execOp, ho, e, Sem.run, pure]) (fun _ => hu.slot trivial) hr hn
  | mptr t cs i j =>
    obtain ⟨b, n, hb, hnn, hi, e⟩ := mptr_inv hu
    exact op_plain (v := .mptr t cs i j) (c := a.eval x) h hd (by simp [execOp, ho, e, Sem.run, pure]) (fun _ => hu.slot trivial) hr hn
  | sptr n rows i =>
    obtain ⟨b, hi, hs, e⟩ := sptr_inv hu
    exact op_plain (v := .sptr n rows i) (c := a.eval x) h hd (by simp [execOp, ho, e, Sem.run, pure]) (fun _ => hu.slot trivial) hr hn
  | _ => cases hr
end
end Go.Proofs.YtacfehneeanlgaaDoor.Ev
