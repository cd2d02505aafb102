/- What the evaluator's operations write stands for what the model's operations leave: boxes. -/
import Derived.Test.YtkcopbnaleiocaaOp5
namespace Go.Proofs.Ytkcopbnaleiocaa.Ev
open Go
set_option linter.unusedVariables false
set_option linter.unusedSimpArgs false
section
variable {P : Program} {I : Info} {g0 g : Gh} {w0 w : World} {σ : St} {a : Act} {N : Nat} {o : Oper} {ops : List Oper} {next : Act → World → Prop} {Q : Exit → Act → World → Prop} {ws : List W} {b : Bool}

/-! ### Worlds with other draws, new blocks -/
theorem Rep.sameHeap (h : Rep g0 w0 g w σ a N) {w' : World} (hh : w'.heap = w.heap) (ho : w'.os = w.os) (ht : w'.tape = w.tape) (hu : w'.output = w.output) : Rep g0 w0 g w' σ a N := by
  have hc : ∀ b q, w'.cell? (pl b q) = w.cell? (pl b q) := fun b q => by simp [World.cell?, hh]
  have hst : ∀ b q c, g.stable b q → w.cell? (pl b q) = some c → g.stable b q ∧ w'.cell? (pl b q) = some c := fun b q c h1 h2 => ⟨h1, by rw [hc]; exact h2⟩
  have mv : ∀ s v c, VRel g w s v c → VRel g w' s v c := fun s v c hv => h.mono_slot hst (fun _ _ h => h) hv (fun r b l _ h1 => ⟨h1, by rw [hh]⟩)
  refine ⟨fun t v hv => ?_, fun k cs hk => ?_, fun b hb => h.fresh b (by rw [← hh]; exact hb), h.base, ?_, h.defers, h.size, h.live, h.nones⟩
  · obtain ⟨c, h1, h2⟩ := h.env t v hv
    exact ⟨c, h1, mv _ _ _ h2⟩
  · exact (h.box k cs hk).mono hst (fun b h1 h2 => ⟨h1, h2, by rw [hh]⟩) (fun _ h => h) (fun i v c _ _ hv => mv _ _ _ hv)
  · refine h.evol.trans h.base ⟨ho, ht, hu, by rw [hh]; exact Nat.le_refl _, fun b _ h1 => ⟨by rw [hh], h1⟩, fun b l h1 => ⟨by rw [hh], h1⟩, fun b s l h1 => ⟨fun q c _ hq => by rw [hc]; exact hq, .inr (.inr ⟨s, l, h1, Nat.le_refl _⟩)⟩, fun _ _ h => h, fun _ _ h => h⟩
theorem heap_push_old (w : World) (x : Obj) {b : Nat} (hb : b < w.heap.size) : (w.alloc x).heap[b]? = w.heap[b]? := by
  simp only [World.alloc]
  rw [Array.getElem?_push_lt hb, Array.getElem?_eq_getElem hb]
theorem heap_push_new (w : World) (x : Obj) : (w.alloc x).heap[w.heap.size]? = some x := by simp only [World.alloc, Array.getElem?_push_size]
theorem cell_push (w : World) (x : Obj) {b q : Nat} {c : Value} (hc : w.cell? (pl b q) = some c) : (w.alloc x).cell? (pl b q) = some c := by
  rw [cell_of_heap (heap_push_old w x (cell_lt hc))]; exact hc
theorem stable_push (h : Rep g0 w0 g w σ a N) (x : Obj) (p : Perm) : ∀ b q c, g.stable b q → w.cell? (pl b q) = some c → (g.set w.heap.size p).stable b q ∧ (w.alloc x).cell? (pl b q) = some c := by
  intro b q c h1 h2
  refine ⟨?_, cell_push w x h2⟩
  have := cell_lt h2
  simp only [Gh.stable, Gh.set, show b ≠ w.heap.size by omega, if_false]
  exact h1
/-- Values stay where a block is made. -/
theorem VRel.push (h : Rep g0 w0 g w σ a N) (x : Obj) (p : Perm) {s : Slot} {v : V} {c : Value} (hv : VRel g w s v c) : VRel (g.set w.heap.size p) (w.alloc x) s v c :=
  h.mono_slot (stable_push h x p) (fun _ _ h => h) hv (fun r b l _ ho => by
    have := own_lt h ho (by simp)
    exact ⟨by simp only [Gh.set, show b ≠ w.heap.size by omega, if_false]; exact ho, heap_push_old w x this⟩)
/-- A new block. -/
theorem Rep.newBlock (h : Rep g0 w0 g w σ a N) (x : Obj) (p : Perm) (hp : ∀ r l, p = .arr r l → ¬ Slot.under .none r) : Rep g0 w0 (g.set w.heap.size p) (w.alloc x) σ a N := by
  have set_ne : ∀ b, b < w.heap.size → (g.set w.heap.size p).own b = g.own b := fun b hb => by simp only [Gh.set, show b ≠ w.heap.size by omega, if_false]
  have hsz : (w.alloc x).heap.size = w.heap.size + 1 := by simp only [World.alloc, Array.size_push]
  refine ⟨fun t v hv => ?_, fun k cs hk => ?_, fun b hb => ?_, h.base, ?_, h.defers, h.size, h.live, fun b r l hu ho => ?_⟩
  · obtain ⟨c, h1, h2⟩ := h.env t v hv
    exact ⟨c, h1, h2.push h x p⟩
  · refine (h.box k cs hk).mono (stable_push h x p) (fun b h1 h2 => ?_) (fun _ h => h) (fun i v c _ _ hv => hv.push h x p)
    have hb := own_lt h h2 (by simp)
    exact ⟨h1, by rw [set_ne b hb]; exact h2, heap_push_old w x hb⟩
  · rw [hsz] at hb
    simp only [Gh.set, show b ≠ w.heap.size by omega, if_false]
    exact h.fresh b (by omega)
  · refine h.evol.trans h.base ⟨rfl, rfl, rfl, by rw [hsz]; omega, fun b hb ho => ⟨heap_push_old w x hb, by rw [set_ne b hb]; exact ho⟩, fun b l ho => ?_, fun b s l ho => ?_, fun b k ho => ?_, fun _ _ h => h⟩
    · have hb := own_lt h ho (by simp)
      exact ⟨heap_push_old w x hb, by rw [set_ne b hb]; exact ho⟩
    · have hb := own_lt h ho (by simp)
      exact ⟨fun q c _ hq => cell_push w x hq, .inr (.inr ⟨s, l, by rw [set_ne b hb]; exact ho, Nat.le_refl _⟩)⟩
    · have hb := own_lt h ho (by simp)
      rw [set_ne b hb]; exact ho
  · by_cases e : b = w.heap.size
    · subst e
      simp only [Gh.set, if_true] at ho
      exact hp r l ho hu
    · simp only [Gh.set, e, if_false] at ho
      exact h.nones b r l hu ho
theorem heap_lt {w : World} {b : Nat} {x : Obj} (h : w.heap[b]? = some x) : b < w.heap.size := by
  obtain ⟨h, _⟩ := Array.getElem?_eq_some_iff.1 h; exact h
/-- A box or a map is made. -/
theorem Rep.newKey (h : Rep g0 w0 g w σ a N) {k0 : Key} (hk0 : ∀ i, k0 ≠ .out i) (hk1 : k0.base = k0) (hf : σ.cells k0 = none) (cs : List V) (x : Obj) (f : Slot → Slot) (hfn : ∀ r, (f r).root = .none → r.root = .none)
    (hs : ∀ u v, σ.tmp u = some v → okFor f (.tmp u) v) (hb : ∀ k cs o v, σ.cells k = some cs → cs[o]? = some v → okFor f (.cell k o) v)
    (hnew : (∀ s v c, VRel (g.ren f) w s v c → VRel (((g.ren f).set w.heap.size (.box k0)).setAt k0 w.heap.size) (w.alloc x) s v c) → BoxRel (((g.ren f).set w.heap.size (.box k0)).setAt k0 w.heap.size) (w.alloc x) k0 cs) :
    Rep g0 w0 (((g.ren f).set w.heap.size (.box k0)).setAt k0 w.heap.size) (w.alloc x) (σ.put (.box k0 cs)) a N := by
  have hr := h.rename f hfn hs hb
  have h1 := hr.newBlock x (.box k0) (by simp)
  have hnone : (g.ren f).at_ k0 = none := by
    cases hat : (g.ren f).at_ k0 with
    | none => rfl
    | some b => obtain ⟨cs', hcs⟩ := hr.live _ _ hat; rw [hk1, hf] at hcs; cases hcs
  have hat : ∀ k b, ((g.ren f).set w.heap.size (.box k0)).at_ k = some b → (((g.ren f).set w.heap.size (.box k0)).setAt k0 w.heap.size).at_ k = some b := by
    intro k b hk
    have : k ≠ k0 := fun e => by subst e; rw [show ((g.ren f).set w.heap.size (.box k)).at_ k = (g.ren f).at_ k from rfl, hnone] at hk; cases hk
    simp only [Gh.setAt, this, if_false]
    exact hk
  have mv : ∀ s v c, VRel ((g.ren f).set w.heap.size (.box k0)) (w.alloc x) s v c → VRel (((g.ren f).set w.heap.size (.box k0)).setAt k0 w.heap.size) (w.alloc x) s v c :=
    fun s v c hv => h1.mono_slot (g' := ((g.ren f).set w.heap.size (.box k0)).setAt k0 w.heap.size) (w' := w.alloc x) (fun _ _ _ a b => ⟨a, b⟩) hat hv (fun _ _ _ _ ho => ⟨ho, rfl⟩)
  refine ⟨fun u v hv => ?_, fun k cs' hk => ?_, h1.fresh, h1.base, ?_, h1.defers, h1.size, fun k b hb => ?_, h1.nones⟩
  · obtain ⟨c, h2, h3⟩ := h1.env u v hv
    exact ⟨c, h2, mv _ _ _ h3⟩
  · rw [St.cells_put_box] at hk
    by_cases e' : k0 = k
    · subst e'
      simp only [if_true, Option.some.injEq] at hk
      subst hk
      exact hnew fun s v c hv => mv _ _ _ (hv.push hr _ _)
    · simp only [e', if_false] at hk
      exact (h1.box k cs' hk).mono (fun _ _ _ a b => ⟨a, b⟩) (fun b h1 h2 => ⟨hat _ _ h1, h2, rfl⟩) (fun n h => hat _ _ h) (fun i v c _ _ hv => mv _ _ _ hv)
  · have := h1.evol
    exact ⟨this.os, this.tape, this.output, this.size, this.free, this.other, this.arr, this.box, fun i b hb => by simp only [Gh.setAt]; rw [if_neg (fun e => hk0 i e.symm)]; exact this.outs i b hb⟩
  · rw [St.cells_put_box]
    by_cases e' : k0 = k.base
    · exact ⟨cs, by rw [if_pos e']⟩
    · simp only [e', if_false]
      refine hr.live k b ?_
      simp only [Gh.setAt, Gh.set] at hb
      rw [if_neg (fun e2 => e' (by rw [e2, hk1]))] at hb
      exact hb
/-- A box is made. -/
theorem Rep.newBox (h : Rep g0 w0 g w σ a N) {t : Nat} (hf : σ.cells (.loc t) = none) (cs : List V) (cur : Array Value) (e : TypeId) (hl : cur.size = cs.length) (hfl : ∀ (i : Nat) (v : V), cs[i]? = some v → v.cellP) (f : Slot → Slot) (hfn : ∀ r, (f r).root = .none → r.root = .none)
    (hs : ∀ u v, σ.tmp u = some v → okFor f (.tmp u) v) (hb : ∀ k cs o v, σ.cells k = some cs → cs[o]? = some v → okFor f (.cell k o) v) (hc : ∀ (i : Nat) (v : V) (c : Value), cs[i]? = some v → cur[i]? = some c → VRel (g.ren f) w (.cell (.loc t) i) v c) :
    Rep g0 w0 (((g.ren f).set w.heap.size (.box (.loc t))).setAt (.loc t) w.heap.size) (w.alloc (.cells cur e)) (σ.put (.box (.loc t) cs)) a N :=
  h.newKey (by simp) rfl hf cs (.cells cur e) f hfn hs hb fun mv => .ofCell rfl ⟨w.heap.size, cur, e, by simp [Gh.setAt], by simp [Gh.setAt, Gh.set], heap_push_new w _, hl, hfl, fun i v c hv hcc => mv _ _ _ (hc i v c hv hcc)⟩

/-! ### A cell of a box is written -/
theorem setCell_heap (w : World) (b q : Nat) (c : Value) (b' : Nat) : (w.setCell (pl b q) c).heap[b']? = if b = b' then (w.heap[b]?).map (fun | .cells cs e f => .cells (cs.setIfInBounds q c) e f | x => x) else w.heap[b']? := by
  simp only [World.setCell, Array.getElem?_modify]
  by_cases e : b = b'
  · subst e
    simp only [if_true]
    cases w.heap[b]? with
    | none => rfl
    | some x => cases x <;> rfl
  · simp only [e, if_false]
theorem VRel.setBox (h : Rep g0 w0 g w σ a N) {k : Key} {b q : Nat} (ho : g.own b = .box k) (c' : Value) {s : Slot} {v : V} {c : Value} (hv : VRel g w s v c) : VRel g (w.setCell (pl b q) c') s v c := by
  have hne : ∀ b', b' ≠ b → (w.setCell (pl b q) c').heap[b']? = w.heap[b']? := fun b' hb => by rw [setCell_heap, if_neg (fun e => hb e.symm)]
  refine h.mono_slot (fun b1 q1 c1 h1 h2 => ⟨h1, ?_⟩) (fun _ _ h => h) hv (fun r b1 l _ h1 => ⟨h1, hne b1 (fun e => by subst e; rw [ho] at h1; cases h1)⟩)
  rw [cell_of_heap (hne b1 (fun e => by subst e; simp only [Gh.stable, ho] at h1; exact h1.elim))]
  exact h2
theorem Rep.setCell (h : Rep g0 w0 g w σ a N) {k : Key} {off b : Nat} {cs : List V} {v : V} {c : Value} (hk : σ.cells k = some cs) (hat : g.at_ k = some b) (hoff : off < cs.length) (hfl : v.cellP) (hv : VRel g w (.cell k off) v c) (hkm : k.isMp = false) :
    Rep g0 w0 g (w.setCell (pl b off) c) (σ.put (.cell k off v)) a N := by
  obtain ⟨b', cur, e, h1, h2, h3, h4, h6, h5⟩ := (h.box k cs hk).cell hkm
  have : b' = b := Option.some.inj (h1.symm.trans hat)
  subst this
  have hne : ∀ b1, b1 ≠ b' → (w.setCell (pl b' off) c).heap[b1]? = w.heap[b1]? := fun b1 hb => by rw [setCell_heap, if_neg (fun e => hb e.symm)]
  have hself : (w.setCell (pl b' off) c).heap[b']? = some (.cells (cur.setIfInBounds off c) e (0, 0)) := by rw [setCell_heap, if_pos rfl, h3]; rfl
  have hsz : (w.setCell (pl b' off) c).heap.size = w.heap.size := by simp [World.setCell]
  refine ⟨fun t u hu => ?_, fun k' cs' hk' => ?_, fun b1 hb1 => h.fresh b1 (by rw [← hsz]; exact hb1), h.base, ?_, h.defers, h.size, fun k' b1 hb1 => ?_, h.nones⟩
  · rw [St.tmp_put_cell] at hu
    obtain ⟨c1, h7, h8⟩ := h.env t u hu
    exact ⟨c1, h7, h8.setBox h h2 c⟩
  · rw [St.cells_put_cell] at hk'
    by_cases ek : k = k'
    · subst ek
      simp only [if_true, hk, Option.map_some, Option.some.injEq] at hk'
      subst hk'
      refine .ofCell hkm ⟨b', _, e, h1, h2, hself, by simpa using h4, fun i u hu => ?_, fun i u c1 hu hc1 => ?_⟩
      · rw [List.getElem?_set] at hu
        by_cases ei : off = i
        · subst ei; simp [hoff] at hu; subst hu; exact hfl
        · simp only [ei, if_false] at hu; exact h6 i u hu
      · rw [List.getElem?_set] at hu
        by_cases ei : off = i
        · subst ei
          simp [hoff] at hu
          subst hu
          rw [Array.getElem?_setIfInBounds_self, if_pos (by omega)] at hc1
          cases hc1
          exact hv.setBox h h2 c
        · simp only [ei, if_false] at hu
          rw [Array.getElem?_setIfInBounds_ne ei] at hc1
          exact (h5 i u c1 hu hc1).setBox h h2 c
    · simp only [ek, if_false] at hk'
      refine (h.box k' cs' hk').mono (fun b1 q1 c1 s1 s2 => ⟨s1, ?_⟩) (fun b1 h7 h8 => ?_) (fun _ h => h) (fun i u c1 _ _ hu => hu.setBox h h2 c)
      · rw [cell_of_heap (hne b1 (fun e => by subst e; simp only [Gh.stable, h2] at s1; exact s1.elim))]
        exact s2
      · have : b1 ≠ b' := fun e => by subst e; rw [h2] at h8; cases h8; exact ek rfl
        exact ⟨h7, h8, hne b1 this⟩
  · refine h.evol.trans h.base ⟨rfl, rfl, rfl, by rw [hsz]; exact Nat.le_refl _, fun b1 _ ho => ⟨hne b1 (fun e => by subst e; rw [h2] at ho; cases ho), ho⟩, fun b1 l ho => ⟨hne b1 (fun e => by subst e; rw [h2] at ho; cases ho), ho⟩, fun b1 s l ho => ⟨fun q1 c1 _ hq => ?_, .inr (.inr ⟨s, l, ho, Nat.le_refl _⟩)⟩, fun _ _ h => h, fun _ _ h => h⟩
    rw [cell_of_heap (hne b1 (fun e => by subst e; rw [h2] at ho; cases ho))]
    exact hq
  · rw [St.cells_put_cell]
    by_cases ek : k = k'.base
    · exact ⟨_, by rw [if_pos ek, hk]; rfl⟩
    · rw [if_neg ek]; exact h.live k' b1 hb1
end
end Go.Proofs.Ytkcopbnaleiocaa.Ev
