/- Every operation that the evaluator carries out is carried out by the model, and what it writes stands for what the model's leaves. -/
import Derived.Test.YtkcopbnaleiocaaOpM
namespace Go.Proofs.Ytkcopbnaleiocaa.Ev
open Go
set_option linter.unusedVariables false
set_option linter.unusedSimpArgs false
section
variable {P : Program} {I : Info} {g0 g : Gh} {w0 w : World} {σ : St} {a : Act} {N : Nat} {o : Oper} {ops : List Oper} {next : Act → World → Prop} {Q : Exit → Act → World → Prop} {ws : List W} {b : Bool}

theorem opM_sound (hok : InfoOk P I) (h : Rep g0 w0 g w σ a N) (hf : fits N o = true) (hr : (opM I ops o).run σ = some (true, ws)) (hn : ∀ g' a' w', Rep g0 w0 g' w' (σ.puts ws) a' N → next a' w') : o.wp P a w next Q := by
  have hdst : (∀ t p x, o.op ≠ .store t p x) → (∀ t, o.dst = some t → t < N) := by
    intro hs t ht
    unfold fits at hf
    rw [ht] at hf
    split at hf <;> simp_all
  have hsome : (∀ t p x, o.op ≠ .store t p x) → (∀ f xs ts, o.op ≠ .call ⟨.value f, xs, ts⟩) → (∀ t m k x, o.op ≠ .insert t m k x) → (∀ t m k x, o.op ≠ .mapUpdate t m k x) → (∀ xs ts, o.op ≠ .call ⟨.builtin .copy, xs, ts⟩) → o.dst ≠ none := by
    intro hs hc hi hm hp hd
    unfold fits at hf
    rw [hd] at hf
    split at hf <;> first
      | (rename_i e; first | exact hs _ _ _ e | exact hi _ _ _ _ e | exact hm _ _ _ _ e | exact hc _ _ _ e | exact hp _ _ e)
      | (rename_i e _; first | exact hs _ _ _ e | exact hi _ _ _ _ e | exact hm _ _ _ _ e | exact hc _ _ _ e | exact hp _ _ e)
      | simp_all
  have hnone : ((∃ t p x, o.op = .store t p x) ∨ (∃ t m k x, o.op = .insert t m k x) ∨ ∃ t m k x, o.op = .mapUpdate t m k x) → o.dst = none := by
    intro hh
    cases hd : o.dst with
    | none => rfl
    | some d =>
      exfalso
      unfold fits at hf
      rw [hd] at hf
      rcases hh with ⟨_, _, _, e⟩ | ⟨_, _, _, _, e⟩ | ⟨_, _, _, _, e⟩ <;> rw [e] at hf <;> cases hf
  cases ho : o.op with
  | move x => exact op_move ho h (hdst (by simp [ho])) hr hn
  | assign x => exact op_assign ho h (hdst (by simp [ho])) hr hn
  | pick c x y => exact op_pick ho h (hdst (by simp [ho])) hr hn
  | alloc t => exact op_alloc ho hok h (hdst (by simp [ho])) hr hn
  | box t x => exact op_box ho hok h (hdst (by simp [ho])) hr hn
  | build t ps => exact op_build ho hok h (hdst (by simp [ho])) hr hn
  | buildSlice t n ps => exact op_buildSlice ho hok h (hdst (by simp [ho])) (hsome (by simp [ho]) (by simp [ho]) (by simp [ho]) (by simp [ho]) (by simp [ho])) hr hn
  | load t x => exact op_load ho hok h (hdst (by simp [ho])) hr hn
  | store t p x =>
    exact op_store ho (hnone (.inl ⟨_, _, _, ho⟩)) hok h hr hn
  | nilCheck x => exact op_nilCheck ho h (hdst (by simp [ho])) hr hn
  | binOp op t x y yt => exact op_bin ho hok h (hdst (by simp [ho])) hr hn
  | unOp op t x => exact op_un ho h (hdst (by simp [ho])) hr hn
  | convert s t x => exact op_convert ho hok h (hdst (by simp [ho])) hr hn
  | slice t x lo hi mx => exact op_slice ho hok h (hdst (by simp [ho])) hr hn
  | fieldAddr t x f => exact op_fieldAddr ho hok h (hdst (by simp [ho])) hr hn
  | field t x f => exact op_field ho hok h (hdst (by simp [ho])) hr hn
  | indexAddr t x i => exact op_indexAddr ho hok h (hdst (by simp [ho])) hr hn
  | index t x i => exact op_index ho hok h (hdst (by simp [ho])) hr hn
  | range t x => exact op_range ho hok h (hdst (by simp [ho])) hr hn
  | next x s => exact op_next ho hok h (hdst (by simp [ho])) hr hn
  | makeMap t r => exact op_makeMap ho hok h (hdst (by simp [ho])) hr hn
  | insert t m k x => exact op_upd (.inl ho) (hnone (.inr (.inl ⟨_, _, _, _, ho⟩))) hok h hr hn
  | mapUpdate t m k x => exact op_upd (.inr ho) (hnone (.inr (.inr ⟨_, _, _, _, ho⟩))) hok h hr hn
  | lookup t m k ok => exact op_lookup ho hok h (hdst (by simp [ho])) hr hn
  | makeSlice t n c => exact op_makeSlice ho hok h (hdst (by simp [ho])) (hsome (by simp [ho]) (by simp [ho]) (by simp [ho]) (by simp [ho]) (by simp [ho])) hr hn
  | extract x i => exact op_extract ho h (hdst (by simp [ho])) hr hn
  | call c =>
    obtain ⟨cal, args, ats⟩ := c
    cases cal with
    | builtin bt =>
      cases bt with
      | len => exact op_len ho hok h (hdst (by simp [ho])) hr hn
      | append => exact op_append ho hok h (hdst (by simp [ho])) (hsome (by simp [ho]) (by simp [ho]) (by simp [ho]) (by simp [ho]) (by simp [ho])) hr hn
      | min => exact op_minmax (.inl rfl) ho h (hdst (by simp [ho])) hr hn
      | max => exact op_minmax (.inr rfl) ho h (hdst (by simp [ho])) hr hn
      | copy => exact op_copy ho hok h (hdst (by simp [ho])) hr hn
      | _ => unfold opM at hr; rw [ho] at hr; cases hr
    | _ => unfold opM at hr; rw [ho] at hr; cases hr
  | _ => unfold opM at hr; rw [ho] at hr; cases hr
end

/-! ### What is read decides what is written -/
def St.at_ (σ : St) : Loc → Option V × Option (List V)
  | .tmp t => (σ.tmp t, none)
  | .cell k (some o) => (σ.cell k o, none)
  | .cell k none => (none, σ.cells k)
  | .part t i => (σ.part t i, none)
theorem M.run_congr {α : Type} {σ τ : St} (m : M α) (h : ∀ l ∈ m.reads σ, σ.at_ l = τ.at_ l) : m.run τ = m.run σ ∧ m.reads τ = m.reads σ := by
  induction m with
  | ret => exact ⟨rfl, rfl⟩
  | fail => exact ⟨rfl, rfl⟩
  | tmp t k ih =>
    simp only [M.reads, List.mem_cons] at h
    have h1 : σ.tmp t = τ.tmp t := by have := h _ (.inl rfl); simpa [St.at_] using this
    simp only [M.run, M.reads, ← h1]
    cases hv : σ.tmp t with
    | none => exact ⟨rfl, rfl⟩
    | some v =>
      obtain ⟨e1, e2⟩ := ih v (fun l hl => h l (.inr (by rw [hv]; exact hl)))
      exact ⟨e1, by simp only [e2]⟩
  | cell b o k ih =>
    simp only [M.reads, List.mem_cons] at h
    have h1 : σ.cell b o = τ.cell b o := by have := h _ (.inl rfl); simpa [St.at_] using this
    simp only [M.run, M.reads, ← h1]
    cases hv : σ.cell b o with
    | none => exact ⟨rfl, rfl⟩
    | some v =>
      obtain ⟨e1, e2⟩ := ih v (fun l hl => h l (.inr (by rw [hv]; exact hl)))
      exact ⟨e1, by simp only [e2]⟩
  | cells b k ih =>
    simp only [M.reads, List.mem_cons] at h
    have h1 : σ.cells b = τ.cells b := by have := h _ (.inl rfl); simpa [St.at_] using this
    simp only [M.run, M.reads, ← h1]
    cases hv : σ.cells b with
    | none => exact ⟨rfl, rfl⟩
    | some v =>
      obtain ⟨e1, e2⟩ := ih v (fun l hl => h l (.inr (by rw [hv]; exact hl)))
      exact ⟨e1, by simp only [e2]⟩
  | fresh b k ih =>
    simp only [M.reads, List.mem_cons] at h
    have h1 : σ.cells b = τ.cells b := by have := h _ (.inl rfl); simpa [St.at_] using this
    obtain ⟨e1, e2⟩ := ih (fun l hl => h l (.inr hl))
    simp only [M.run, M.reads, ← h1, e1, e2]
    exact ⟨by first | trivial | rfl, by first | trivial | rfl⟩
  | part t i k ih =>
    simp only [M.reads, List.mem_cons] at h
    have h1 : σ.part t i = τ.part t i := by have := h _ (.inl rfl); simpa [St.at_] using this
    simp only [M.run, M.reads, ← h1]
    cases hv : σ.part t i with
    | none => exact ⟨rfl, rfl⟩
    | some v =>
      obtain ⟨e1, e2⟩ := ih v (fun l hl => h l (.inr (by rw [hv]; exact hl)))
      exact ⟨e1, by simp only [e2]⟩
  | ask b t f iht ihf =>
    simp only [M.reads, List.mem_append] at h
    obtain ⟨e1, e2⟩ := iht (fun l hl => h l (.inl hl))
    obtain ⟨e3, e4⟩ := ihf (fun l hl => h l (.inr hl))
    simp only [M.run, M.reads, e1, e2, e3, e4, and_self]
/-- Two states that tell alike. -/
def Eqv (σ τ : St) : Prop := (∀ t, σ.tmp t = τ.tmp t) ∧ ∀ k, σ.cells k = τ.cells k
theorem Eqv.refl (σ : St) : Eqv σ σ := ⟨fun _ => rfl, fun _ => rfl⟩
theorem Eqv.symm {σ τ : St} (h : Eqv σ τ) : Eqv τ σ := ⟨fun t => (h.1 t).symm, fun k => (h.2 k).symm⟩
theorem Eqv.trans {σ τ υ : St} (h : Eqv σ τ) (k : Eqv τ υ) : Eqv σ υ := ⟨fun t => (h.1 t).trans (k.1 t), fun b => (h.2 b).trans (k.2 b)⟩
theorem Eqv.at_ {σ τ : St} (h : Eqv σ τ) (l : Loc) : σ.at_ l = τ.at_ l := by
  cases l with
  | tmp t => simp only [St.at_, h.1 t]
  | cell k o => cases o <;> simp only [St.at_, St.cell, h.2 k]
  | part t i => simp only [St.at_, St.part, h.1 t]
theorem Eqv.put {σ τ : St} (h : Eqv σ τ) (x : W) : Eqv (σ.put x) (τ.put x) := by
  cases x with
  | tmp t v => exact ⟨fun u => by simp [h.1 u], fun k => by simp [h.2 k]⟩
  | cell k o v => exact ⟨fun u => by simp [h.1 u], fun l => by simp [h.2 k, h.2 l]⟩
  | box k cs => exact ⟨fun u => by simp [h.1 u], fun l => by simp [h.2 l]⟩
  | part t i v => exact ⟨fun u => by simp [h.1 u, h.1 t], fun k => by simp [h.2 k]⟩
theorem Eqv.puts {σ τ : St} (h : Eqv σ τ) (ws : List W) : Eqv (σ.puts ws) (τ.puts ws) := by
  induction ws generalizing σ τ with
  | nil => exact h
  | cons x ws ih => exact ih (h.put x)
theorem Rep.eqv {g0 g : Gh} {w0 w : World} {σ τ : St} {a : Act} {N : Nat} (h : Rep g0 w0 g w σ a N) (e : Eqv σ τ) : Rep g0 w0 g w τ a N :=
  ⟨fun t v hv => h.env t v (by rw [e.1]; exact hv), fun k cs hk => h.box k cs (by rw [e.2]; exact hk), h.fresh, h.base, h.evol, h.defers, h.size, fun k b hb => by obtain ⟨cs, hc⟩ := h.live k b hb; exact ⟨cs, by rw [← e.2]; exact hc⟩, h.nones⟩
def Miss (x l : Loc) : Prop := x.meets l = false
theorem put_miss {σ : St} {x : W} {l : Loc} (h : x.loc.meets l = false) : (σ.put x).at_ l = σ.at_ l := by
  cases x with
  | tmp t v =>
    cases l with
    | tmp u => simp [W.loc, Loc.meets] at h; simp [St.at_, h]
    | cell k o => cases o <;> simp [St.at_, St.cell]
    | part u i => simp [W.loc, Loc.meets] at h; simp [St.at_, St.part, h]
  | cell k o v =>
    cases l with
    | tmp u => simp [St.at_]
    | part u i => simp [St.at_, St.part]
    | cell k' o' =>
      cases o' with
      | none => simp [W.loc, Loc.meets] at h; simp [St.at_, h]
      | some p =>
        simp [W.loc, Loc.meets] at h
        simp only [St.at_, St.cell, St.cells_put_cell]
        by_cases e : k = k'
        · subst e
          have := h rfl
          cases σ.cells k with
          | none => simp
          | some cs => simp [this]
        · simp [e]
  | box k cs =>
    cases l with
    | tmp u => simp [St.at_]
    | part u i => simp [St.at_, St.part]
    | cell k' o' =>
      cases o' <;> (simp [W.loc, Loc.meets] at h; simp [St.at_, St.cell, h])
  | part t i v =>
    cases l with
    | tmp u => simp [W.loc, Loc.meets] at h; simp [St.at_, h]
    | cell k o => cases o <;> simp [St.at_, St.cell]
    | part u j =>
      simp [W.loc, Loc.meets] at h
      simp only [St.at_, St.part_put_part]
      rw [if_neg (fun e => h e.1 e.2)]
theorem puts_miss {σ : St} {ws : List W} {l : Loc} (h : ∀ x ∈ ws, x.loc.meets l = false) : (σ.puts ws).at_ l = σ.at_ l := by
  induction ws generalizing σ with
  | nil => rfl
  | cons x ws ih => rw [St.puts_cons, ih (fun y hy => h y (.tail _ hy)), put_miss (h x (.head _))]
/-- Two states that tell alike but where some writes are. -/
def AgreeOff (bad : Loc → Prop) (σ τ : St) : Prop := ∀ l, ¬ bad l → σ.at_ l = τ.at_ l
theorem AgreeOff.put {bad : Loc → Prop} {σ τ : St} (h : AgreeOff bad σ τ) (x : W) : AgreeOff bad (σ.put x) (τ.put x) := by
  intro l hl
  have h0 := h l hl
  cases x with
  | tmp t v =>
    cases l with
    | tmp u => simp only [St.at_, St.tmp_put] at h0 ⊢; split <;> simp_all
    | cell k o => cases o <;> simpa [St.at_, St.cell] using h0
    | part u j =>
      simp only [St.at_, Prod.mk.injEq, and_true, St.part, St.tmp_put] at h0 ⊢
      by_cases e : t = u
      · simp [e]
      · simpa [e] using h0
  | cell k o v =>
    cases l with
    | tmp u => simpa [St.at_] using h0
    | part u j => simpa [St.at_, St.part] using h0
    | cell k' o' =>
      cases o' with
      | none =>
        simp only [St.at_, Prod.mk.injEq, true_and] at h0
        simp only [St.at_, St.cells_put_cell]
        by_cases e : k = k'
        · subst e; simp [h0]
        · simp [e, h0]
      | some p =>
        simp only [St.at_, Prod.mk.injEq, and_true, St.cell] at h0
        simp only [St.at_, St.cell, St.cells_put_cell]
        by_cases e : k = k'
        · subst e
          simp only [if_true]
          cases h1 : σ.cells k with
          | none =>
            cases h2 : τ.cells k with
            | none => rfl
            | some b =>
              rw [h1, h2] at h0
              have h0' : b[p]? = none := h0.symm
              simp only [Option.map_none, Option.map_some, Option.bind_none, Option.bind_some, List.getElem?_set]
              have : ¬ p < b.length := by intro hlt; rw [List.getElem?_eq_getElem hlt] at h0'; cases h0'
              by_cases e : o = p
              · subst e; simp [this]
              · simp [e, h0']
          | some c =>
            cases h2 : τ.cells k with
            | none =>
              rw [h1, h2] at h0
              have h0' : c[p]? = none := h0
              simp only [Option.map_none, Option.map_some, Option.bind_none, Option.bind_some, List.getElem?_set]
              have : ¬ p < c.length := by intro hlt; rw [List.getElem?_eq_getElem hlt] at h0'; cases h0'
              by_cases e : o = p
              · subst e; simp [this]
              · simp [e, h0']
            | some b =>
              rw [h1, h2] at h0
              have h0' : c[p]? = b[p]? := h0
              simp only [Option.map_some, Option.bind_some, List.getElem?_set]
              by_cases e : o = p
              · subst e
                have : (o < c.length) ↔ (o < b.length) := by
                  constructor
                  · intro hlt
                    rw [List.getElem?_eq_getElem hlt] at h0'
                    exact (List.getElem?_eq_some_iff.1 h0'.symm).1
                  · intro hlt
                    rw [List.getElem?_eq_getElem hlt] at h0'
                    exact (List.getElem?_eq_some_iff.1 h0').1
                simp [this]
              · simp [e, h0']
        · simp [e, h0]
  | part t i v =>
    cases l with
    | tmp u =>
      simp only [St.at_, Prod.mk.injEq, and_true, St.tmp_put_part] at h0 ⊢
      by_cases e : t = u
      · subst e; simp [h0]
      · simpa [e] using h0
    | cell k o => cases o <;> simpa [St.at_, St.cell] using h0
    | part u j =>
      simp only [St.at_, Prod.mk.injEq, and_true, St.part_put_part] at h0 ⊢
      by_cases e : t = u ∧ i = j
      · obtain ⟨rfl, rfl⟩ := e; simp [h0]
      · simpa [e] using h0
  | box k cs =>
    cases l with
    | tmp u => simpa [St.at_] using h0
    | part u j => simpa [St.at_, St.part] using h0
    | cell k' o' =>
      cases o' with
      | none => simp only [St.at_, Prod.mk.injEq, true_and] at h0; simp only [St.at_, St.cells_put_box]; split <;> simp_all
      | some p => simp only [St.at_, Prod.mk.injEq, and_true, St.cell] at h0; simp only [St.at_, St.cell, St.cells_put_box]; split <;> simp_all
theorem AgreeOff.puts {bad : Loc → Prop} {σ τ : St} (h : AgreeOff bad σ τ) (ws : List W) : AgreeOff bad (σ.puts ws) (τ.puts ws) := by
  induction ws generalizing σ τ with
  | nil => exact h
  | cons x ws ih => exact ih (h.put x)
theorem put_comm {σ : St} {x y : W} (h : x.loc.meets y.loc = false) : Eqv ((σ.put x).put y) ((σ.put y).put x) := by
  refine ⟨fun t => ?_, fun k => ?_⟩
  · cases x with
    | tmp u v =>
      cases y with
      | tmp u' v' =>
        have hne : u ≠ u' := by simpa [W.loc, Loc.meets] using h
        simp only [St.tmp_put]
        by_cases e1 : u' = t
        · subst e1; simp [hne]
        · by_cases e2 : u = t <;> simp [e1, e2]
      | cell k' o' v' => simp only [St.tmp_put, St.tmp_put_cell]
      | box k' cs' => simp only [St.tmp_put, St.tmp_put_box]
      | part u' j v' =>
        have hne : u ≠ u' := by simpa [W.loc, Loc.meets] using h
        simp only [St.tmp_put, St.tmp_put_part]
        by_cases e1 : u' = t
        · subst e1; simp [hne]
        · by_cases e2 : u = t <;> simp [e1, e2, hne]
    | cell k o v => cases y <;> simp only [St.tmp_put, St.tmp_put_cell, St.tmp_put_box, St.tmp_put_part]
    | box k cs => cases y <;> simp only [St.tmp_put, St.tmp_put_cell, St.tmp_put_box, St.tmp_put_part]
    | part u i v =>
      cases y with
      | tmp u' v' =>
        have hne : u ≠ u' := by simpa [W.loc, Loc.meets] using h
        have hne' : u' ≠ u := fun e => hne e.symm
        simp only [St.tmp_put, St.tmp_put_part]
        by_cases e1 : u' = t
        · subst e1; simp [hne]
        · by_cases e2 : u = t <;> simp [e1, e2, hne']
      | cell k' o' v' => simp only [St.tmp_put_part, St.tmp_put_cell]
      | box k' cs' => simp only [St.tmp_put_part, St.tmp_put_box]
      | part u' j v' =>
        simp only [St.tmp_put_part]
        by_cases e1 : u = u'
        · subst e1
          have hij : i ≠ j := by simpa [W.loc, Loc.meets] using h
          by_cases e2 : u = t
          · subst e2
            simp only [if_true]
            cases σ.tmp u with
            | none => rfl
            | some w =>
              cases w with
              | tup vs => simp only [Option.some.injEq, V.tup.injEq]; exact List.set_comm _ _ hij
              | _ => rfl
          · simp [e2]
        · have e1' : u' ≠ u := fun e => e1 e.symm
          by_cases e2 : u = t
          · subst e2; simp [e1']
          · by_cases e3 : u' = t
            · subst e3; simp [e1]
            · simp [e2, e3]
  · cases x with
    | tmp u v => cases y <;> simp only [St.cells_put_tmp, St.cells_put_cell, St.cells_put_box, St.cells_put_part]
    | part u i v => cases y <;> simp only [St.cells_put_tmp, St.cells_put_cell, St.cells_put_box, St.cells_put_part]
    | cell k1 o1 v1 =>
      cases y with
      | tmp u v => simp only [St.cells_put_tmp, St.cells_put_cell]
      | part u i v => simp only [St.cells_put_part, St.cells_put_cell]
      | cell k2 o2 v2 =>
        simp only [St.cells_put_cell]
        by_cases e : k1 = k2
        · subst e
          have hne : o1 ≠ o2 := by simpa [W.loc, Loc.meets] using h
          by_cases e2 : k1 = k
          · subst e2
            simp only [if_true, Option.map_map]
            congr 1
            funext cs
            exact List.set_comm _ _ hne
          · simp [e2]
        · have e' : k2 ≠ k1 := fun h => e h.symm
          by_cases e2 : k2 = k
          · subst e2; simp [e, e']
          · by_cases e3 : k1 = k <;> simp [e2, e3, e, e']
      | box k2 cs2 =>
        have e : k1 ≠ k2 := by simpa [W.loc, Loc.meets] using h
        have e' : k2 ≠ k1 := fun h => e h.symm
        simp only [St.cells_put_cell, St.cells_put_box]
        by_cases e2 : k2 = k
        · subst e2; simp [e, e']
        · by_cases e3 : k1 = k <;> simp [e2, e3, e, e']
    | box k1 cs1 =>
      cases y with
      | tmp u v => simp only [St.cells_put_tmp, St.cells_put_box]
      | part u i v => simp only [St.cells_put_part, St.cells_put_box]
      | cell k2 o2 v2 =>
        have e : k1 ≠ k2 := by simpa [W.loc, Loc.meets] using h
        have e' : k2 ≠ k1 := fun h => e h.symm
        simp only [St.cells_put_cell, St.cells_put_box]
        by_cases e2 : k2 = k
        · subst e2; simp [e, e']
        · by_cases e3 : k1 = k <;> simp [e2, e3, e, e']
      | box k2 cs2 =>
        have e : k1 ≠ k2 := by simpa [W.loc, Loc.meets] using h
        simp only [St.cells_put_box]
        by_cases e2 : k2 = k
        · subst e2; simp [e]
        · by_cases e3 : k1 = k <;> simp [e2, e3]
theorem put_puts_comm {x : W} : ∀ {ws : List W} {σ : St}, (∀ y ∈ ws, x.loc.meets y.loc = false) → Eqv ((σ.put x).puts ws) ((σ.puts ws).put x)
  | [], σ, _ => .refl _
  | y :: ws, σ, h => by
    refine Eqv.trans (Eqv.puts (put_comm (h y (.head _))) ws) ?_
    exact put_puts_comm (fun z hz => h z (.tail _ hz))
theorem puts_comm : ∀ {xs ys : List W} {σ : St}, (∀ x ∈ xs, ∀ y ∈ ys, x.loc.meets y.loc = false) → Eqv ((σ.puts xs).puts ys) ((σ.puts ys).puts xs)
  | [], ys, σ, _ => .refl _
  | x :: xs, ys, σ, h => by
    refine Eqv.trans (puts_comm (xs := xs) (ys := ys) (σ := σ.put x) (fun z hz => h z (.tail _ hz))) ?_
    exact Eqv.puts (put_puts_comm (h x (.head _))) xs
end Go.Proofs.Ytkcopbnaleiocaa.Ev
