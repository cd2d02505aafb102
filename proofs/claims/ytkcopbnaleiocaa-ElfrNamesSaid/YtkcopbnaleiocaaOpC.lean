/- What the evaluator's operations write stands for what the model's operations leave: structs and slices that are written out. -/
import Derived.Test.YtkcopbnaleiocaaOpB
namespace Go.Proofs.Ytkcopbnaleiocaa.Ev
open Go
set_option linter.unusedVariables false
set_option linter.unusedSimpArgs false
section
variable {P : Program} {I : Info} {g0 g : Gh} {w0 w : World} {σ : St} {a : Act} {N : Nat} {o : Oper} {ops : List Oper} {next : Act → World → Prop} {Q : Exit → Act → World → Prop} {ws : List W} {b : Bool}

theorem places_mapM (hok : InfoOk P I) : ∀ (fs : List Field) (pl : List (Nat × Nat)), placesV I fs = some pl → fs.mapM (fun f => (P.info? f.type).map fun i => (f.offset, i.size)) = some pl
  | [], pl, h => by simp [placesV] at h; subst h; simp
  | f :: fs, pl, h => by
    simp only [placesV] at h
    split at h
    · rename_i n l hn hl
      cases h
      obtain ⟨i, hi, hin⟩ := hok.size hn
      simp [List.mapM_cons, hi, hin, places_mapM hok fs l hl]
    · cases h
theorem alike_zero (z : Value) : Alike g w (z.cells.toList.map V.val) z.cells := by
  refine ⟨by simp, fun i v c hv hc => ?_⟩
  simp only [List.getElem?_map, Array.getElem?_toList, hc, Option.map_some, Option.some.injEq] at hv
  subst hv
  exact ⟨trivial, .val _ _⟩
theorem op_build {t : TypeId} {ps : Array (Nat × Operand)} (ho : o.op = .build t ps) (hok : InfoOk P I) (h : Rep g0 w0 g w σ a N) (hd : ∀ t, o.dst = some t → t < N) (hr : (opM I ops o).run σ = some (true, ws)) (hn : ∀ g' a' w', Rep g0 w0 g' w' (σ.puts ws) a' N → next a' w') : o.wp P a w next Q := by
  unfold opM at hr
  rw [ho] at hr
  simp only at hr
  have fin : ∀ (pf : Nat → Option (Nat × Nat)) (zs : List V), I.zero t = some zs → (partsV pf ps.toList zs fun cs => .ret (true, dstW o.dst (.agg cs))).run σ = some (true, ws) → (∀ (i : TypeInfo) (z : Value) (cells' : Array Value), P.info? t = some i → i.zero = some z → Instr.fill pf z.cells ((ps.map fun p => (p.1, a.eval p.2)).toList) = some cells' → P.built t ((ps.map fun p => (p.1, a.eval p.2)).toList) = some cells') → o.wp P a w next Q := by
    intro pf zs hz hr hbuilt
    obtain ⟨i, z, hi, hiz, hzs⟩ := hok.zero hz
    obtain ⟨cs', cells', h1, h2, h3⟩ := partsV_run h ps.toList zs z.cells hr (by rw [hzs]; exact alike_zero z)
    have hb := hbuilt i z cells' hi hiz (by simpa using h2)
    refine op_plain (v := .agg cs') h hd (sem_run (s := Instr.build t (ps.map fun p => (p.1, a.eval p.2))) (by simp only [execOp, ho]; rfl) (run_build w t _ cells' hb)) (fun s => .agg _ _ _ h3.1 (fun i v hv => ?_) (fun i v c hv hc => (h3.2 i v c hv hc).2)) h1 hn
    obtain ⟨hlt, _⟩ := List.getElem?_eq_some_iff.1 hv
    have := h3.1
    exact (h3.2 i v _ hv (Array.getElem?_eq_getElem (by omega))).1
  split at hr
  case h_3 => cases hr
  · rename_i fs zs ht hz
    cases hpl : placesV I fs.toList with
    | none => rw [hpl] at hr; cases hr
    | some pl =>
    rw [hpl] at hr
    refine fin _ zs hz hr fun i z cells' hi hiz h2 => ?_
    unfold Program.built
    rw [hi, hok.und ht]
    simp only [hiz, places_mapM hok _ _ hpl]
    simpa using h2
  · rename_i n e zs ht hz
    cases hsz : I.size e with
    | none => rw [hsz] at hr; cases hr
    | some sz =>
    rw [hsz] at hr
    refine fin _ zs hz hr fun i z cells' hi hiz h2 => ?_
    obtain ⟨j, hj, hjs⟩ := hok.size hsz
    unfold Program.built
    rw [hi, hok.und ht]
    simp only [hiz, hj, hjs]
    simpa [hjs] using h2

theorem tellRows_get {cts : List CT} {sz : Nat} : ∀ {n : Nat} {cs : List V} {rows : List (List D)}, tellRows cts (chunk sz n cs) = some rows → rows.length = n ∧ ∀ i, i < n → ∃ r, rows[i]? = some r ∧ tellAll cts ((cs.drop (i * sz)).take sz) = some r
  | 0, cs, rows, h => by simp [chunk, tellRows] at h; subst h; exact ⟨rfl, fun i hi => absurd hi (by omega)⟩
  | n + 1, cs, rows, h => by
    simp only [chunk, tellRows] at h
    split at h
    · rename_i e es h0 hs
      cases h
      obtain ⟨h1, h2⟩ := tellRows_get hs
      refine ⟨by simp [h1], fun i hi => ?_⟩
      cases i with
      | zero => exact ⟨e, rfl, by simpa using h0⟩
      | succ i =>
        obtain ⟨r, h3, h4⟩ := h2 i (by omega)
        refine ⟨r, by simpa using h3, ?_⟩
        rw [← h4, List.drop_drop, Nat.add_mul, Nat.one_mul, Nat.add_comm]
    · cases h
theorem buildSlice_run {t e : TypeId} {i : TypeInfo} {z : Value} {n : Nat} {parts : Array (Nat × Value)} {cells : Array Value} (ht : P.underlying t = some (.slice e)) (hi : P.info? e = some i) (hiz : i.zero = some z) (hle : n * i.size ≤ 4096)
    (hf : Instr.fill (fun j => some (j * i.size, i.size)) ((Array.range (n * i.size)).map (fun x => z.cells[x % z.cells.size]!)) parts.toList = some cells) : (Instr.buildSlice t n parts).run P w = .ok (.slice (some (pl w.heap.size 0)) n n) (w.alloc (.cells cells e)) := by
  have hbig : ¬ (n * i.size > 2 ^ 24) := by omega
  have hzr : (zeroValue e).run P w = .ok z w := by simp [zeroValue, info_run hi, hiz]
  unfold Instr.buildSlice
  simp only [Sem.run_bind, und_run ht, Result.andThen_ok, size_run hi, if_neg hbig, Sem.run_pure]
  have hnew : (newRow e cells).run P w = .ok (pl w.heap.size 0) (w.alloc (.cells cells e)) := rfl
  by_cases h0 : n * i.size = 0
  · rw [if_pos h0]
    have hcz : ∀ f g : Nat → Value, (Array.range (n * i.size)).map f = (Array.range (n * i.size)).map g := fun f g => by rw [h0]; simp
    rw [hcz _ (fun x => (#[] : Array Value)[x % (#[] : Array Value).size]!)] at hf
    simp only [Sem.run_pure, Result.andThen_ok, hf, hnew, Sem.run_bind]
  · rw [if_neg h0]
    simp only [Sem.run_bind, hzr, Sem.run_pure, Result.andThen_ok, hf, hnew]
theorem chunk_length {sz : Nat} : ∀ (n : Nat) (cs : List V), (chunk sz n cs).length = n
  | 0, _ => rfl
  | n + 1, cs => by simp [chunk, chunk_length n]
theorem chunk_get {sz : Nat} : ∀ (n : Nat) (cs : List V) (i : Nat), i < n → (chunk sz n cs)[i]? = some ((cs.drop (i * sz)).take sz)
  | 0, _, i, h => absurd h (by omega)
  | n + 1, cs, 0, _ => by simp [chunk]
  | n + 1, cs, i + 1, h => by
    simp only [chunk, List.getElem?_cons_succ]
    rw [chunk_get n _ i (by omega), List.drop_drop, Nat.add_mul, Nat.one_mul, Nat.add_comm]
theorem zeros_alike {zs : List V} {z : Value} {sz n : Nat} (hzs : zs = z.cells.toList.map V.val) (hzc : z.cells.size = sz) (hpos : 0 < sz) : Alike g w (zerosV zs sz n) ((Array.range (n * sz)).map (fun x => z.cells[x % z.cells.size]!)) := by
  refine ⟨by simp [zerosV], fun j v c hv hc => ?_⟩
  have hj : j < n * sz := by have := (List.getElem?_eq_some_iff.1 hv).1; simpa [zerosV] using this
  have hm : j % sz < sz := Nat.mod_lt _ hpos
  simp only [zerosV, List.getElem?_map, List.getElem?_range hj, Option.map_some, Option.some.injEq] at hv
  simp [hj, hzc] at hc
  subst hv
  subst hc
  rw [hzs, List.getD_eq_getElem?_getD, List.getElem?_map, Array.getElem?_toList, Array.getElem?_eq_getElem (by omega)]
  rw [getElem!_pos z.cells (j % sz) (by omega)]
  exact ⟨trivial, .val _ _⟩
set_option maxHeartbeats 2000000 in
theorem op_buildSlice {t : TypeId} {n : Nat} {ps : Array (Nat × Operand)} (ho : o.op = .buildSlice t n ps) (hok : InfoOk P I) (h : Rep g0 w0 g w σ a N) (hd : ∀ t, o.dst = some t → t < N) (hdn : o.dst ≠ none) (hr : (opM I ops o).run σ = some (true, ws)) (hn : ∀ g' a' w', Rep g0 w0 g' w' (σ.puts ws) a' N → next a' w') : o.wp P a w next Q := by
  unfold opM at hr
  rw [ho] at hr
  simp only at hr
  split at hr
  case h_2 => cases hr
  rename_i e ht
  obtain ⟨d, hdd⟩ := Option.ne_none_iff_exists'.1 hdn
  have hfl : ∀ (pf : Nat → Option (Nat × Nat)) (l : List (Nat × Value)) (cs cs2 : Array Value), Instr.fill pf cs l = some cs2 → cs2.size = cs.size := by
    intro pf l
    induction l with
    | nil => intro cs cs2 hf; simp [Instr.fill] at hf; subst hf; rfl
    | cons p l ih =>
      intro cs cs2 hf
      obtain ⟨pi, pv⟩ := p
      simp only [Instr.fill] at hf
      split at hf
      · cases hf
      · rename_i off size _
        split at hf
        · cases hf
        · rw [ih _ _ hf, upd_eq]
          have : ∀ (l : List Value) (q : Nat) (c : Array Value), (updA c q l).size = c.size := by
            intro l
            induction l with
            | nil => intro q c; rfl
            | cons x l ih2 => intro q c; simp only [updA]; rw [ih2]; simp
          exact this _ _ _
  cases hsz : I.size e with
  | none => rw [hsz] at hr; cases hr
  | some sz =>
  cases hz : I.zero e with
  | none => rw [hsz, hz] at hr; cases hr
  | some zs =>
  rw [hsz, hz] at hr
  obtain ⟨i, z, hi, hiz, hzs⟩ := hok.zero hz
  obtain ⟨i2, hi2, hisz⟩ := hok.size hsz
  have : i2 = i := Option.some.inj (hi2.symm.trans hi)
  subst this
  cases hcts : I.cts e with
  | none =>
    rw [hcts] at hr
    simp only at hr
    split at hr
    case isFalse => cases hr
    rename_i hc
    obtain ⟨hle, hpos, hzl⟩ := hc
    have hzc : z.cells.size = sz := by rw [← hzl, hzs]; simp
    obtain ⟨cs', cells', h1, h2, h3⟩ := partsV_run h ps.toList _ _ hr (zeros_alike hzs hzc hpos)
    split at h1
    case isFalse => cases h1
    rename_i hlen
    simp only [M.run, Option.some.injEq, Prod.mk.injEq, true_and, hdd] at h1
    subst h1
    have hcsz : cells'.size = n * sz := by rw [hfl _ _ _ _ h2]; simp
    have hrun : (Instr.buildSlice t n (ps.map fun p => (p.1, a.eval p.2))).run P w = .ok (.slice (some (pl w.heap.size 0)) n n) (w.alloc (.cells cells' e)) := by
      refine buildSlice_run (hok.und ht) hi hiz (by rw [hisz]; exact hle) ?_
      rw [hisz]
      simpa using h2
    refine up_value (sem_run (s := Instr.buildSlice t n (ps.map fun p => (p.1, a.eval p.2))) (by simp only [execOp, ho]; rfl) hrun) ?_
    rw [hdd]
    have h4 := h.newBlock (.cells cells' e) .free (by rintro r l e'; cases e')
    refine hn _ _ _ (h4.putTmp (hd d hdd) ?_)
    have hrl : (chunk sz n cs').length = n := chunk_length n cs'
    have hget : ∀ (i : Nat) (r : List V), (chunk sz n cs')[i]? = some r → i < n ∧ r = (cs'.drop (i * sz)).take sz := fun i r hr => by
      have hi : i < n := by have := (List.getElem?_eq_some_iff.1 hr).1; omega
      rw [chunk_get n cs' i hi] at hr
      exact ⟨hi, (Option.some.inj hr).symm⟩
    have hmem : ∀ (i j : Nat) (r : List V) (v : V), (chunk sz n cs')[i]? = some r → r[j]? = some v → j < sz ∧ cs'[i * sz + j]? = some v := fun i j r v hr hv => by
      obtain ⟨hi, rfl⟩ := hget i r hr
      rw [List.getElem?_take] at hv
      split at hv
      · rename_i hj; rw [List.getElem?_drop] at hv; exact ⟨hj, hv⟩
      · cases hv
    have hst := stable_push h (.cells cells' e) .free
    have hcell : ∀ (i j : Nat) (r : List V) (v : V), (chunk sz n cs')[i]? = some r → r[j]? = some v → i * sz + j < cells'.size := fun i j r v hr hv => by
      have := (List.getElem?_eq_some_iff.1 (hmem i j r v hr hv).2).1
      omega
    have hv := VRel.sarr (g := g.set w.heap.size .free) (w := w.alloc (.cells cells' e)) (.tmp d) sz (chunk sz n cs') w.heap.size (fun i j => (cells'[i * sz + j]?).getD undef) (fun i r hr => by
      obtain ⟨hi, rfl⟩ := hget i r hr
      have : (i + 1) * sz ≤ n * sz := Nat.mul_le_mul_right _ (by omega)
      rw [Nat.add_mul] at this
      simp; omega) (by rw [hrl]; simp only [maxLen]; have := Nat.le_mul_of_pos_right n hpos; omega) (fun i j r v hr hv => by
        have hlt := hcell i j r v hr hv
        exact (h3.2 _ v _ (hmem i j r v hr hv).2 (Array.getElem?_eq_getElem hlt)).1) (fun i j r v hr hv => by
        have hlt := hcell i j r v hr hv
        refine ⟨by simp [Gh.stable, Gh.set, Perm.stable], ?_⟩
        simp only [World.cell?, heap_push_new]
        simp [Array.getElem?_eq_getElem hlt]) (fun i j r v hr hv => by
        have hlt := hcell i j r v hr hv
        have := (h3.2 _ v _ (hmem i j r v hr hv).2 (Array.getElem?_eq_getElem hlt)).2
        simp only [Array.getElem?_eq_getElem hlt, Option.getD_some]
        exact this.push h _ _)
    rw [hrl] at hv
    exact hv
  | some cts =>
  rw [hcts] at hr
  simp only at hr
  split at hr
  case isFalse => cases hr
  rename_i hc
  obtain ⟨hle, hpos, hzl, hcl⟩ := hc
  have hzc : z.cells.size = sz := by rw [← hzl, hzs]; simp
  have hal := zeros_alike (g := g) (w := w) (n := n) hzs hzc hpos
  obtain ⟨cs', cells', h1, h2, h3⟩ := partsV_run h ps.toList _ _ hr hal
  split at h1
  case h_2 => cases h1
  rename_i rows hrows
  obtain ⟨hrl, hrow⟩ := tellRows_get hrows
  simp only [M.run, Option.some.injEq, Prod.mk.injEq, true_and, hdd] at h1
  subst h1
  have hcsz : cells'.size = n * sz := by rw [hfl _ _ _ _ h2]; simp
  have hvals : RowVals g.stable w cts rows cells'.toList := by
    refine ⟨by rw [Array.length_toList, hcsz, hrl, hcl], fun i j c hi hj => ?_⟩
    rw [hrl] at hi
    obtain ⟨r, hr1, hr2⟩ := hrow i hi
    obtain ⟨v, d', hv, hd', htell⟩ := tellAll_get hr2 j c hj
    have hjl : j < sz := by have := (List.getElem?_eq_some_iff.1 hj).1; omega
    rw [List.getElem?_take, if_pos hjl, List.getElem?_drop] at hv
    have hlt : i * sz + j < cells'.size := by
      have := (List.getElem?_eq_some_iff.1 hv).1
      have := h3.1
      omega
    refine ⟨cells'[i * sz + j], by rw [hcl, Array.getElem?_toList]; exact Array.getElem?_eq_getElem hlt, ?_⟩
    have := tell_rel htell (h3.2 _ v _ hv (Array.getElem?_eq_getElem hlt)).2
    have e1 : rows.getD i [] = r := by rw [List.getD_eq_getElem?_getD, hr1]; rfl
    have e2 : r.getD j default = d' := by rw [List.getD_eq_getElem?_getD, hd']; rfl
    rw [e1, e2]
    exact this
  obtain ⟨g', h4⟩ := h.grown (d := d) (hd d hdd) (e := e) (rest := []) (cap := n) hvals (by rw [hrl]; exact Nat.le_refl _) (by simp only [maxLen]; have := Nat.le_mul_of_pos_right n hpos; omega) (by rw [List.length_nil, Nat.add_zero, Array.length_toList, hcsz, hcl])
  have hrun : (Instr.buildSlice t n (ps.map fun p => (p.1, a.eval p.2))).run P w = .ok (.slice (some (pl w.heap.size 0)) n n) (w.alloc (.cells cells' e)) := by
    refine buildSlice_run (hok.und ht) hi hiz (by rw [hisz]; exact hle) ?_
    rw [hisz]
    simpa using h2
  refine up_value (sem_run (s := Instr.buildSlice t n (ps.map fun p => (p.1, a.eval p.2))) (by simp only [execOp, ho]; rfl) hrun) ?_
  rw [hdd]
  refine hn g' _ _ ?_
  rw [hrl, List.append_nil] at h4
  exact h4
end
end Go.Proofs.Ytkcopbnaleiocaa.Ev
