/- What the evaluator's operations write stands for what the model's operations leave: stores, new boxes. -/
import Derived.Test.YthloggdgdklgmaaOp7
namespace Go.Proofs.Ythloggdgdklgmaa.Ev
open Go
set_option linter.unusedVariables false
set_option linter.unusedSimpArgs false
section
variable {P : Program} {I : Info} {g0 g : Gh} {w0 w : World} {σ : St} {a : Act} {N : Nat} {o : Oper} {ops : List Oper} {next : Act → World → Prop} {Q : Exit → Act → World → Prop} {ws : List W} {b : Bool}

theorem checkV_run {k : Key} {f : Step} {r : Bool × List W} : ∀ (n off : Nat), (checkV k off f n).run σ = some r → (∀ i, i < n → ∃ v, σ.cell k (off + i) = some v) ∧ f.run σ = some r
  | 0, off, h => ⟨fun i hi => absurd hi (by omega), h⟩
  | n + 1, off, h => by
    simp only [checkV, M.run] at h
    cases hv : σ.cell k off with
    | none => rw [hv] at h; cases h
    | some v =>
      rw [hv] at h
      obtain ⟨h1, h2⟩ := checkV_run n (off + 1) h
      refine ⟨fun i hi => ?_, h2⟩
      cases i with
      | zero => exact ⟨v, hv⟩
      | succ i => obtain ⟨u, hu⟩ := h1 i (by omega); exact ⟨u, by rw [← hu]; congr 1; omega⟩
/-- Cells are written one behind the other. -/
theorem Rep.setCells (h : Rep g0 w0 g w σ a N) {k : Key} {b : Nat} (hat : g.at_ k = some b) (hkm : k.isMp = false) : ∀ (vs : List V) (cs : List Value) (off : Nat), vs.length = cs.length → (∃ l, σ.cells k = some l ∧ off + vs.length ≤ l.length) →
    (∀ (i : Nat) (v : V) (c : Value), vs[i]? = some v → cs[i]? = some c → v.flat ∧ VRel g w .none v c) → Rep g0 w0 g (w.setCells b off cs) (σ.puts (cellsW k off vs)) a N := by
  intro vs
  induction vs generalizing w σ with
  | nil => intro cs off hl _ _; cases cs with | nil => exact h | cons => cases hl
  | cons v vs ih =>
    intro cs off hl hb hv
    cases cs with
    | nil => cases hl
    | cons c cs =>
      obtain ⟨l, hk, hlen⟩ := hb
      simp only [List.length_cons] at hlen hl
      obtain ⟨hf, hrel⟩ := hv 0 v c rfl rfl
      have hvf : v.view.flat := by cases v <;> first | trivial | exact hf
      have h1 := h.setCell hk hat (off := off) (by omega) hvf (hrel.viewed (s' := .cell k off) (by rintro _ rfl; exact hf)) hkm
      obtain ⟨b', cur, e, g1, g2, g3, g4, g6, g5⟩ := (h.box k l hk).cell hkm
      have : b' = b := Option.some.inj (g1.symm.trans hat)
      subst this
      refine ih h1 cs (off + 1) (by omega) ⟨l.set off v.view, by rw [St.cells_put_cell, if_pos rfl, hk]; rfl, by simp; omega⟩ (fun i u c' hu hc' => ?_)
      obtain ⟨q1, q2⟩ := hv (i + 1) u c' (by simpa using hu) (by simpa using hc')
      exact ⟨q1, q2.setBox h g2 c⟩
theorem storeAt_run {t : TypeId} {p x : Operand} (ho : o.op = .store t p x) {b q : Nat} (hp : a.eval p = .pointer (some (pl b q))) {w' : World} (hs : (storeVar t (pl b q) (a.eval x)).run P w = .ok () w') : (execOp a.eval o).run P w = .ok .skip w' := by
  simp only [execOp, ho, hp, Instr.storeAt, Instr.sureAddr, Sem.run_bind, Sem.run_pure, Result.andThen_ok, hs]
/-- A single value goes into a cell, its room with it. -/
theorem Rep.goesCell (h : Rep g0 w0 g w σ a N) {x : Operand} {v : V} {c : Value} {k : Key} {off b : Nat} {cs : List V} (hv : VRel g w (slotOf x) v c) (hx : ∀ t, x = .tmp t → σ.tmp t = some v) (hp : (∀ t, x ≠ .tmp t) → v.plain) (hf : v.flat)
    (hk : σ.cells k = some cs) (hat : g.at_ k = some b) (hoff : off < cs.length) (hkm : k.isMp = false) : ∃ g', Rep g0 w0 g' (w.setCell (pl b off) c) (σ.puts (gone x v ++ [.cell k off v])) a N := by
  by_cases hpl : v.plain
  · have : gone x v = [] := by cases x <;> cases v <;> first | rfl | exact hpl.elim
    rw [this, List.nil_append]
    exact ⟨g, h.setCell hk hat hoff hf (hv.slot hpl) hkm⟩
  · cases x with
    | tmp s =>
      have hs := hx s rfl
      cases v with
      | own ct xs =>
        have h1 := h.viewTmp hs (v' := .arr ct xs) (fun c hc => hc.view)
        have h2 := h1.giveTmp (s := s) (s' := .cell k off) (by simp [Slot.root]) (fun u hu => by simp at hu; subst hu; trivial)
        exact ⟨_, h2.setCell (by simpa using hk) hat hoff trivial (hv.own_ren _ (toSlot_self _ _)) hkm⟩
      | tup => exact hf.elim
      | _ => exact absurd trivial hpl
    | _ => exact absurd (hp (fun t e => by cases e)) hpl
theorem storeVar_one {t : TypeId} (hok : InfoOk P I) (hn : I.size t = some 1) {b q : Nat} {c c' : Value} (hc : w.cell? (pl b q) = some c') (hf : w.frozen? (pl b q) = false) (h1 : oneC c = true) : (storeVar t (pl b q) c).run P w = .ok () (w.setCell (pl b q) c) := by
  obtain ⟨i, hi, hin⟩ := hok.size hn
  obtain ⟨hcc, h1c⟩ := oneC_cells h1
  have := run_storeCells_cells (P := P) b q [c] 0 w (fun j hj => by simp at hj; subst hj; simp [hc]) (fun j hj => by simp at hj; subst hj; simpa using hf) (by simpa using h1c)
  simp only [Nat.add_zero, World.setCells] at this
  simp [storeVar, sizeOf, typeInfo, hi, hin, hcc, this]

theorem op_store {t : TypeId} {p x : Operand} (ho : o.op = .store t p x) (hdn : o.dst = none) (hok : InfoOk P I) (h : Rep g0 w0 g w σ a N) (hr : (opM I ops o).run σ = some (true, ws)) (hn : ∀ g' a' w', Rep g0 w0 g' w' (σ.puts ws) a' N → next a' w') : o.wp P a w next Q := by
  unfold opM at hr
  rw [ho] at hr
  obtain ⟨u, hr1, hu, -, -⟩ := opd_sound h hr
  clear hr
  obtain ⟨v, hr, hv, hx, hp⟩ := opd_sound h hr1
  clear hr1
  cases hag : isAggT I t with
  | none => rw [hag] at hr; cases hr
  | some ag =>
  cases hsz : I.size t with
  | none => rw [hag, hsz] at hr; cases ag <;> cases hr
  | some n =>
  rw [hag, hsz] at hr
  cases u with
  | ptr k off =>
    obtain ⟨b, hb, e⟩ := ptr_inv hu
    cases ag with
    | true =>
      cases v with
      | agg vs =>
        simp only at hr
        split at hr
        · rename_i hvs
          obtain ⟨hlen, hall⟩ := hvs
          obtain ⟨hc, hr⟩ := checkV_run n off hr
          simp only [M.run, Option.some.injEq, Prod.mk.injEq, true_and] at hr
          subst hr
          generalize hcx : a.eval x = c at hv
          cases hv with
          | agg _ _ cs hl hf hcs =>
            have hcells : ∀ j, j < n → ∃ c, w.cell? (pl b (off + j)) = some c ∧ w.frozen? (pl b (off + j)) = false ∧ ∃ l, σ.cells k = some l ∧ off + j < l.length := by
              intro j hj
              obtain ⟨v, hv⟩ := hc j hj
              obtain ⟨c, q1, _, _, q2, l, q3, q4⟩ := cell_box h hv hb (ptr_key hu)
              exact ⟨c, q1, q2, l, q3, q4⟩
            have hone : cs.all (·.oneCell') = true := by
              rw [Array.all_eq_true]
              intro i hi
              have hv : vs[i]? = some vs[i] := List.getElem?_eq_getElem (by omega)
              exact (oneC_cells (flat_oneC (hcs i vs[i] cs[i] hv (Array.getElem?_eq_getElem hi)) (List.all_eq_true.1 hall _ (List.getElem_mem _))).2).2
            obtain ⟨inf, hinf, hin⟩ := hok.size hsz
            have hst := run_storeVar_mid (P := P) w b off t cs (fun j hj => by
              obtain ⟨c, q1, q2, _⟩ := hcells j (by omega)
              exact ⟨by rw [q1]; rfl, q2⟩) (by rw [hinf]; simp [hin]; omega) hone
            refine up_skip (storeAt_run ho e (by rw [hcx]; exact hst)) ?_
            rw [hdn]
            by_cases hn0 : n = 0
            · have hvs : vs = [] := List.eq_nil_of_length_eq_zero (by omega)
              have hcs0 : cs.toList = [] := List.eq_nil_of_length_eq_zero (by simp only [Array.length_toList]; omega)
              rw [hcs0]
              exact hn g a w (by rw [hvs]; exact h)
            · obtain ⟨c, _, _, l, q3, q4⟩ := hcells (n - 1) (by omega)
              exact hn g a _ (h.setCells hb (ptr_key hu) vs cs.toList off (by simp; omega) ⟨l, q3, by omega⟩ (fun i v c hv hc => ⟨hf i v hv, hcs i v c hv (by simpa using hc)⟩))
        · cases hr
      | _ => cases hr
    | false =>
      cases n with
      | zero => cases hr
      | succ n =>
      cases n with
      | succ => cases hr
      | zero =>
      simp only at hr
      split at hr
      · rename_i hck
        simp only [M.run] at hr
        cases hold : σ.cell k off with
        | none => rw [hold] at hr; cases hr
        | some old =>
        rw [hold] at hr
        simp only [Option.some.injEq, Prod.mk.injEq, true_and] at hr
        subst hr
        obtain ⟨c', q1, _, _, q2, l, q3, q4⟩ := cell_box h hold hb (ptr_key hu)
        obtain ⟨hfl, h1⟩ := flat_oneC hv hck
        obtain ⟨g', h'⟩ := h.goesCell hv hx hp hfl q3 hb q4 (ptr_key hu)
        refine up_skip (storeAt_run ho e (storeVar_one hok hsz q1 q2 h1)) ?_
        rw [hdn]
        exact hn g' a _ h'
      · cases hr
  | _ => split at hr <;> first | (simp_all; done) | cases hr

theorem zero_run {t : TypeId} (hok : InfoOk P I) {zs : List V} (hz : I.zero t = some zs) (w : World) : ∃ z, (zeroValue t).run P w = .ok z w ∧ zs = z.cells.toList.map V.val := by
  obtain ⟨i, z, h1, h2, h3⟩ := hok.zero hz
  exact ⟨z, by simp [zeroValue, info_run h1, h2], h3⟩
theorem op_alloc {t : TypeId} (ho : o.op = .alloc t) (hok : InfoOk P I) (h : Rep g0 w0 g w σ a N) (hd : ∀ t, o.dst = some t → t < N) (hr : (opM I ops o).run σ = some (true, ws)) (hn : ∀ g' a' w', Rep g0 w0 g' w' (σ.puts ws) a' N → next a' w') : o.wp P a w next Q := by
  unfold opM at hr
  rw [ho] at hr
  simp only at hr
  cases hdd : o.dst with
  | none => rw [hdd] at hr; cases hr
  | some d =>
  cases hz : I.zero t with
  | none => rw [hdd, hz] at hr; cases hr
  | some zs =>
  rw [hdd, hz] at hr
  simp only [M.run] at hr
  cases hc : σ.cells (.loc d) with
  | some => rw [hc] at hr; cases hr
  | none =>
  rw [hc] at hr
  simp only [Option.some.injEq, Prod.mk.injEq, true_and] at hr
  subst hr
  obtain ⟨z, hzr, hzs⟩ := zero_run hok hz w
  have hrun : (execOp a.eval o).run P w = .ok (.value (.pointer (some (pl w.heap.size 0)))) (w.alloc (.cells z.cells t)) := by
    refine sem_run (s := Instr.alloc t true (.tuple #[])) (by simp only [execOp, ho]; rfl) ?_
    simp [Instr.alloc, hzr, newVar, newRow, newObj, Sem.run]
  refine up_value hrun ?_
  have h1 := h.newBox hc zs z.cells t (by rw [hzs]; simp) (fun i v hv => by
      rw [hzs] at hv
      simp only [List.getElem?_map, Option.map_eq_some_iff] at hv
      obtain ⟨u, _, rfl⟩ := hv
      trivial) id (fun r hr => hr) (fun u v _ => by cases v <;> first | rfl | exact trivial | exact fun i u _ => .inr rfl) (fun k cs o v _ _ => by cases v <;> first | rfl | exact trivial | exact fun i u _ => .inr rfl) (fun i v c hv hcc => by
      rw [hzs] at hv
      simp only [List.getElem?_map, Array.getElem?_toList, hcc, Option.map_some, Option.some.injEq] at hv
      subst hv
      exact .val _ _)
  have h2 := h1.putTmp (d := d) (v := .ptr (.loc d) 0) (c := .pointer (some (pl w.heap.size 0))) (hd d hdd) (.ptr _ _ _ _ (by simp [Gh.setAt]) rfl)
  rw [hdd]
  exact hn _ _ _ h2
theorem okFor_id (s : Slot) (v : V) : okFor id s v := by cases v <;> first | rfl | exact trivial | exact fun i u _ => .inr rfl
theorem op_box {t : TypeId} {x : Operand} (ho : o.op = .box t x) (hok : InfoOk P I) (h : Rep g0 w0 g w σ a N) (hd : ∀ t, o.dst = some t → t < N) (hr : (opM I ops o).run σ = some (true, ws)) (hn : ∀ g' a' w', Rep g0 w0 g' w' (σ.puts ws) a' N → next a' w') : o.wp P a w next Q := by
  unfold opM at hr
  rw [ho] at hr
  obtain ⟨v, hr1, hv, hx, hp⟩ := opd_sound h hr
  clear hr
  cases hdd : o.dst with
  | none => rw [hdd] at hr1; cases hr1
  | some d =>
  rw [hdd] at hr1
  have hrun : (execOp a.eval o).run P w = .ok (.value (.pointer (some (pl w.heap.size 0)))) (w.alloc (.cells (a.eval x).cells t)) := by
    refine sem_run (s := Instr.box t (a.eval x)) (by simp only [execOp, ho]; rfl) ?_
    simp [Instr.box, newVar, newRow, newObj, Sem.run]
  cases hag : isAggT I t with
  | none => rw [hag] at hr1; cases hr1
  | some ag =>
  rw [hag] at hr1
  cases ag with
  | true =>
    cases v with
    | agg vs =>
      simp only at hr1
      split at hr1
      · rename_i hvs
        simp only [M.run] at hr1
        cases hc : σ.cells (.loc d) with
        | some => rw [hc] at hr1; cases hr1
        | none =>
        rw [hc] at hr1
        simp only [Option.some.injEq, Prod.mk.injEq, true_and] at hr1
        subst hr1
        generalize hcx : a.eval x = c at hv hrun
        cases hv with
        | agg _ _ cs hl hf hcs =>
          refine up_value hrun ?_
          have h1 := h.newBox hc (vs.map V.view) cs t (by simp; omega) (fun i v hv => by
              simp only [List.getElem?_map, Option.map_eq_some_iff] at hv
              obtain ⟨u, hu, rfl⟩ := hv
              have := hf i u hu
              cases u <;> first | trivial | exact this) id (fun r hr => hr) (fun u v _ => okFor_id _ _) (fun k cs o v _ _ => okFor_id _ _) (fun i v c hv hcc => by
              simp only [List.getElem?_map, Option.map_eq_some_iff] at hv
              obtain ⟨u, hu, rfl⟩ := hv
              have := (hcs i u c hu hcc).viewed (s' := .cell (.loc d) i) (by rintro _ rfl; exact hf i _ hu)
              have hpl : u.view.plain := by have := hf i u hu; cases u <;> first | trivial | exact this
              exact this.plain_ren _ hpl h.nones)
          have h2 := h1.putTmp (d := d) (v := .ptr (.loc d) 0) (c := .pointer (some (pl w.heap.size 0))) (hd d hdd) (.ptr _ _ _ _ (by simp [Gh.setAt]) rfl)
          rw [hdd]
          exact hn _ _ _ h2
      · cases hr1
    | _ => cases hr1
  | false =>
    simp only at hr1
    split at hr1
    · rename_i hck
      simp only [M.run] at hr1
      cases hc : σ.cells (.loc d) with
      | some => rw [hc] at hr1; cases hr1
      | none =>
      rw [hc] at hr1
      simp only [Option.some.injEq, Prod.mk.injEq, true_and] at hr1
      subst hr1
      obtain ⟨hfl, h1c⟩ := flat_oneC hv hck
      rw [(oneC_cells h1c).1] at hrun
      refine up_value hrun ?_
      have key : ∃ g', Rep g0 w0 g' (w.alloc (.cells #[a.eval x] t)) ((σ.puts (gone x v)).put (.box (.loc d) [v])) a N ∧ g'.at_ (.loc d) = some w.heap.size := by
        by_cases hpl : v.plain
        · have : gone x v = [] := by cases x <;> cases v <;> first | rfl | exact hpl.elim
          rw [this]
          exact ⟨_, h.newBox hc [v] #[a.eval x] t rfl (fun i u hu => by cases i with | zero => simp at hu; subst hu; exact hfl | succ i => simp at hu) id (fun r hr => hr) (fun u v _ => okFor_id _ _) (fun k cs o v _ _ => okFor_id _ _) (fun i u c hu hcc => by
            cases i with
            | zero => simp at hu hcc; subst hu; subst hcc; exact (hv.slot hpl).plain_ren _ hpl h.nones
            | succ i => simp at hu), by simp [Gh.setAt]⟩
        · cases x with
          | tmp s =>
            have hs := hx s rfl
            cases v with
            | own ct xs =>
              have h1 := h.viewTmp hs (v' := .arr ct xs) (fun c hc => hc.view)
              refine ⟨_, h1.newBox (t := d) (by simpa using hc) [.own ct xs] #[a.eval (.tmp s)] t rfl (fun i u hu => by cases i with | zero => simp at hu; subst hu; exact hfl | succ i => simp at hu) (toSlot (.tmp s) (.cell (.loc d) 0)) (toSlot_none (by simp [Slot.root])) (fun u v hu => ?_) (fun k cs o v _ _ => okFor_ne (by simp) (by simp)) (fun i u c hu hcc => ?_), by simp [Gh.setAt]⟩
              · by_cases e : u = s
                · subst e; simp at hu; subst hu; exact trivial
                · exact okFor_ne (by simpa using e) (by simp)
              · cases i with
                | zero => simp at hu hcc; subst hu; subst hcc; exact hv.own_ren _ (toSlot_self _ _)
                | succ i => simp at hu
            | tup => exact hfl.elim
            | _ => exact absurd trivial hpl
          | _ => exact absurd (hp (fun t e => by cases e)) hpl
      obtain ⟨g', h1, hat⟩ := key
      have h2 := h1.putTmp (d := d) (v := .ptr (.loc d) 0) (c := .pointer (some (pl w.heap.size 0))) (hd d hdd) (.ptr _ _ _ _ hat rfl)
      rw [hdd]
      exact hn _ _ _ (by rw [St.puts_append]; exact h2)
    · cases hr1
end
end Go.Proofs.Ythloggdgdklgmaa.Ev
