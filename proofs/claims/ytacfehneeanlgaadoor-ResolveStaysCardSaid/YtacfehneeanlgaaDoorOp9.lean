/- What the evaluator's operations write stands for what the model's operations leave: stores, new boxes. What the evaluator's operations write stands for what the model's operations leave: append. -/
import Derived.Test.YtacfehneeanlgaaDoorOp7
import Derived.Laws.AppendOwn
namespace Go.Proofs.YtacfehneeanlgaaDoor.Ev
open Go
set_option linter.unusedVariables false
set_option linter.unusedSimpArgs false
section
variable {P : Program} {I : Info} {g0 g : Gh} {w0 w : World} {σ : St} {a : Act} {N : Nat} {o : Oper} {ops : List Oper} {next : Act → World → Prop} {Q : Exit → Act → World → Prop} {ws : List W} {b : Bool}

theorem checkV_run {k : Key} {f : Step} {r : Bool × List W} : ∀ (n off : Nat), (checkV k off f n).run σ = some r → (∀ i, i < n → ∃ v, σ.cell k (off + i) = some v) ∧ f.run σ = some r
  | 0, off, h => ⟨fun i hi => absurd hi (by omega), h⟩
  | n + 1, off, h => by
    simp only [checkV, M.run] at h
    cases hv : σ.cell k off with
    | none => rw [hv] at h; cases h
    | some v =>
      rw [hv] at h
      obtain ⟨h1, h2⟩ := checkV_run n (off + 1) h
      refine ⟨fun i hi => ?_, h2⟩
      cases i with
      | zero => exact ⟨v, hv⟩
      | succ i => obtain ⟨u, hu⟩ := h1 i (by omega); exact ⟨u, by rw [← hu]; congr 1; omega⟩
/-- Cells are written one behind the other. -/
theorem Rep.setCells (h : Rep g0 w0 g w σ a N) {k : Key} {b : Nat} (hat : g.at_ k = some b) (hkm : k.isMp = false) : ∀ (vs : List V) (cs : List Value) (off : Nat), vs.length = cs.length → (∃ l, σ.cells k = some l ∧ off + vs.length ≤ l.length) →
    (∀ (i : Nat) (v : V) (c : Value), vs[i]? = some v → cs[i]? = some c → v.cellP ∧ VRel g w .none v c) → Rep g0 w0 g (w.setCells b off cs) (σ.puts (cellsW k off vs)) a N := by
  intro vs
  induction vs generalizing w σ with
  | nil => intro cs off hl _ _; cases cs with | nil => exact h | cons => cases hl
  | cons v vs ih =>
    intro cs off hl hb hv
    cases cs with
    | nil => cases hl
    | cons c cs =>
      obtain ⟨l, hk, hlen⟩ := hb
      simp only [List.length_cons] at hlen hl
      obtain ⟨hf, hrel⟩ := hv 0 v c rfl rfl
      have hvf : v.view.cellP := by cases v <;> first | trivial | exact hf
      have h1 := h.setCell hk hat (off := off) (by omega) hvf (hrel.viewed (s' := .cell k off) (by rintro _ rfl; exact hf)) hkm
      obtain ⟨b', cur, e, g1, g2, g3, g4, g6, g5⟩ := (h.box k l hk).cell hkm
      have : b' = b := Option.some.inj (g1.symm.trans hat)
      subst this
      refine ih h1 cs (off + 1) (by omega) ⟨l.set off v.view, by rw [St.cells_put_cell, if_pos rfl, hk]; rfl, by simp; omega⟩ (fun i u c' hu hc' => ?_)
      obtain ⟨q1, q2⟩ := hv (i + 1) u c' (by simpa using hu) (by simpa using hc')
      exact ⟨q1, q2.setBox h g2 c⟩
theorem storeAt_run {t : TypeId} {p x : Operand} (ho : o.op = .store t p x) {b q : Nat} (hp : a.eval p = .pointer (some (pl b q))) {w' : World} (hs : (storeVar t (pl b q) (a.eval x)).run P w = .ok () w') : (execOp a.eval o).run P w = .ok .skip w' := by
  simp only [execOp, ho, hp, Instr.storeAt, Instr.sureAddr, Sem.run_bind, Sem.run_pure, Result.andThen_ok, hs]
/-- A single value goes into a cell, its room with it. -/
theorem Rep.goesCell (h : Rep g0 w0 g w σ a N) {x : Operand} {v : V} {c : Value} {k : Key} {off b : Nat} {cs : List V} (hv : VRel g w (slotOf x) v c) (hx : ∀ t, x = .tmp t → σ.tmp t = some v) (hp : (∀ t, x ≠ .tmp t) → v.plain) (hf : v.cellP)
    (hk : σ.cells k = some cs) (hat : g.at_ k = some b) (hoff : off < cs.length) (hkm : k.isMp = false) : ∃ g', Rep g0 w0 g' (w.setCell (pl b off) c) (σ.puts (gone x v ++ [.cell k off v])) a N := by
  by_cases hpl : v.plain
  · have : gone x v = [] := by cases x <;> cases v <;> first | rfl | exact hpl.elim
    rw [this, List.nil_append]
    exact ⟨g, h.setCell hk hat hoff hf (hv.slot hpl) hkm⟩
  · cases x with
    | tmp s =>
      have hs := hx s rfl
      cases v with
      | own ct xs =>
        have h1 := h.viewTmp hs (v' := .arr ct xs) (fun c hc => hc.view)
        have h2 := h1.giveTmp (s := s) (s' := .cell k off) (by simp [Slot.root]) (fun u hu => by simp at hu; subst hu; trivial)
        exact ⟨_, h2.setCell (by simpa using hk) hat hoff trivial (hv.own_ren _ (toSlot_self _ _)) hkm⟩
      | tup => exact hf.elim
      | uni => exact hf.elim
      | _ => exact absurd trivial hpl
    | _ => exact absurd (hp (fun t e => by cases e)) hpl
theorem storeVar_one {t : TypeId} (hok : InfoOk P I) (hn : I.size t = some 1) {b q : Nat} {c c' : Value} (hc : w.cell? (pl b q) = some c') (hf : w.frozen? (pl b q) = false) (h1 : oneC c = true) : (storeVar t (pl b q) c).run P w = .ok () (w.setCell (pl b q) c) := by
  obtain ⟨i, hi, hin⟩ := hok.size hn
  obtain ⟨hcc, h1c⟩ := oneC_cells h1
  have := run_storeCells_cells (P := P) b q [c] 0 w (fun j hj => by simp at hj; subst hj; simp [hc]) (fun j hj => by simp at hj; subst hj; simpa using hf) (by simpa using h1c)
  simp only [Nat.add_zero, World.setCells] at this
  simp [storeVar, sizeOf, typeInfo, hi, hin, hcc, this]

theorem tell_rel {s : Slot} {ct : CT} {v : V} {d : D} {c : Value} (ht : ct.tell v = some d) (hv : VRel g w s v c) : DRel g.stable w ct d c := by
  unfold CT.tell at ht
  split at ht
  · split at ht
    · rename_i e; subst e; cases ht; rw [val_inv hv]; exact .int _ (.int _)
    · cases ht
  · cases ht; rw [val_inv hv]; exact .bool (.bool _)
  · cases ht; rw [val_inv hv]; exact .str (.str _)
  · split at ht
    · rename_i e; cases ht; rw [sameCTs_eq _ _ e]; exact arr_d hv
    · cases ht
  · split at ht
    · rename_i e; cases ht; rw [sameCTs_eq _ _ e]; exact own_d hv
    · cases ht
  · cases ht; rw [val_inv hv]; exact .nil _ _ _ rfl
  · rename_i f fi ca
    split at ht
    · rename_i e
      cases ht
      rw [val_inv hv, Array.eq_empty_of_size_eq_zero e.1, Array.eq_empty_of_size_eq_zero e.2]
      exact .fn (.int (f : Nat))
    · cases ht
  · cases ht
theorem Rep.setObj (h : Rep g0 w0 g w σ a N) {k : Key} {bb : Nat} (ho : g.own bb = .box k) (hat : g.at_ k = some bb) {w' : World} (s1 : w'.os = w.os) (s2 : w'.tape = w.tape) (s3 : w'.output = w.output) (s4 : w'.heap.size = w.heap.size) (hoth : ∀ b', b' ≠ bb → w'.heap[b']? = w.heap[b']?) (cs : List V)
    (hnew : (∀ b o c, g.stable b o → w.cell? (pl b o) = some c → g.stable b o ∧ w'.cell? (pl b o) = some c) → BoxRel g w' k cs) : Rep g0 w0 g w' (σ.put (.box k cs)) a N := by
  have hst : ∀ b o c, g.stable b o → w.cell? (pl b o) = some c → g.stable b o ∧ w'.cell? (pl b o) = some c := by
    intro b o c h1 h2
    have : b ≠ bb := fun e => by subst e; simp only [Gh.stable, ho] at h1; exact h1.elim
    exact ⟨h1, by rw [cell_of_heap (hoth b this)]; exact h2⟩
  have mv : ∀ s v c, VRel g w s v c → VRel g w' s v c := fun s v c hv => h.mono_slot hst (fun _ _ h => h) hv (fun r b l _ h1 => ⟨h1, hoth b (fun e => by subst e; rw [ho] at h1; cases h1)⟩)
  refine ⟨fun t v hv => ?_, fun k' cs' hk => ?_, fun b hb => h.fresh b (by rw [← s4]; exact hb), h.base, ?_, h.defers, h.size, fun k' b hb => ?_, h.nones⟩
  · obtain ⟨c, h1, h2⟩ := h.env t v (by simpa using hv)
    exact ⟨c, h1, mv _ _ _ h2⟩
  · rw [St.cells_put_box] at hk
    by_cases e : k = k'
    · subst e
      simp only [if_true, Option.some.injEq] at hk
      subst hk
      exact hnew hst
    · simp only [e, if_false] at hk
      exact (h.box k' cs' hk).mono hst (fun b h1 h2 => ⟨h1, h2, hoth b (fun e' => by subst e'; rw [ho] at h2; cases h2; exact e rfl)⟩) (fun _ h => h) (fun i v c _ _ hv => mv _ _ _ hv)
  · refine h.evol.trans h.base.1 ⟨s1, s2, s3, by rw [s4]; exact Nat.le_refl _, fun b _ h1 => ⟨hoth b (fun e => by subst e; rw [ho] at h1; cases h1), h1⟩, fun b l h1 => ⟨hoth b (fun e => by subst e; rw [ho] at h1; cases h1), h1⟩, fun b s l h1 => ⟨fun q c _ hq => ?_, .inr (.inr ⟨s, l, h1, Nat.le_refl _⟩)⟩, fun _ _ h => h, fun _ _ h => h⟩
    rw [cell_of_heap (hoth b (fun e => by subst e; rw [ho] at h1; cases h1))]
    exact hq
  · rw [St.cells_put_box]
    by_cases e : k = k'.base
    · exact ⟨cs, by rw [if_pos e]⟩
    · rw [if_neg e]; exact h.live k' b hb

theorem putD_get (n j : Nat) (d : D) (e : List D) (q : Nat) (hq : q < n) : (putD n j d e).getD q default = if q = j then d else e.getD q default := by
  simp [putD, hq]
theorem op_store {t : TypeId} {p x : Operand} (ho : o.op = .store t p x) (hdn : o.dst = none) (hok : InfoOk P I) (h : Rep g0 w0 g w σ a N) (hr : (opM I ops o).run σ = some (true, ws)) (hn : ∀ g' a' w', Rep g0 w0 g' w' (σ.puts ws) a' N → next a' w') : o.wp P a w next Q := by
  unfold opM at hr
  rw [ho] at hr
  obtain ⟨u, hr1, hu, -, -⟩ := opd_sound h hr
  clear hr
  obtain ⟨v, hr, hv, hx, hp⟩ := opd_sound h hr1
  clear hr1
  cases hag : isAggT I t with
  | none => rw [hag] at hr; cases hr
  | some ag =>
  cases hsz : I.size t with
  | none => rw [hag, hsz] at hr; cases ag <;> cases hr
  | some n =>
  rw [hag, hsz] at hr
  cases u with
  | ptr k off =>
    obtain ⟨b, hb, e⟩ := ptr_inv hu
    cases ag with
    | true =>
      cases v with
      | agg vs =>
        simp only at hr
        split at hr
        · rename_i hvs
          obtain ⟨hlen, hall⟩ := hvs
          obtain ⟨hc, hr⟩ := checkV_run n off hr
          simp only [M.run, Option.some.injEq, Prod.mk.injEq, true_and] at hr
          subst hr
          generalize hcx : a.eval x = c at hv
          cases hv with
          | agg _ _ cs hl hf hcs =>
            have hcells : ∀ j, j < n → ∃ c, w.cell? (pl b (off + j)) = some c ∧ w.frozen? (pl b (off + j)) = false ∧ ∃ l, σ.cells k = some l ∧ off + j < l.length := by
              intro j hj
              obtain ⟨v, hv⟩ := hc j hj
              obtain ⟨c, q1, _, _, q2, l, q3, q4⟩ := cell_box h hv hb (ptr_key hu)
              exact ⟨c, q1, q2, l, q3, q4⟩
            have hone : cs.all (·.oneCell') = true := by
              rw [Array.all_eq_true]
              intro i hi
              have hv : vs[i]? = some vs[i] := List.getElem?_eq_getElem (by omega)
              exact (oneC_cells (cellP_oneC (hcs i vs[i] cs[i] hv (Array.getElem?_eq_getElem hi)) (List.all_eq_true.1 hall _ (List.getElem_mem _))).2).2
            obtain ⟨inf, hinf, hin⟩ := hok.size hsz
            have hst := run_storeVar_mid (P := P) w b off t cs (fun j hj => by
              obtain ⟨c, q1, q2, _⟩ := hcells j (by omega)
              exact ⟨by rw [q1]; rfl, q2⟩) (by rw [hinf]; simp [hin]; omega) hone
            refine up_skip (storeAt_run ho e (by rw [hcx]; exact hst)) ?_
            rw [hdn]
            by_cases hn0 : n = 0
            · have hvs : vs = [] := List.eq_nil_of_length_eq_zero (by omega)
              have hcs0 : cs.toList = [] := List.eq_nil_of_length_eq_zero (by simp only [Array.length_toList]; omega)
              rw [hcs0]
              exact hn g a w (by rw [hvs]; exact h)
            · obtain ⟨c, _, _, l, q3, q4⟩ := hcells (n - 1) (by omega)
              exact hn g a _ (h.setCells hb (ptr_key hu) vs cs.toList off (by simp; omega) ⟨l, q3, by omega⟩ (fun i v c hv hc => ⟨cellOkP_cellP (List.all_eq_true.1 hall v (List.mem_of_getElem? hv)), hcs i v c hv (by simpa using hc)⟩))
        · cases hr
      | _ => cases hr
    | false =>
      cases n with
      | zero => cases hr
      | succ n =>
      cases n with
      | succ => cases hr
      | zero =>
      simp only at hr
      split at hr
      · rename_i hck
        simp only [M.run] at hr
        cases hold : σ.cell k off with
        | none => rw [hold] at hr; cases hr
        | some old =>
        rw [hold] at hr
        simp only [Option.some.injEq, Prod.mk.injEq, true_and] at hr
        subst hr
        obtain ⟨c', q1, _, _, q2, l, q3, q4⟩ := cell_box h hold hb (ptr_key hu)
        obtain ⟨hfl, h1⟩ := cellP_oneC hv hck
        obtain ⟨g', h'⟩ := h.goesCell hv hx hp hfl q3 hb q4 (ptr_key hu)
        refine up_skip (storeAt_run ho e (storeVar_one hok hsz q1 q2 h1)) ?_
        rw [hdn]
        exact hn g' a _ h'
      · cases hr
  | mptr tt ct i j =>
    obtain ⟨b, n', hb, hnn, hi, e⟩ := mptr_inv hu
    cases ag with
    | true => cases v <;> cases hr
    | false =>
    match n, hsz, hr with
    | 0, _, hr => cases hr
    | _ + 2, _, hr => cases hr
    | 1, hsz, hr =>
    simp only [M.run] at hr
    cases hcs : σ.cells (.mp tt) with
    | none => rw [hcs] at hr; cases hr
    | some cs =>
    rw [hcs] at hr
    simp only at hr
    split at hr
    case h_2 => cases hr
    rename_i c' xs u'
    split at hr
    case isFalse => cases hr
    rename_i hsame
    obtain rfl := sameCTs_eq _ _ hsame
    split at hr
    case h_2 => cases hr
    rename_i ctj hctj
    split at hr
    case h_2 => cases hr
    rename_i d htell
    simp only [M.run, Option.some.injEq, Prod.mk.injEq, true_and] at hr
    subst hr
    obtain ⟨cur, e0, p1, p2, p3, p4, p5, p6⟩ := ms_box h hcs hb hnn
    have hi' : i < xs.length := by omega
    have hj : j < ct.length := (List.getElem?_eq_some_iff.1 hctj).1
    have hlt := row_lt hi' hj p4
    have hdr := tell_rel htell hv
    have h1 : oneC (a.eval x) = true := by
      generalize a.eval x = z at hdr
      cases hdr <;> rfl
    have hc0 : w.cell? (pl b (i * ct.length + j)) = some cur[i * ct.length + j] := by simp only [World.cell?, p1]; simp [Array.getElem?_eq_getElem hlt]
    have hfz : w.frozen? (pl b (i * ct.length + j)) = false := by have := p5.at _ hlt; simpa [World.frozen?, p1] using this
    refine up_skip (storeAt_run ho e (storeVar_one hok hsz hc0 hfz h1)) ?_
    rw [hdn]
    have hne : ∀ b', b' ≠ b → (w.setCell (pl b (i * ct.length + j)) (a.eval x)).heap[b']? = w.heap[b']? := fun b' hb' => by rw [setCell_heap, if_neg (fun e => hb' e.symm)]
    have hself : (w.setCell (pl b (i * ct.length + j)) (a.eval x)).heap[b]? = some (.cells (cur.setIfInBounds (i * ct.length + j) (a.eval x)) e0.1 e0.2) := by rw [setCell_heap, if_pos rfl, p1]; rfl
    refine hn g a _ (h.setObj (w' := w.setCell (pl b (i * ct.length + j)) (a.eval x)) p2 hb rfl rfl rfl (by simp [World.setCell]) hne _ fun hst => .ofMap rfl ⟨b, _, hb, p2, hself, .inr (.inr ⟨ct, _, _, e0, u', rfl, rfl, ?_, ?_, ?_, ?_⟩)⟩)
    · exact ⟨_, hnn, by rw [List.length_set, p3.1], by simpa using p3.2⟩
    · simpa using p4
    · simpa using p5
    · intro i1 j1 ct1 hi1 hj1
      rw [List.length_set] at hi1
      have hj1' : j1 < ct.length := (List.getElem?_eq_some_iff.1 hj1).1
      by_cases e1 : i1 = i ∧ j1 = j
      · obtain ⟨rfl, rfl⟩ := e1
        rw [hctj] at hj1
        cases hj1
        refine ⟨a.eval x, by rw [Array.getElem?_setIfInBounds_self, if_pos hlt], ?_⟩
        have : ((xs.set i1 (putD ct.length j1 d (xs.getD i1 []))).getD i1 []).getD j1 default = d := by
          rw [List.getD_eq_getElem?_getD (l := xs.set _ _), List.getElem?_set_self hi1, Option.getD_some, putD_get _ _ _ _ _ hj1', if_pos rfl]
        rw [this]
        exact hdr.mono hst
      · obtain ⟨v, z1, z2⟩ := p6 i1 j1 ct1 hi1 hj1
        refine ⟨v, ?_, ?_⟩
        · rw [Array.getElem?_setIfInBounds_ne]
          · exact z1
          · intro e2
            apply e1
            rcases Nat.lt_trichotomy i i1 with q | q | q
            · have := Nat.mul_le_mul_right ct.length (show i + 1 ≤ i1 from q)
              rw [Nat.add_mul] at this; omega
            · subst q; exact ⟨rfl, by omega⟩
            · have := Nat.mul_le_mul_right ct.length (show i1 + 1 ≤ i from q)
              rw [Nat.add_mul] at this; omega
        · have : ((xs.set i (putD ct.length j d (xs.getD i []))).getD i1 []).getD j1 default = (xs.getD i1 []).getD j1 default := by
            by_cases e2 : i = i1
            · subst e2
              rw [List.getD_eq_getElem?_getD (l := xs.set _ _), List.getElem?_set_self hi1, Option.getD_some, putD_get _ _ _ _ _ hj1', if_neg (fun e3 => e1 ⟨rfl, e3⟩)]
            · rw [List.getD_eq_getElem?_getD (l := xs.set _ _), List.getElem?_set_ne e2, ← List.getD_eq_getElem?_getD]
          rw [this]
          exact z2.mono hst
  | _ => split at hr <;> first | (simp_all; done) | cases hr

theorem zero_run {t : TypeId} (hok : InfoOk P I) {zs : List V} (hz : I.zero t = some zs) (w : World) : ∃ z, (zeroValue t).run P w = .ok z w ∧ zs = z.cells.toList.map V.val := by
  obtain ⟨i, z, h1, h2, h3⟩ := hok.zero hz
  exact ⟨z, by simp [zeroValue, info_run h1, h2], h3⟩
theorem op_alloc {t : TypeId} (ho : o.op = .alloc t) (hok : InfoOk P I) (h : Rep g0 w0 g w σ a N) (hd : ∀ t, o.dst = some t → t < N) (hr : (opM I ops o).run σ = some (true, ws)) (hn : ∀ g' a' w', Rep g0 w0 g' w' (σ.puts ws) a' N → next a' w') : o.wp P a w next Q := by
  unfold opM at hr
  rw [ho] at hr
  simp only at hr
  cases hdd : o.dst with
  | none => rw [hdd] at hr; cases hr
  | some d =>
  cases hz : I.zero t with
  | none => rw [hdd, hz] at hr; cases hr
  | some zs =>
  rw [hdd, hz] at hr
  simp only [M.run] at hr
  cases hc : σ.cells (.loc d) with
  | some => rw [hc] at hr; cases hr
  | none =>
  rw [hc] at hr
  simp only [Option.some.injEq, Prod.mk.injEq, true_and] at hr
  subst hr
  obtain ⟨z, hzr, hzs⟩ := zero_run hok hz w
  have hrun : (execOp a.eval o).run P w = .ok (.value (.pointer (some (pl w.heap.size 0)))) (w.alloc (.cells z.cells t)) := by
    refine sem_run (s := Instr.alloc t true (.tuple #[])) (by simp only [execOp, ho]; rfl) ?_
    simp [Instr.alloc, hzr, newVar, newRow, newObj, Sem.run]
  refine up_value hrun ?_
  have h1 := h.newBox hc zs z.cells t (by rw [hzs]; simp) (fun i v hv => by
      rw [hzs] at hv
      simp only [List.getElem?_map, Option.map_eq_some_iff] at hv
      obtain ⟨u, _, rfl⟩ := hv
      trivial) id (fun r hr => hr) (fun u v _ => by cases v <;> first | rfl | exact trivial | exact fun i u _ => .inr rfl) (fun k cs o v _ _ => by cases v <;> first | rfl | exact trivial | exact fun i u _ => .inr rfl) (fun i v c hv hcc => by
      rw [hzs] at hv
      simp only [List.getElem?_map, Array.getElem?_toList, hcc, Option.map_some, Option.some.injEq] at hv
      subst hv
      exact .val _ _)
  have h2 := h1.putTmp (d := d) (v := .ptr (.loc d) 0) (c := .pointer (some (pl w.heap.size 0))) (hd d hdd) (.ptr _ _ _ _ (by simp [Gh.setAt]) rfl)
  rw [hdd]
  exact hn _ _ _ h2
theorem okFor_id (s : Slot) (v : V) : okFor id s v := by cases v <;> first | rfl | exact trivial | exact fun i u _ => .inr rfl
theorem op_box {t : TypeId} {x : Operand} (ho : o.op = .box t x) (hok : InfoOk P I) (h : Rep g0 w0 g w σ a N) (hd : ∀ t, o.dst = some t → t < N) (hr : (opM I ops o).run σ = some (true, ws)) (hn : ∀ g' a' w', Rep g0 w0 g' w' (σ.puts ws) a' N → next a' w') : o.wp P a w next Q := by
  unfold opM at hr
  rw [ho] at hr
  obtain ⟨v, hr1, hv, hx, hp⟩ := opd_sound h hr
  clear hr
  cases hdd : o.dst with
  | none => rw [hdd] at hr1; cases hr1
  | some d =>
  rw [hdd] at hr1
  have hrun : (execOp a.eval o).run P w = .ok (.value (.pointer (some (pl w.heap.size 0)))) (w.alloc (.cells (a.eval x).cells t)) := by
    refine sem_run (s := Instr.box t (a.eval x)) (by simp only [execOp, ho]; rfl) ?_
    simp [Instr.box, newVar, newRow, newObj, Sem.run]
  cases hag : isAggT I t with
  | none => rw [hag] at hr1; cases hr1
  | some ag =>
  rw [hag] at hr1
  cases ag with
  | true =>
    cases v with
    | agg vs =>
      simp only at hr1
      split at hr1
      · rename_i hvs
        simp only [M.run] at hr1
        cases hc : σ.cells (.loc d) with
        | some => rw [hc] at hr1; cases hr1
        | none =>
        rw [hc] at hr1
        simp only [Option.some.injEq, Prod.mk.injEq, true_and] at hr1
        subst hr1
        generalize hcx : a.eval x = c at hv hrun
        cases hv with
        | agg _ _ cs hl hf hcs =>
          refine up_value hrun ?_
          have hf : ∀ (i : Nat) (v : V), vs[i]? = some v → v.cellP := fun i v hv => cellOkP_cellP (List.all_eq_true.1 hvs.2 v (List.mem_of_getElem? hv))
          have h1 := h.newBox hc (vs.map V.view) cs t (by simp; omega) (fun i v hv => by
              simp only [List.getElem?_map, Option.map_eq_some_iff] at hv
              obtain ⟨u, hu, rfl⟩ := hv
              have := hf i u hu
              cases u <;> first | trivial | exact this) id (fun r hr => hr) (fun u v _ => okFor_id _ _) (fun k cs o v _ _ => okFor_id _ _) (fun i v c hv hcc => by
              simp only [List.getElem?_map, Option.map_eq_some_iff] at hv
              obtain ⟨u, hu, rfl⟩ := hv
              have := (hcs i u c hu hcc).viewed (s' := .cell (.loc d) i) (by rintro _ rfl; exact hf i _ hu)
              have hpl : u.view.plain := by have := hf i u hu; cases u <;> first | trivial | exact this
              exact this.plain_ren _ hpl h.nones)
          have h2 := h1.putTmp (d := d) (v := .ptr (.loc d) 0) (c := .pointer (some (pl w.heap.size 0))) (hd d hdd) (.ptr _ _ _ _ (by simp [Gh.setAt]) rfl)
          rw [hdd]
          exact hn _ _ _ h2
      · cases hr1
    | _ => cases hr1
  | false =>
    simp only at hr1
    split at hr1
    · rename_i hck
      simp only [M.run] at hr1
      cases hc : σ.cells (.loc d) with
      | some => rw [hc] at hr1; cases hr1
      | none =>
      rw [hc] at hr1
      simp only [Option.some.injEq, Prod.mk.injEq, true_and] at hr1
      subst hr1
      obtain ⟨hfl, h1c⟩ := cellP_oneC hv hck
      rw [(oneC_cells h1c).1] at hrun
      refine up_value hrun ?_
      have key : ∃ g', Rep g0 w0 g' (w.alloc (.cells #[a.eval x] t)) ((σ.puts (gone x v)).put (.box (.loc d) [v])) a N ∧ g'.at_ (.loc d) = some w.heap.size := by
        by_cases hpl : v.plain
        · have : gone x v = [] := by cases x <;> cases v <;> first | rfl | exact hpl.elim
          rw [this]
          exact ⟨_, h.newBox hc [v] #[a.eval x] t rfl (fun i u hu => by cases i with | zero => simp at hu; subst hu; exact hfl | succ i => simp at hu) id (fun r hr => hr) (fun u v _ => okFor_id _ _) (fun k cs o v _ _ => okFor_id _ _) (fun i u c hu hcc => by
            cases i with
            | zero => simp at hu hcc; subst hu; subst hcc; exact (hv.slot hpl).plain_ren _ hpl h.nones
            | succ i => simp at hu), by simp [Gh.setAt]⟩
        · cases x with
          | tmp s =>
            have hs := hx s rfl
            cases v with
            | own ct xs =>
              have h1 := h.viewTmp hs (v' := .arr ct xs) (fun c hc => hc.view)
              refine ⟨_, h1.newBox (t := d) (by simpa using hc) [.own ct xs] #[a.eval (.tmp s)] t rfl (fun i u hu => by cases i with | zero => simp at hu; subst hu; exact hfl | succ i => simp at hu) (toSlot (.tmp s) (.cell (.loc d) 0)) (toSlot_none (by simp [Slot.root])) (fun u v hu => ?_) (fun k cs o v _ _ => okFor_ne (by simp) (by simp)) (fun i u c hu hcc => ?_), by simp [Gh.setAt]⟩
              · by_cases e : u = s
                · subst e; simp at hu; subst hu; exact trivial
                · exact okFor_ne (by simpa using e) (by simp)
              · cases i with
                | zero => simp at hu hcc; subst hu; subst hcc; exact hv.own_ren _ (toSlot_self _ _)
                | succ i => simp at hu
            | tup => exact hfl.elim
            | uni => exact hfl.elim
            | _ => exact absurd trivial hpl
          | _ => exact absurd (hp (fun t e => by cases e)) hpl
      obtain ⟨g', h1, hat⟩ := key
      have h2 := h1.putTmp (d := d) (v := .ptr (.loc d) 0) (c := .pointer (some (pl w.heap.size 0))) (hd d hdd) (.ptr _ _ _ _ hat rfl)
      rw [hdd]
      exact hn _ _ _ (by rw [St.puts_append]; exact h2)
    · cases hr1
end
end Go.Proofs.YtacfehneeanlgaaDoor.Ev
namespace Go.Proofs.YtacfehneeanlgaaDoor.Ev
open Go
set_option linter.unusedVariables false
set_option linter.unusedSimpArgs false
section
variable {P : Program} {I : Info} {g0 g : Gh} {w0 w : World} {σ : St} {a : Act} {N : Nat} {o : Oper} {ops : List Oper} {next : Act → World → Prop} {Q : Exit → Act → World → Prop} {ws : List W} {b : Bool}

/-! ### Rows of cells, flat -/
/-- Values that stand, flat, for rows. -/
def RowVals (st : Nat → Nat → Prop) (w : World) (cts : List CT) (xs : List (List D)) (us : List Value) : Prop :=
  us.length = xs.length * cts.length ∧ ∀ i j c, i < xs.length → cts[j]? = some c → ∃ u, us[i * cts.length + j]? = some u ∧ DRel st w c ((xs.getD i []).getD j default) u
theorem RowVals.mono {st st' : Nat → Nat → Prop} {w w' : World} (h : ∀ b o c, st b o → w.cell? (pl b o) = some c → st' b o ∧ w'.cell? (pl b o) = some c) {cts : List CT} {xs : List (List D)} {us : List Value} (hr : RowVals st w cts xs us) : RowVals st' w' cts xs us :=
  ⟨hr.1, fun i j c hi hj => let ⟨u, h1, h2⟩ := hr.2 i j c hi hj; ⟨u, h1, h2.mono h⟩⟩
theorem RowVals.append {st : Nat → Nat → Prop} {w : World} {cts : List CT} {xs ys : List (List D)} {us vs : List Value} (h : RowVals st w cts xs us) (k : RowVals st w cts ys vs) : RowVals st w cts (xs ++ ys) (us ++ vs) := by
  refine ⟨by rw [List.length_append, List.length_append, h.1, k.1, Nat.add_mul], fun i j c hi hj => ?_⟩
  have hjl : j < cts.length := (List.getElem?_eq_some_iff.1 hj).1
  by_cases hlt : i < xs.length
  · obtain ⟨u, h1, h2⟩ := h.2 i j c hlt hj
    refine ⟨u, ?_, ?_⟩
    · rw [List.getElem?_append_left (List.getElem?_eq_some_iff.1 h1).1]; exact h1
    · simpa [List.getD, List.getElem?_append_left hlt] using h2
  · rw [List.length_append] at hi
    obtain ⟨u, h1, h2⟩ := k.2 (i - xs.length) j c (by omega) hj
    refine ⟨u, ?_, ?_⟩
    · rw [List.getElem?_append_right (by rw [h.1]; exact Nat.le_trans (Nat.mul_le_mul_right _ (Nat.le_of_not_lt hlt)) (Nat.le_add_right _ _)), h.1]
      rw [show i * cts.length + j - xs.length * cts.length = (i - xs.length) * cts.length + j by rw [Nat.sub_mul]; have := Nat.mul_le_mul_right cts.length (Nat.le_of_not_lt hlt); omega]
      exact h1
    · simpa [List.getD, List.getElem?_append_right (Nat.le_of_not_lt hlt)] using h2
theorem RowVals.drel {st : Nat → Nat → Prop} {w : World} {cts : List CT} {xs : List (List D)} {us : List Value} (h : RowVals st w cts xs us) {b q cap : Nat} (hn : xs.length ≤ cap) (hm : cap ≤ maxLen) (hc : ∀ p u, us[p]? = some u → st b (q + p) ∧ w.cell? (pl b (q + p)) = some u) :
    DRel st w (.arr cts) (.arr xs) (.slice (some (pl b q)) xs.length cap) := by
  have key : ∀ i j, i < xs.length → j < cts.length → ∃ u, us[i * cts.length + j]? = some u := by
    intro i j hi hj
    obtain ⟨u, h1, _⟩ := h.2 i j _ hi (List.getElem?_eq_getElem hj)
    exact ⟨u, h1⟩
  refine DRel.arr cts (.arr xs) b q cap (fun i j => (us[i * cts.length + j]?).getD undef) hn hm (fun i j hi hj => ?_) (fun i j c hi hj => ?_)
  · obtain ⟨u, hu⟩ := key i j hi hj
    rw [hu, Nat.add_assoc]
    exact hc _ u hu
  · obtain ⟨u, h1, h2⟩ := h.2 i j c hi hj
    rw [h1]
    exact h2
theorem rowVals_of {st : Nat → Nat → Prop} {w : World} {cts : List CT} {xs : List (List D)} {b q cap : Nat} (h : DRel st w (.arr cts) (.arr xs) (.slice (some (pl b q)) xs.length cap)) : ∃ us, RowVals st w cts xs us ∧ ∀ p u, us[p]? = some u → st b (q + p) ∧ w.cell? (pl b (q + p)) = some u := by
  generalize hd : D.arr xs = d at h
  generalize hv : Value.slice (some (pl b q)) xs.length cap = v at h
  cases h with
  | nil _ _ p h3 =>
    subst hd
    have hx : xs = [] := h3
    subst hx
    exact ⟨[], ⟨by simp, fun i j c hi => absurd hi (by simp)⟩, fun p u hp => by simp at hp⟩
  | arr _ _ b' q0 cap' f hn hm hc hd' =>
    simp only [Value.slice.injEq, Option.some.injEq, Addr.mk.injEq, and_true] at hv
    obtain ⟨⟨rfl, rfl⟩, -, rfl⟩ := hv
    subst hd
    have hl : ((List.range (xs.length * cts.length)).map fun p => f (p / cts.length) (p % cts.length)).length = xs.length * cts.length := by simp
    refine ⟨(List.range (xs.length * cts.length)).map fun p => f (p / cts.length) (p % cts.length), ⟨hl, fun i j c hi hj => ?_⟩, fun p u hp => ?_⟩
    · have hjl : j < cts.length := (List.getElem?_eq_some_iff.1 hj).1
      have hlt : i * cts.length + j < xs.length * cts.length := by
        have := Nat.mul_le_mul_right cts.length (show i + 1 ≤ xs.length from hi)
        rw [Nat.add_mul] at this
        omega
      refine ⟨f i j, ?_, hd' i j c hi hj⟩
      rw [List.getElem?_map, List.getElem?_range hlt]
      simp only [Option.map_some]
      rw [Nat.mul_comm, Nat.mul_add_div (by omega), Nat.div_eq_of_lt hjl, Nat.add_zero, Nat.mul_add_mod, Nat.mod_eq_of_lt hjl]
    · obtain ⟨hlt, _⟩ := List.getElem?_eq_some_iff.1 hp
      rw [hl] at hlt
      rw [List.getElem?_map, List.getElem?_range hlt] at hp
      simp only [Option.map_some, Option.some.injEq] at hp
      subst hp
      have h0 : 0 < cts.length := by
        rcases Nat.eq_zero_or_pos cts.length with h0 | h0
        · rw [h0] at hlt; omega
        · exact h0
      have := hc (p / cts.length) (p % cts.length) (Nat.div_lt_of_lt_mul (by rw [Nat.mul_comm]; exact hlt)) (Nat.mod_lt _ h0)
      rw [Nat.add_assoc, Nat.mul_comm, Nat.div_add_mod] at this
      exact this

/-! ### Running append -/
theorem append_room {t e ty t2 : TypeId} {i : TypeInfo} {d2 : TypeDesc} (ht : P.underlying t = some (.slice e)) (hi : P.info? e = some i) (h2 : P.underlying t2 = some d2) (hni : ∀ k, d2 ≠ .int k) {b q n cap m : Nat} {x : Value} {news : List Value} (hl : ∀ w : World, (Builtin.lenOf x).run P w = .ok m w)
    (hf : (Builtin.firstCells i.size m x).run P w = .ok news.toArray w) (hroom : n + m ≤ cap) {w' : World} (hst : (storeCells (pl b (q + n * i.size)) news).run P w = .ok () w') :
    (Builtin.append_ #[t, t2] ty #[.slice (some (pl b q)) n cap, x]).run P w = .ok (.slice (some (pl b q)) (n + m) cap) w' := by
  have hd : (match d2 with | .int _ => true | _ => false) = false := by cases d2 <;> first | rfl | exact absurd rfl (hni _)
  simp [Builtin.append_, und_run ht, und_run h2, size_run hi, hl, hf, hroom, pl_add]
  cases d2 <;> first | (simp [hl, hf, hroom, pl_add, hst]; done) | exact absurd rfl (hni _)
theorem append_none {t e ty t2 : TypeId} {i : TypeInfo} {d2 : TypeDesc} (ht : P.underlying t = some (.slice e)) (hi : P.info? e = some i) (h2 : P.underlying t2 = some d2) (hni : ∀ k, d2 ≠ .int k) {x : Value} (hl : ∀ w : World, (Builtin.lenOf x).run P w = .ok 0 w)
    (hf : (Builtin.firstCells i.size 0 x).run P w = .ok #[] w) (p : Option Addr) : (Builtin.append_ #[t, t2] ty #[.slice p 0 0, x]).run P w = .ok (.slice p 0 0) w := by
  cases p with
  | none =>
    simp [Builtin.append_, und_run ht, und_run h2, size_run hi]
    cases d2 <;> first | (simp [hl, hf]; done) | exact absurd rfl (hni _)
  | some q =>
    simp [Builtin.append_, und_run ht, und_run h2, size_run hi]
    cases d2 <;> first | (simp [hl, hf, storeCells]; done) | exact absurd rfl (hni _)
theorem append_grow {t e ty t2 : TypeId} {i : TypeInfo} {z : Value} {d2 : TypeDesc} (ht : P.underlying t = some (.slice e)) (hi : P.info? e = some i) (hz : i.zero = some z) (h2 : P.underlying t2 = some d2) (hni : ∀ k, d2 ≠ .int k) {base : Option Addr} {n cap m : Nat} {x : Value} {olds news : List Value} (hl : ∀ w : World, (Builtin.lenOf x).run P w = .ok m w)
    (hfo : (Builtin.firstCells i.size n (.slice base n cap)).run P w.drew = .ok olds.toArray w.drew) (hf : (Builtin.firstCells i.size m x).run P w.drew = .ok news.toArray w.drew) (hg : cap < n + m) (h63 : ((n + m : Nat) : Int) ≤ 9223372036854775807) (hfit : Builtin.nextslicecap (n + m) cap * i.bytes ≤ 281474976710656) :
    (Builtin.append_ #[t, t2] ty #[.slice base n cap, x]).run P w = .ok (.slice (some (pl w.heap.size 0)) (n + m) (grownCap w (n + m) cap e)) (w.drew.alloc (.cells (olds.toArray ++ news.toArray ++ Builtin.zeroCells z.cells (grownCap w (n + m) cap e - (n + m))) e)) := by
  have hn : ¬ (n + m ≤ cap) := by omega
  have h63' : ¬ (9223372036854775807 < ((n : Int) + (m : Int))) := by omega
  have h48' : ¬ (281474976710656 < Builtin.nextslicecap (n + m) cap * i.bytes) := by omega
  simp [Builtin.append_, und_run ht, und_run h2, size_run hi]
  cases d2 <;> first
    | (simp [hl, hn, h63', h48', Question.forced, hf, hfo, newRow, grownCap, typeInfo, zeroValue, hi, hz]
       congr 2
       apply Array.ext'
       simp [List.append_assoc]
       done)
    | exact absurd rfl (hni _)

/-! ### The world behind -/
theorem setCells_heap (b : Nat) : ∀ (vs : List Value) (q : Nat) (w : World) (b' : Nat), b' ≠ b → (w.setCells b q vs).heap[b']? = w.heap[b']?
  | [], _, _, _, _ => rfl
  | v :: vs, q, w, b', h => by rw [World.setCells, setCells_heap b vs _ _ b' h, setCell_heap, if_neg (fun e => h e.symm)]
theorem setCells_block (b : Nat) (e : TypeId) (fz : Nat × Nat) : ∀ (vs : List Value) (q : Nat) (w : World) (cur : Array Value), w.heap[b]? = some (.cells cur e fz) → q + vs.length ≤ cur.size →
    ∃ cur', (w.setCells b q vs).heap[b]? = some (.cells cur' e fz) ∧ cur'.size = cur.size ∧ (∀ p, p < q → cur'[p]? = cur[p]?) ∧ (∀ p u, vs[p]? = some u → cur'[q + p]? = some u) ∧ (∀ p, q + vs.length ≤ p → cur'[p]? = cur[p]?)
  | [], q, w, cur, h, _ => ⟨cur, h, rfl, fun _ _ => rfl, fun p u hu => by simp at hu, fun _ _ => rfl⟩
  | v :: vs, q, w, cur, h, hl => by
    simp only [List.length_cons] at hl
    obtain ⟨cur', h1, h2, h3, h4, h5⟩ := setCells_block b e fz vs (q + 1) (w.setCell (pl b q) v) (cur.setIfInBounds q v) (by rw [setCell_heap, if_pos rfl, h]; rfl) (by simp; omega)
    refine ⟨cur', h1, by rw [h2]; simp, fun p hp => ?_, fun p u hu => ?_, fun p hp => ?_⟩
    · rw [h3 p (by omega), Array.getElem?_setIfInBounds_ne (by omega)]
    · cases p with
      | zero =>
        simp at hu
        subst hu
        rw [h3 (q + 0) (by omega), Nat.add_zero, Array.getElem?_setIfInBounds_self, if_pos (by omega)]
      | succ p =>
        have := h4 p u (by simpa using hu)
        rw [show q + (p + 1) = q + 1 + p by omega]
        exact this
    · simp only [List.length_cons] at hp
      rw [h5 p (by omega), Array.getElem?_setIfInBounds_ne (by omega)]
theorem setCells_same (b : Nat) : ∀ (vs : List Value) (q : Nat) (w : World), (w.setCells b q vs).os = w.os ∧ (w.setCells b q vs).tape = w.tape ∧ (w.setCells b q vs).output = w.output ∧ (w.setCells b q vs).heap.size = w.heap.size
  | [], _, _ => ⟨rfl, rfl, rfl, rfl⟩
  | v :: vs, q, w => by
    obtain ⟨h1, h2, h3, h4⟩ := setCells_same b vs (q + 1) (w.setCell (pl b q) v)
    exact ⟨h1, h2, h3, by rw [World.setCells, h4]; simp [World.setCell]⟩
theorem Rep.extend (h : Rep g0 w0 g w σ a N) {s d b L L' : Nat} {cur : Array Value} {e : TypeId} {fz : Nat × Nat} {vs : List Value} (ho : g.own b = .arr (.tmp s) L) (hb : w.heap[b]? = some (.cells cur e fz)) (hL : L + vs.length ≤ cur.size) (hLL : L ≤ L') (hs : ∀ u, σ.tmp s = some u → u.plain) :
    Rep g0 w0 (g.set b (.arr (.tmp d) L')) (w.setCells b L vs) σ a N ∧ (∀ b' o c, g.stable b' o → w.cell? (pl b' o) = some c → (g.set b (.arr (.tmp d) L')).stable b' o ∧ (w.setCells b L vs).cell? (pl b' o) = some c) := by
  obtain ⟨cur', hc1, hc2, hc3, hc4, hc5⟩ := setCells_block b e fz vs L w cur hb hL
  obtain ⟨s1, s2, s3, s4⟩ := setCells_same b vs L w
  refine h.change ho s1 s2 s3 s4 (fun b' hb' => setCells_heap b vs L w b' hb') (fun o c h1' h2 => ?_) hLL hs
  simp only [World.cell?, hb] at h2
  simp only [World.cell?, hc1]
  rw [← h2]
  simpa using hc3 o h1'
end
end Go.Proofs.YtacfehneeanlgaaDoor.Ev
