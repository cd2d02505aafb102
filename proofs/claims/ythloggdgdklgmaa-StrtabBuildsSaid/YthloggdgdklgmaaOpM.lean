/- What the evaluator's operations write stands for what the model's operations leave: maps, slices that are made. -/
import Derived.Test.YthloggdgdklgmaaOpC
import Derived.MapKept
namespace Go.Proofs.Ythloggdgdklgmaa.Ev
open Go
set_option linter.unusedVariables false
set_option linter.unusedSimpArgs false
section
variable {P : Program} {I : Info} {g0 g : Gh} {w0 w : World} {σ : St} {a : Act} {N : Nat} {o : Oper} {ops : List Oper} {next : Act → World → Prop} {Q : Exit → Act → World → Prop} {ws : List W} {b : Bool}

theorem op_makeMap {t : TypeId} {r : Option Operand} (ho : o.op = .makeMap t r) (hok : InfoOk P I) (h : Rep g0 w0 g w σ a N) (hd : ∀ t, o.dst = some t → t < N) (hr : (opM I ops o).run σ = some (true, ws)) (hn : ∀ g' a' w', Rep g0 w0 g' w' (σ.puts ws) a' N → next a' w') : o.wp P a w next Q := by
  unfold opM at hr
  rw [ho] at hr
  cases r with
  | some r => cases hr
  | none =>
  simp only at hr
  split at hr
  case h_2 => cases hr
  rename_i kt et d ht hdd
  split at hr
  case h_2 => cases hr
  rename_i kc vc hkc hvc
  simp only [M.run] at hr
  cases hc : σ.cells (.mp d) with
  | some => rw [hc] at hr; cases hr
  | none =>
  rw [hc] at hr
  simp only [Option.some.injEq, Prod.mk.injEq, true_and] at hr
  subst hr
  have hrun : (execOp a.eval o).run P w = .ok (.value (.map (some w.heap.size))) (w.alloc (.map #[] 0)) := by
    refine sem_run (s := Instr.makeMap t none) (by simp only [execOp, ho]; rfl) ?_
    simp [Instr.makeMap]
  refine up_value hrun ?_
  have h1 := h.newKey (k0 := .mp d) (by simp) hc [.arr [kc, vc] []] (.map #[] 0) id (fun r hr => hr) (fun u v _ => by cases v <;> first | rfl | exact trivial | exact fun i u _ => .inr rfl) (fun k cs o v _ _ => by cases v <;> first | rfl | exact trivial | exact fun i u _ => .inr rfl)
    (fun _ => .ofMap rfl ⟨w.heap.size, _, by simp [Gh.setAt], by simp [Gh.setAt, Gh.set], heap_push_new w _, .inl ⟨#[], 0, kc, vc, [], rfl, rfl, rfl, fun i e r he => by simp at he⟩⟩)
  have h2 := h1.putTmp (d := d) (v := .mp d false) (c := .map (some w.heap.size)) (hd d hdd) (.mp _ _ _ (by simp [Gh.setAt]) (it := false))
  rw [hdd]
  exact hn _ _ _ h2

/-! ### A map is changed -/
theorem Rep.setObj (h : Rep g0 w0 g w σ a N) {k : Key} {bb : Nat} (ho : g.own bb = .box k) (hat : g.at_ k = some bb) {w' : World} (s1 : w'.os = w.os) (s2 : w'.tape = w.tape) (s3 : w'.output = w.output) (s4 : w'.heap.size = w.heap.size) (hoth : ∀ b', b' ≠ bb → w'.heap[b']? = w.heap[b']?) (cs : List V)
    (hnew : (∀ b o c, g.stable b o → w.cell? (pl b o) = some c → g.stable b o ∧ w'.cell? (pl b o) = some c) → BoxRel g w' k cs) : Rep g0 w0 g w' (σ.put (.box k cs)) a N := by
  have hst : ∀ b o c, g.stable b o → w.cell? (pl b o) = some c → g.stable b o ∧ w'.cell? (pl b o) = some c := by
    intro b o c h1 h2
    have : b ≠ bb := fun e => by subst e; simp only [Gh.stable, ho] at h1; exact h1.elim
    exact ⟨h1, by rw [cell_of_heap (hoth b this)]; exact h2⟩
  have mv : ∀ s v c, VRel g w s v c → VRel g w' s v c := fun s v c hv => h.mono_slot hst (fun _ _ h => h) hv (fun r b l _ h1 => ⟨h1, hoth b (fun e => by subst e; rw [ho] at h1; cases h1)⟩)
  refine ⟨fun t v hv => ?_, fun k' cs' hk => ?_, fun b hb => h.fresh b (by rw [← s4]; exact hb), h.base, ?_, h.defers, h.size, fun k' b hb => ?_, h.nones⟩
  · obtain ⟨c, h1, h2⟩ := h.env t v (by simpa using hv)
    exact ⟨c, h1, mv _ _ _ h2⟩
  · rw [St.cells_put_box] at hk
    by_cases e : k = k'
    · subst e
      simp only [if_true, Option.some.injEq] at hk
      subst hk
      exact hnew hst
    · simp only [e, if_false] at hk
      exact (h.box k' cs' hk).mono hst (fun b h1 h2 => ⟨h1, h2, hoth b (fun e' => by subst e'; rw [ho] at h2; cases h2; exact e rfl)⟩) (fun i v c _ _ hv => mv _ _ _ hv)
  · refine h.evol.trans h.base ⟨s1, s2, s3, by rw [s4]; exact Nat.le_refl _, fun b _ h1 => ⟨hoth b (fun e => by subst e; rw [ho] at h1; cases h1), h1⟩, fun b l h1 => ⟨hoth b (fun e => by subst e; rw [ho] at h1; cases h1), h1⟩, fun b s l h1 => ⟨fun q c _ hq => ?_, .inr ⟨s, l, h1, Nat.le_refl _⟩⟩, fun _ _ h => h, fun _ _ h => h⟩
    rw [cell_of_heap (hoth b (fun e => by subst e; rw [ho] at h1; cases h1))]
    exact hq
  · rw [St.cells_put_box]
    by_cases e : k = k'
    · exact ⟨cs, by rw [if_pos e]⟩
    · rw [if_neg e]; exact h.live k' b hb

theorem ba_beq (s t : ByteArray) : (s == t) = true ↔ s = t := by
  have : (s == t) = (s.data == t.data) := by cases s; cases t; rfl
  rw [this, beq_iff_eq]
  exact ⟨fun h => by cases s; cases t; simp_all, fun h => by rw [h]⟩
theorem keyFits_is {d : TypeDesc} {kc : CT} {kv : Value} (h : keyFits (some d) kc kv = true) : MapKept.IsKey d kv := by
  unfold keyFits at h
  split at h
  · rename_i k k' k'' n e
    cases e
    simp only [Bool.and_eq_true, decide_eq_true_eq] at h
    exact h.2
  · rename_i e; cases e; trivial
  · cases h
theorem keyNow {st : Nat → Nat → Prop} {d : TypeDesc} {kc : CT} {kv : Value} (h : keyFits (some d) kc kv = true) {dd : D} {c : Value} (hd : DRel st w kc dd c) : Instr.sameNow d kv c = some (keyIs kc kv dd) ∧ (keyIs kc kv dd = true → c = kv) := by
  unfold keyFits at h
  split at h
  · rename_i k k' k'' n e
    cases e
    simp only [Bool.and_eq_true, decide_eq_true_eq] at h
    obtain ⟨rfl, rfl⟩ := h
    cases hd
    refine ⟨by simp [Instr.sameNow, keyIs], fun h => ?_⟩
    simp only [keyIs, beq_iff_eq] at h
    rw [h]
  · rename_i e
    cases e
    cases hd
    refine ⟨by simp [Instr.sameNow, keyIs], fun h => ?_⟩
    simp only [keyIs, ba_beq] at h
    rw [h]
  · cases h
theorem findNow_rel {st : Nat → Nat → Prop} {d : TypeDesc} {kc : CT} {kv : Value} (h : keyFits (some d) kc kv = true) (n : List D) : ∀ (es : List MapEntry) (rows : List (List D)) (i0 : Nat), es.length = rows.length → (∀ (i : Nat) (e : MapEntry) (r : List D), es[i]? = some e → rows[i]? = some r → DRel st w kc (r.getD 0 default) e.key) →
    (findRow kc kv rows = none ∧ Instr.findNow d kv es i0 = some none ∧ setRow kc kv n rows = rows ++ [n]) ∨ ∃ i e r, es[i]? = some e ∧ rows[i]? = some r ∧ findRow kc kv rows = some r ∧ Instr.findNow d kv es i0 = some (some (i0 + i, e.val)) ∧ e.key = kv ∧ setRow kc kv n rows = rows.set i n
  | [], [], i0, _, _ => .inl ⟨rfl, rfl, rfl⟩
  | [], _ :: _, _, hl, _ => by cases hl
  | _ :: _, [], _, hl, _ => by cases hl
  | e :: es, r :: rows, i0, hl, hr => by
    obtain ⟨h1, h2⟩ := keyNow h (hr 0 e r rfl rfl)
    simp only [findRow, Instr.findNow, h1, setRow]
    cases hk : keyIs kc kv (r.getD 0 default) with
    | true => exact .inr ⟨0, e, r, rfl, rfl, by simp, by simp, h2 hk, by simp⟩
    | false =>
      rcases findNow_rel h n es rows (i0 + 1) (by simpa using hl) (fun i e r he hr' => hr (i + 1) e r (by simpa using he) (by simpa using hr')) with ⟨q1, q2, q3⟩ | ⟨i, e', r', q1, q2, q3, q4, q5, q6⟩
      · exact .inl ⟨by simpa using q1, by simpa using q2, by simp [q3]⟩
      · exact .inr ⟨i + 1, e', r', by simpa using q1, by simpa using q2, by simpa using q3, by simp only [q4]; congr 3; omega, q5, by simp [q6]⟩
theorem sameBits_key {d : TypeDesc} {kv : Value} (h : MapKept.IsKey d kv) (n : Nat) : Instr.sameBits n kv kv = true := by
  cases d <;> cases kv <;> first | exact h.elim | (cases n <;> simp [Instr.sameBits, (ba_beq _ _).2 rfl])

theorem op_upd {t : TypeId} {m k x : Operand} (ho : o.op = .insert t m k x ∨ o.op = .mapUpdate t m k x) (hdn : o.dst = none) (hok : InfoOk P I) (h : Rep g0 w0 g w σ a N) (hr : (opM I ops o).run σ = some (true, ws)) (hn : ∀ g' a' w', Rep g0 w0 g' w' (σ.puts ws) a' N → next a' w') : o.wp P a w next Q := by
  have hr : (updM I o t m k x).run σ = some (true, ws) := by
    unfold opM at hr
    rcases ho with ho | ho <;> (rw [ho] at hr; exact hr)
  unfold updM at hr
  obtain ⟨mv, hr1, hm, -, -⟩ := opd_sound h hr
  clear hr
  obtain ⟨kv, hr2, hkv, -, -⟩ := opd_sound h hr1
  clear hr1
  obtain ⟨xv, hr, hx, -, -⟩ := opd_sound h hr2
  clear hr2
  split at hr
  case h_2 => cases hr
  rename_i kt et bk kv' ht
  obtain ⟨bb, hat, hme⟩ := mp_inv hm
  have hke := val_inv hkv
  simp only [M.run] at hr
  cases hc : σ.cells (.mp bk) with
  | none => rw [hc] at hr; cases hr
  | some cs =>
  rw [hc] at hr
  simp only at hr
  split at hr
  case h_2 => cases hr
  rename_i kc vc rows
  split at hr
  case h_2 => cases hr
  rename_i kd xd hfit hkd hxd
  simp only [M.run, Option.some.injEq, Prod.mk.injEq, true_and] at hr
  subst hr
  obtain ⟨b1, xo, q1, q2, q3, ⟨es, clock, kc1, vc1, rows1, e1, e0, q4, q5⟩ | ⟨_, _, e1, _⟩⟩ := (h.box _ _ hc).map rfl
  case inr => simp at e1
  subst e0
  simp only [List.cons.injEq, V.arr.injEq, and_true] at e1
  obtain ⟨⟨rfl, rfl⟩, rfl⟩ := e1
  have : b1 = bb := Option.some.inj (q1.symm.trans hat)
  subst this
  obtain ⟨d, hd⟩ : ∃ d, I.und kt = some d := by
    unfold keyFits at hfit
    split at hfit
    · rename_i e; exact ⟨_, e⟩
    · rename_i e; exact ⟨_, e⟩
    · cases hfit
  rw [hd] at hfit
  have hkey := keyFits_is hfit
  have hck : ∀ e, (Instr.checkKey e 10000 kt kv').run P w = .ok () w := fun e => MapKept.run_checkKey (hok.und hd) hkey e 9999
  have hrel := findNow_rel (w := w) (st := g.stable) hfit [kd, xd] es.toList rows 0 (by simpa using q4) (fun i e r he hr' => (q5 i e r (by simpa using he) hr').1)
  have hkd' : DRel g.stable w kc kd kv' := tell_rel (s := .none) hkd (.val _ _)
  have hxd' : DRel g.stable w vc xd (a.eval x) := tell_rel hxd hx
  have hlt : b1 < w.heap.size := heap_lt q3
  have done : ∀ (es' : Array MapEntry) (clock' : Nat), (Instr.mapUpdate t (a.eval m) (a.eval k) (a.eval x)).run P w = .ok () { w with heap := w.heap.setIfInBounds b1 (.map es' clock') } → es'.size = (setRow kc kv' [kd, xd] rows).length →
      (∀ (i : Nat) (e : MapEntry) (r : List D), es'[i]? = some e → (setRow kc kv' [kd, xd] rows)[i]? = some r → DRel g.stable w kc (r.getD 0 default) e.key ∧ DRel g.stable w vc (r.getD 1 default) e.val) → o.wp P a w next Q := by
    intro es' clock' hrun hsz hall
    have hrun' : (execOp a.eval o).run P w = .ok .skip { w with heap := w.heap.setIfInBounds b1 (.map es' clock') } := by
      rcases ho with ho | ho <;> simp only [execOp, ho, Sem.run_bind, hrun, Result.andThen_ok, Sem.run_pure]
    refine up_skip hrun' ?_
    rw [hdn]
    refine hn _ _ _ (h.setObj (w' := { w with heap := w.heap.setIfInBounds b1 (.map es' clock') }) q2 q1 rfl rfl rfl (by simp) (fun b' hb' => by simp [Ne.symm hb']) _ (fun hst => .ofMap rfl ⟨b1, _, q1, q2, by simp only [Array.getElem?_setIfInBounds_self, if_pos hlt], .inl ⟨es', clock', kc, vc, _, rfl, rfl, hsz, fun i e r he hr' => ?_⟩⟩))
    exact ⟨(hall i e r he hr').1.mono hst, (hall i e r he hr').2.mono hst⟩
  rcases hrel with ⟨r1, r2, r3⟩ | ⟨i, e, r, r1, r2, r3, r4, r5, r6⟩
  · refine done (es.push { key := kv', val := a.eval x, born := clock }) (clock + 1) ?_ (by rw [r3]; simp [q4]) ?_
    · rw [hme, hke]
      simp [Instr.mapUpdate, run_underlying (hok.und ht), MapKept.run_getObj_map q3, hck, MapKept.run_findKey (hok.und hd) r2, MapKept.run_setObj_map _ q3, Result.andThen]
    · intro i e r he hr'
      rw [r3] at hr'
      by_cases hi : i < rows.length
      · rw [List.getElem?_append_left hi] at hr'
        rw [Array.getElem?_push_lt (by omega)] at he
        exact q5 i e r (by rw [Array.getElem?_eq_getElem (by omega)]; exact he) hr'
      · have hlt2 := (List.getElem?_eq_some_iff.1 hr').1
        simp at hlt2
        have : i = rows.length := by omega
        subst this
        rw [List.getElem?_append_right (Nat.le_refl _)] at hr'
        simp at hr'
        rw [← q4, Array.getElem?_push_size] at he
        cases he
        subst hr'
        exact ⟨hkd', hxd'⟩
  · have he' : es[i]? = some e := by simpa using r1
    refine done (es.modify i fun e => { e with key := kv', val := a.eval x }) clock ?_ (by rw [r6]; simp [q4]) ?_
    · rw [hme, hke]
      have hkeep : (Instr.keyThatStays kv' kv').run P w = .ok kv' w := by
        simp [Instr.keyThatStays, sameBits_key hkey]
      simp [Instr.mapUpdate, run_underlying (hok.und ht), MapKept.run_getObj_map q3, hck, MapKept.run_findKey (hok.und hd) r4, he', r5, hkeep, MapKept.run_setObj_map _ q3, Result.andThen]
    · intro j e2 r2' he2 hr2
      rw [r6] at hr2
      rw [Array.getElem?_modify] at he2
      by_cases e3 : i = j
      · subst e3
        simp only [if_true, he', Option.map_some, Option.some.injEq] at he2
        subst he2
        rw [List.getElem?_set_self (by have := (List.getElem?_eq_some_iff.1 r2).1; exact this)] at hr2
        cases hr2
        exact ⟨hkd', hxd'⟩
      · simp only [e3, if_false] at he2
        rw [List.getElem?_set_ne e3] at hr2
        exact q5 j e2 r2' he2 hr2

theorem op_lookup {t : TypeId} {m k : Operand} {ok : Bool} (ho : o.op = .lookup t m k ok) (hok : InfoOk P I) (h : Rep g0 w0 g w σ a N) (hd : ∀ t, o.dst = some t → t < N) (hr : (opM I ops o).run σ = some (true, ws)) (hn : ∀ g' a' w', Rep g0 w0 g' w' (σ.puts ws) a' N → next a' w') : o.wp P a w next Q := by
  unfold opM at hr
  rw [ho] at hr
  obtain ⟨mv, hr1, hm, -, -⟩ := opd_sound h hr
  clear hr
  obtain ⟨kv, hr, hkv, -, -⟩ := opd_sound h hr1
  clear hr1
  split at hr
  case h_2 => cases hr
  rename_i kt et bk kv' ht
  obtain ⟨bb, hat, hme⟩ := mp_inv hm
  have hke := val_inv hkv
  simp only [M.run] at hr
  cases hc : σ.cells (.mp bk) with
  | none => rw [hc] at hr; cases hr
  | some cs =>
  rw [hc] at hr
  simp only at hr
  split at hr
  case h_2 => cases hr
  rename_i kc vc rows
  split at hr
  case h_2 => cases hr
  rename_i z hfit hz
  split at hr
  case h_2 => cases hr
  rename_i zd hzd
  obtain ⟨b1, xo, q1, q2, q3, ⟨es, clock, kc1, vc1, rows1, e1, e0, q4, q5⟩ | ⟨_, _, e1, _⟩⟩ := (h.box _ _ hc).map rfl
  case inr => simp at e1
  subst e0
  simp only [List.cons.injEq, V.arr.injEq, and_true] at e1
  obtain ⟨⟨rfl, rfl⟩, rfl⟩ := e1
  have : b1 = bb := Option.some.inj (q1.symm.trans hat)
  subst this
  obtain ⟨d, hdd⟩ : ∃ d, I.und kt = some d := by
    unfold keyFits at hfit
    split at hfit
    · rename_i e; exact ⟨_, e⟩
    · rename_i e; exact ⟨_, e⟩
    · cases hfit
  rw [hdd] at hfit
  have hkey := keyFits_is hfit
  have hck : ∀ e, (Instr.checkKey e 10000 kt kv').run P w = .ok () w := fun e => MapKept.run_checkKey (hok.und hdd) hkey e 9999
  have hrel := findNow_rel (w := w) (st := g.stable) hfit [] es.toList rows 0 (by simpa using q4) (fun i e r he hr' => (q5 i e r (by simpa using he) hr').1)
  have he : execOp a.eval o = (Instr.lookup t (a.eval m) (a.eval k) ok).bind fun v => .pure (.value v) := by simp only [execOp, ho]; rfl
  have fin : ∀ (v : V) (c : Value) (f : Bool), v.flat → v.plain → (∀ s, VRel g w s v c) → (Instr.lookup t (a.eval m) (a.eval k) ok).run P w = .ok (if ok then .tuple #[c, .bool f] else c) w → (M.ret (true, dstW o.dst (if ok = true then V.tup [v, .val (.bool f)] else v)) : Step).run σ = some (true, ws) → o.wp P a w next Q := by
    intro v c f hfl hpl hv hrun hr
    refine op_plain (v := if ok = true then V.tup [v, .val (.bool f)] else v) h hd (sem_run he hrun) (fun s => ?_) hr hn
    cases ok with
    | false => exact hv _
    | true =>
      refine .tup _ _ _ rfl (fun i u hu => ?_) (fun i u c' hu hc' => ?_)
      · match i with
        | 0 => simp at hu; subst hu; cases v <;> first | trivial | exact hfl.elim
        | 1 => simp at hu; subst hu; trivial
        | _ + 2 => simp at hu
      · match i with
        | 0 => simp at hu hc'; subst hu; subst hc'; exact hv _
        | 1 => simp at hu hc'; subst hu; subst hc'; exact .val _ _
        | _ + 2 => simp at hu
  rcases hrel with ⟨r1, r2, -⟩ | ⟨i, e, r, r1, r2, r3, r4, r5, -⟩
  · simp only [lookD, hasD, r1, Option.isSome_none] at hr
    refine fin (vc.force zd) z false ?_ ?_ (fun s => force_rel (tell_rel (s := .none) hzd (.val _ z))) ?_ hr
    · cases vc <;> trivial
    · cases vc <;> trivial
    obtain ⟨zi, hzi, hzz⟩ := hok.zval hz
    have hzr : (zeroValue et).run P w = .ok z w := by simp [zeroValue, info_run hzi, hzz]
    rw [hme, hke]
    cases ok <;> simp [Instr.lookup, run_underlying (hok.und ht), MapKept.run_getObj_map q3, hck, MapKept.run_findKey (hok.und hdd) r2, Result.andThen, hzr]
  · simp only [lookD, hasD, r3, Option.isSome_some] at hr
    have hval := (q5 i e r (by simpa using r1) r2).2
    refine fin _ e.val true ?_ ?_ (fun s => force_rel hval) ?_ hr
    · cases vc <;> trivial
    · cases vc <;> trivial
    · rw [hme, hke]
      cases ok <;> simp [Instr.lookup, run_underlying (hok.und ht), MapKept.run_getObj_map q3, hck, MapKept.run_findKey (hok.und hdd) r4, Result.andThen]

theorem op_makeSlice {t : TypeId} {n c : Operand} (ho : o.op = .makeSlice t n c) (hok : InfoOk P I) (h : Rep g0 w0 g w σ a N) (hd : ∀ t, o.dst = some t → t < N) (hdn : o.dst ≠ none) (hr : (opM I ops o).run σ = some (true, ws)) (hn : ∀ g' a' w', Rep g0 w0 g' w' (σ.puts ws) a' N → next a' w') : o.wp P a w next Q := by
  unfold opM at hr
  rw [ho] at hr
  obtain ⟨nv, hr1, hnv, -, -⟩ := opd_sound h hr
  clear hr
  obtain ⟨cv, hr, hcv, -, -⟩ := opd_sound h hr1
  clear hr1
  split at hr
  case h_2 => cases hr
  rename_i e k1 n1 k2 n2 ht
  have e1 := val_inv hnv
  have e2 := val_inv hcv
  split at hr
  case h_2 => cases hr
  rename_i zs cts bts hz hcts hb
  split at hr
  case isFalse => cases hr
  rename_i hcond
  obtain ⟨rfl, hzl, hpos⟩ := hcond
  split at hr
  case h_2 => cases hr
  rename_i row hrow
  obtain ⟨d, hdd⟩ := Option.ne_none_iff_exists'.1 hdn
  simp only [M.run, Option.some.injEq, Prod.mk.injEq, Bool.and_eq_true, decide_eq_true_eq] at hr
  obtain ⟨⟨⟨h0, hby⟩, hmx⟩, rfl⟩ := hr
  obtain ⟨i1, z, hi, hzi, hzs⟩ := hok.zero hz
  obtain ⟨i2, hi2, hib⟩ := hok.bytes hb
  obtain ⟨i3, hi3, his⟩ := hok.cts hcts
  obtain rfl : i2 = i1 := Option.some.inj (hi2.symm.trans hi)
  obtain rfl : i3 = i2 := Option.some.inj (hi3.symm.trans hi)
  obtain ⟨m, rfl⟩ : ∃ m : Nat, n1 = m := ⟨n1.toNat, by omega⟩
  have hzc : z.cells.size = cts.length := by rw [← hzl, hzs]; simp
  let us : List Value := (List.range (m * cts.length)).map fun p => z.cells.toList.getD (p % cts.length) undef
  have hvals : RowVals g.stable w cts (List.replicate m row) us := by
    refine ⟨by simp [us], fun i j ct hi hj => ?_⟩
    have him : i < m := by simpa using hi
    obtain ⟨v, d', hv, hd', htell⟩ := tellAll_get hrow j ct hj
    have hjl : j < cts.length := (List.getElem?_eq_some_iff.1 hj).1
    rw [hzs] at hv
    simp only [List.getElem?_map, Option.map_eq_some_iff] at hv
    obtain ⟨u, hu, rfl⟩ := hv
    have hlt : i * cts.length + j < m * cts.length := by
      have : (i + 1) * cts.length ≤ m * cts.length := Nat.mul_le_mul_right _ (by omega)
      rw [Nat.add_mul] at this
      omega
    have hmod : (i * cts.length + j) % cts.length = j := by rw [Nat.mul_comm, Nat.mul_add_mod, Nat.mod_eq_of_lt hjl]
    refine ⟨u, ?_, ?_⟩
    · simp only [us, List.getElem?_map, List.getElem?_range hlt, Option.map_some, hmod, List.getD_eq_getElem?_getD, hu, Option.getD_some]
    · have e3 : (List.replicate m row).getD i [] = row := by simp [List.getD_eq_getElem?_getD, him]
      have e4 : row.getD j default = d' := by rw [List.getD_eq_getElem?_getD, hd']; rfl
      rw [e3, e4]
      exact tell_rel (s := .none) htell (.val _ _)
  have hmm : m ≤ maxLen := by simp only [maxLen]; omega
  obtain ⟨g', h4⟩ := h.grown (d := d) (hd d hdd) (e := e) (rest := []) (cap := m) hvals (by simp) hmm (by simp [us])
  have hrun : (execOp a.eval o).run P w = .ok (.value (.slice (some (pl w.heap.size 0)) m m)) (w.alloc (.cells (us ++ []).toArray e)) := by
    refine sem_run (s := Instr.makeSlice t (a.eval n) (a.eval c)) (by simp only [execOp, ho]; rfl) ?_
    rw [e1, e2]
    have wl : IntKind.i64.wrap (m : Int) = m := by rw [IntKind.wrap_i64]; omega
    have n2 : ¬ (281474976710656 < (i3.bytes : Int) * m) := by rw [hib, Int.mul_comm]; omega
    have n1 : ¬ ((m : Int) < 0) := by omega
    have hcells : (Array.range (m * i3.size)).map (fun x => z.cells[x % z.cells.size]!) = us.toArray := by
      apply Array.ext'
      simp only [us, Array.toList_map, Array.toList_range, his]
      apply List.map_congr_left
      intro p hp
      have hlt : p % cts.length < z.cells.size := by rw [hzc]; exact Nat.mod_lt _ hpos
      rw [hzc, getElem!_pos z.cells _ hlt, List.getD_eq_getElem?_getD, Array.getElem?_toList, Array.getElem?_eq_getElem hlt]
      rfl
    have n5 : ¬ (140737488355328 < m * i3.bytes) := by
      rw [hib]
      have : ((m * bts : Nat) : Int) ≤ 140737488351232 := by rw [Int.natCast_mul]; exact hby
      omega
    by_cases hm0 : m = 0
    · subst hm0
      have wl0 : IntKind.i64.wrap 0 = 0 := by simpa using wl
      simp [Instr.makeSlice, und_run (hok.und ht), asInt, asIntOf, typeInfo, hi, sizeOf, wl0, newRow, us, askRoom, roomBytes]
      have : (Array.range 0).map (fun _ : Nat => (default : Value)) = #[] := by apply Array.ext'; simp
      rw [this]
    · have hne : m * i3.size ≠ 0 := by rw [his]; exact Nat.mul_ne_zero hm0 (by omega)
      have hne2 : ¬ (m = 0 ∨ i3.size = 0) := by intro hh; rcases hh with hh | hh <;> simp [hh] at hne
      simp [Instr.makeSlice, und_run (hok.und ht), asInt, asIntOf, typeInfo, hi, sizeOf, zeroValue, hzi, wl, n1, n2, n5, hne, hne2, newRow, askRoom, roomBytes]
      rw [hcells]
  refine up_value hrun ?_
  rw [hdd]
  refine hn g' _ _ ?_
  rw [List.length_replicate] at h4
  simpa [hdd, dstW] using h4

theorem op_range {t : TypeId} {x : Operand} (ho : o.op = .range t x) (hok : InfoOk P I) (h : Rep g0 w0 g w σ a N) (hd : ∀ t, o.dst = some t → t < N) (hr : (opM I ops o).run σ = some (true, ws)) (hn : ∀ g' a' w', Rep g0 w0 g' w' (σ.puts ws) a' N → next a' w') : o.wp P a w next Q := by
  unfold opM at hr
  rw [ho] at hr
  obtain ⟨v, hr1, hv, -, -⟩ := opd_sound h hr
  clear hr
  split at hr1
  case h_2 => cases hr1
  rename_i s d ht hdd
  have e := val_inv hv
  simp only [M.run] at hr1
  cases hc : σ.cells (.mp d) with
  | some => rw [hc] at hr1; cases hr1
  | none =>
  rw [hc] at hr1
  simp only [Option.some.injEq, Prod.mk.injEq, true_and] at hr1
  subst hr1
  have hrun : (execOp a.eval o).run P w = .ok (.value (.pointer (some (pl w.heap.size 0)))) (w.alloc (.stringIter s 0)) := by
    refine sem_run (s := Instr.range t (a.eval x)) (by simp only [execOp, ho]; rfl) ?_
    rw [e]
    simp [Instr.range, und_run (hok.und ht), newObj, Sem.run]
  refine up_value hrun ?_
  have h1 := h.newKey (k0 := .mp d) (by simp) hc [.val (.string s), .val (.int .i64 (0 : Nat))] (.stringIter s 0) id (fun r hr => hr) (fun u v _ => by cases v <;> first | rfl | exact trivial | exact fun i u _ => .inr rfl) (fun k cs o v _ _ => by cases v <;> first | rfl | exact trivial | exact fun i u _ => .inr rfl)
    (fun _ => .ofMap rfl ⟨w.heap.size, _, by simp [Gh.setAt], by simp [Gh.setAt, Gh.set], heap_push_new w _, .inr ⟨s, 0, rfl, rfl⟩⟩)
  have h2 := h1.putTmp (d := d) (v := .mp d true) (c := .pointer (some (pl w.heap.size 0))) (hd d hdd) (.mp _ _ _ (by simp [Gh.setAt]) (it := true))
  rw [hdd]
  exact hn _ _ _ h2
theorem op_next {x : Operand} {isS : Bool} (ho : o.op = .next x isS) (hok : InfoOk P I) (h : Rep g0 w0 g w σ a N) (hd : ∀ t, o.dst = some t → t < N) (hr : (opM I ops o).run σ = some (true, ws)) (hn : ∀ g' a' w', Rep g0 w0 g' w' (σ.puts ws) a' N → next a' w') : o.wp P a w next Q := by
  unfold opM at hr
  rw [ho] at hr
  obtain ⟨v, hr1, hv, -, -⟩ := opd_sound h hr
  clear hr
  split at hr1
  case h_2 => cases hr1
  rename_i bk
  obtain ⟨bb, hat, e⟩ := it_inv hv
  simp only [M.run] at hr1
  cases hc : σ.cells (.mp bk) with
  | none => rw [hc] at hr1; cases hr1
  | some cs =>
  rw [hc] at hr1
  simp only at hr1
  split at hr1
  case h_2 => cases hr1
  rename_i s p
  obtain ⟨b1, xo, q1, q2, q3, ⟨_, _, _, _, _, e1, _⟩ | ⟨s1, p1, e1, e0⟩⟩ := (h.box _ _ hc).map rfl
  case inl => simp at e1
  subst e0
  simp only [List.cons.injEq, V.val.injEq, Value.string.injEq, Value.int.injEq, Int.ofNat.injEq, true_and, and_true] at e1
  obtain ⟨rfl, rfl⟩ := e1
  have : b1 = bb := Option.some.inj (q1.symm.trans hat)
  subst this
  have hlt : b1 < w.heap.size := heap_lt q3
  have hget : (getObj b1).run P w = .ok (.stringIter s p) w := by simp [getObj, Sem.run, q3]
  split at hr1
  · rename_i hp
    simp only [M.run, Option.some.injEq, Prod.mk.injEq, true_and] at hr1
    subst hr1
    have hrun : (execOp a.eval o).run P w = .ok (.value (.tuple #[.bool true, .int .i64 (p : Int), .int .i32 ((Utf8.decode s p).1 : Int)])) { w with heap := w.heap.setIfInBounds b1 (.stringIter s (p + (Utf8.decode s p).2)) } := by
      refine sem_run (s := Instr.next (a.eval x) true o.type) (by simp only [execOp, ho]; rfl) ?_
      rw [e]
      simp [Instr.next, hget, hp, setObj, Sem.run, q3, goInt]
    refine up_value hrun ?_
    have h1 := h.setObj (w' := { w with heap := w.heap.setIfInBounds b1 (.stringIter s (p + (Utf8.decode s p).2)) }) q2 q1 rfl rfl rfl (by simp) (fun b' hb' => by simp [Ne.symm hb']) [.val (.string s), .val (.int .i64 ((p + (Utf8.decode s p).2 : Nat) : Int))]
      (fun _ => .ofMap rfl ⟨b1, _, q1, q2, by simp only [Array.getElem?_setIfInBounds_self, if_pos hlt], .inr ⟨s, _, rfl, rfl⟩⟩)
    refine hn g _ _ ?_
    rw [St.puts_cons]
    refine h1.dst hd fun t => .tup _ _ _ rfl (fun i u hu => ?_) (fun i u c' hu hc' => ?_)
    · match i with
      | 0 => simp at hu; subst hu; trivial
      | 1 => simp at hu; subst hu; trivial
      | 2 => simp at hu; subst hu; trivial
      | _ + 3 => simp at hu
    · match i with
      | 0 => simp at hu hc'; subst hu; subst hc'; exact .val _ _
      | 1 => simp at hu hc'; subst hu; subst hc'; exact .val _ _
      | 2 => simp at hu hc'; subst hu; subst hc'; exact .val _ _
      | _ + 3 => simp at hu
  · rename_i hp
    have hrun : (Instr.next (a.eval x) true o.type).run P w = .ok (.tuple #[.bool false]) w := by
      rw [e]
      simp [Instr.next, hget, hp]
    refine op_plain h hd (sem_run (s := Instr.next (a.eval x) true o.type) (by simp only [execOp, ho]; rfl) hrun) (fun t => .tup _ _ _ rfl (fun i u hu => ?_) (fun i u c' hu hc' => ?_)) hr1 hn
    · match i with
      | 0 => simp at hu; subst hu; trivial
      | _ + 1 => simp at hu
    · match i with
      | 0 => simp at hu hc'; subst hu; subst hc'; exact .val _ _
      | _ + 1 => simp at hu
end
end Go.Proofs.Ythloggdgdklgmaa.Ev
