/- What the evaluator's operations write stands for what the model's operations leave: maps, slices that are made. Every operation that the evaluator carries out is carried out by the model, and what it writes stands for what the model's leaves. -/
import Derived.Test.YtacfehneeanlgaaDoorOpC
import Derived.MapKept
namespace Go.Proofs.YtacfehneeanlgaaDoor.Ev
open Go
set_option linter.unusedVariables false
set_option linter.unusedSimpArgs false
section
variable {P : Program} {I : Info} {g0 g : Gh} {w0 w : World} {σ : St} {a : Act} {N : Nat} {o : Oper} {ops : List Oper} {next : Act → World → Prop} {Q : Exit → Act → World → Prop} {ws : List W} {b : Bool}

theorem op_makeMap {t : TypeId} {r : Option Operand} (ho : o.op = .makeMap t r) (hok : InfoOk P I) (h : Rep g0 w0 g w σ a N) (hd : ∀ t, o.dst = some t → t < N) (hr : (opM I ops o).run σ = some (true, ws)) (hn : ∀ g' a' w', Rep g0 w0 g' w' (σ.puts ws) a' N → next a' w') : o.wp P a w next Q := by
  unfold opM at hr
  rw [ho] at hr
  cases r with
  | some r => cases hr
  | none =>
  simp only at hr
  split at hr
  case h_2 => cases hr
  rename_i kt et d ht hdd
  split at hr
  case h_2 => cases hr
  rename_i kc vc hkc hvc
  simp only [M.run] at hr
  cases hc : σ.cells (.mp d) with
  | some => rw [hc] at hr; cases hr
  | none =>
  rw [hc] at hr
  simp only [Option.some.injEq, Prod.mk.injEq, true_and] at hr
  subst hr
  have hrun : (execOp a.eval o).run P w = .ok (.value (.map (some w.heap.size))) (w.alloc (.map #[] 0)) := by
    refine sem_run (s := Instr.makeMap t none) (by simp only [execOp, ho]; rfl) ?_
    simp [Instr.makeMap]
  refine up_value hrun ?_
  have h1 := h.newKey (k0 := .mp d) (by simp) rfl hc [.arr [kc, vc] []] (.map #[] 0) id (fun r hr => hr) (fun u v _ => by cases v <;> first | rfl | exact trivial | exact fun i u _ => .inr rfl) (fun k cs o v _ _ => by cases v <;> first | rfl | exact trivial | exact fun i u _ => .inr rfl)
    (fun _ => .ofMap rfl ⟨w.heap.size, _, by simp [Gh.setAt], by simp [Gh.setAt, Gh.set], heap_push_new w _, .inl ⟨#[], 0, kc, vc, [], rfl, rfl, rfl, fun i e r he => by simp at he⟩⟩)
  have h2 := h1.putTmp (d := d) (v := .mp d false) (c := .map (some w.heap.size)) (hd d hdd) (.mp _ _ _ (by simp [Gh.setAt]) (it := false))
  rw [hdd]
  exact hn _ _ _ h2

/-! ### A map is changed -/
theorem ba_beq (s t : ByteArray) : (s == t) = true ↔ s = t := by
  have : (s == t) = (s.data == t.data) := by cases s; cases t; rfl
  rw [this, beq_iff_eq]
  exact ⟨fun h => by cases s; cases t; simp_all, fun h => by rw [h]⟩
theorem keyFits_is {d : TypeDesc} {kc : CT} {kv : Value} (h : keyFits (some d) kc kv = true) : MapKept.IsKey d kv := by
  unfold keyFits at h
  split at h
  · rename_i k k' k'' n e
    cases e
    simp only [Bool.and_eq_true, decide_eq_true_eq] at h
    exact h.2
  · rename_i e; cases e; trivial
  · cases h
theorem keyNow {st : Nat → Nat → Prop} {d : TypeDesc} {kc : CT} {kv : Value} (h : keyFits (some d) kc kv = true) {dd : D} {c : Value} (hd : DRel st w kc dd c) : Instr.sameNow d kv c = some (keyIs kc kv dd) ∧ (keyIs kc kv dd = true → c = kv) := by
  unfold keyFits at h
  split at h
  · rename_i k k' k'' n e
    cases e
    simp only [Bool.and_eq_true, decide_eq_true_eq] at h
    obtain ⟨rfl, rfl⟩ := h
    cases hd
    refine ⟨by simp [Instr.sameNow, keyIs], fun h => ?_⟩
    simp only [keyIs, beq_iff_eq] at h
    rw [h]
  · rename_i e
    cases e
    cases hd
    refine ⟨by simp [Instr.sameNow, keyIs], fun h => ?_⟩
    simp only [keyIs, ba_beq] at h
    rw [h]
  · cases h
theorem findNow_rel {st : Nat → Nat → Prop} {d : TypeDesc} {kc : CT} {kv : Value} (h : keyFits (some d) kc kv = true) (n : List D) : ∀ (es : List MapEntry) (rows : List (List D)) (i0 : Nat), es.length = rows.length → (∀ (i : Nat) (e : MapEntry) (r : List D), es[i]? = some e → rows[i]? = some r → DRel st w kc (r.getD 0 default) e.key) →
    (findRow kc kv rows = none ∧ Instr.findNow d kv es i0 = some none ∧ setRow kc kv n rows = rows ++ [n]) ∨ ∃ i e r, es[i]? = some e ∧ rows[i]? = some r ∧ findRow kc kv rows = some r ∧ Instr.findNow d kv es i0 = some (some (i0 + i, e.val)) ∧ e.key = kv ∧ setRow kc kv n rows = rows.set i n
  | [], [], i0, _, _ => .inl ⟨rfl, rfl, rfl⟩
  | [], _ :: _, _, hl, _ => by cases hl
  | _ :: _, [], _, hl, _ => by cases hl
  | e :: es, r :: rows, i0, hl, hr => by
    obtain ⟨h1, h2⟩ := keyNow h (hr 0 e r rfl rfl)
    simp only [findRow, Instr.findNow, h1, setRow]
    cases hk : keyIs kc kv (r.getD 0 default) with
    | true => exact .inr ⟨0, e, r, rfl, rfl, by simp, by simp, h2 hk, by simp⟩
    | false =>
      rcases findNow_rel h n es rows (i0 + 1) (by simpa using hl) (fun i e r he hr' => hr (i + 1) e r (by simpa using he) (by simpa using hr')) with ⟨q1, q2, q3⟩ | ⟨i, e', r', q1, q2, q3, q4, q5, q6⟩
      · exact .inl ⟨by simpa using q1, by simpa using q2, by simp [q3]⟩
      · exact .inr ⟨i + 1, e', r', by simpa using q1, by simpa using q2, by simpa using q3, by simp only [q4]; congr 3; omega, q5, by simp [q6]⟩
theorem sameBits_key {d : TypeDesc} {kv : Value} (h : MapKept.IsKey d kv) (n : Nat) : Instr.sameBits n kv kv = true := by
  cases d <;> cases kv <;> first | exact h.elim | (cases n <;> simp [Instr.sameBits, (ba_beq _ _).2 rfl])

theorem op_upd {t : TypeId} {m k x : Operand} (ho : o.op = .insert t m k x ∨ o.op = .mapUpdate t m k x) (hdn : o.dst = none) (hok : InfoOk P I) (h : Rep g0 w0 g w σ a N) (hr : (opM I ops o).run σ = some (true, ws)) (hn : ∀ g' a' w', Rep g0 w0 g' w' (σ.puts ws) a' N → next a' w') : o.wp P a w next Q := by
  have hr : (updM I o t m k x).run σ = some (true, ws) := by
    unfold opM at hr
    rcases ho with ho | ho <;> (rw [ho] at hr; exact hr)
  unfold updM at hr
  obtain ⟨mv, hr1, hm, -, -⟩ := opd_sound h hr
  clear hr
  obtain ⟨kv, hr2, hkv, -, -⟩ := opd_sound h hr1
  clear hr1
  obtain ⟨xv, hr, hx, -, -⟩ := opd_sound h hr2
  clear hr2
  split at hr
  case h_2 => cases hr
  rename_i kt et bk kv' ht
  obtain ⟨bb, hat, hme⟩ := mp_inv hm
  have hke := val_inv hkv
  simp only [M.run] at hr
  cases hc : σ.cells (.mp bk) with
  | none => rw [hc] at hr; cases hr
  | some cs =>
  rw [hc] at hr
  simp only at hr
  split at hr
  case h_2 => cases hr
  rename_i kc vc rows
  split at hr
  case h_2 => cases hr
  rename_i kd xd hfit hkd hxd
  simp only [M.run, Option.some.injEq, Prod.mk.injEq, true_and] at hr
  subst hr
  obtain ⟨b1, xo, q1, q2, q3, ⟨es, clock, kc1, vc1, rows1, e1, e0, q4, q5⟩ | ⟨_, _, e1, _⟩ | ⟨_, _, _, _, _, e1, _⟩⟩ := (h.box _ _ hc).map rfl
  case inr.inl => simp at e1
  case inr.inr => simp at e1
  subst e0
  simp only [List.cons.injEq, V.arr.injEq, and_true] at e1
  obtain ⟨⟨rfl, rfl⟩, rfl⟩ := e1
  have : b1 = bb := Option.some.inj (q1.symm.trans hat)
  subst this
  obtain ⟨d, hd⟩ : ∃ d, I.und kt = some d := by
    unfold keyFits at hfit
    split at hfit
    · rename_i e; exact ⟨_, e⟩
    · rename_i e; exact ⟨_, e⟩
    · cases hfit
  rw [hd] at hfit
  have hkey := keyFits_is hfit
  have hck : ∀ e, (Instr.checkKey e 10000 kt kv').run P w = .ok () w := fun e => MapKept.run_checkKey (hok.und hd) hkey e 9999
  have hrel := findNow_rel (w := w) (st := g.stable) hfit [kd, xd] es.toList rows 0 (by simpa using q4) (fun i e r he hr' => (q5 i e r (by simpa using he) hr').1)
  have hkd' : DRel g.stable w kc kd kv' := tell_rel (s := .none) hkd (.val _ _)
  have hxd' : DRel g.stable w vc xd (a.eval x) := tell_rel hxd hx
  have hlt : b1 < w.heap.size := heap_lt q3
  have done : ∀ (es' : Array MapEntry) (clock' : Nat), (Instr.mapUpdate t (a.eval m) (a.eval k) (a.eval x)).run P w = .ok () { w with heap := w.heap.setIfInBounds b1 (.map es' clock') } → es'.size = (setRow kc kv' [kd, xd] rows).length →
      (∀ (i : Nat) (e : MapEntry) (r : List D), es'[i]? = some e → (setRow kc kv' [kd, xd] rows)[i]? = some r → DRel g.stable w kc (r.getD 0 default) e.key ∧ DRel g.stable w vc (r.getD 1 default) e.val) → o.wp P a w next Q := by
    intro es' clock' hrun hsz hall
    have hrun' : (execOp a.eval o).run P w = .ok .skip { w with heap := w.heap.setIfInBounds b1 (.map es' clock') } := by
      rcases ho with ho | ho <;> simp only [execOp, ho, Sem.run_bind, hrun, Result.andThen_ok, Sem.run_pure]
    refine up_skip hrun' ?_
    rw [hdn]
    refine hn _ _ _ (h.setObj (w' := { w with heap := w.heap.setIfInBounds b1 (.map es' clock') }) q2 q1 rfl rfl rfl (by simp) (fun b' hb' => by simp [Ne.symm hb']) _ (fun hst => .ofMap rfl ⟨b1, _, q1, q2, by simp only [Array.getElem?_setIfInBounds_self, if_pos hlt], .inl ⟨es', clock', kc, vc, _, rfl, rfl, hsz, fun i e r he hr' => ?_⟩⟩))
    exact ⟨(hall i e r he hr').1.mono hst, (hall i e r he hr').2.mono hst⟩
  rcases hrel with ⟨r1, r2, r3⟩ | ⟨i, e, r, r1, r2, r3, r4, r5, r6⟩
  · refine done (es.push { key := kv', val := a.eval x, born := clock }) (clock + 1) ?_ (by rw [r3]; simp [q4]) ?_
    · rw [hme, hke]
      simp [Instr.mapUpdate, run_underlying (hok.und ht), MapKept.run_getObj_map q3, hck, MapKept.run_findKey (hok.und hd) r2, MapKept.run_setObj_map _ q3, Result.andThen]
    · intro i e r he hr'
      rw [r3] at hr'
      by_cases hi : i < rows.length
      · rw [List.getElem?_append_left hi] at hr'
        rw [Array.getElem?_push_lt (by omega)] at he
        exact q5 i e r (by rw [Array.getElem?_eq_getElem (by omega)]; exact he) hr'
      · have hlt2 := (List.getElem?_eq_some_iff.1 hr').1
        simp at hlt2
        have : i = rows.length := by omega
        subst this
        rw [List.getElem?_append_right (Nat.le_refl _)] at hr'
        simp at hr'
        rw [← q4, Array.getElem?_push_size] at he
        cases he
        subst hr'
        exact ⟨hkd', hxd'⟩
  · have he' : es[i]? = some e := by simpa using r1
    refine done (es.modify i fun e => { e with key := kv', val := a.eval x }) clock ?_ (by rw [r6]; simp [q4]) ?_
    · rw [hme, hke]
      have hkeep : (Instr.keyThatStays kv' kv').run P w = .ok kv' w := by
        simp [Instr.keyThatStays, sameBits_key hkey]
      simp [Instr.mapUpdate, run_underlying (hok.und ht), MapKept.run_getObj_map q3, hck, MapKept.run_findKey (hok.und hd) r4, he', r5, hkeep, MapKept.run_setObj_map _ q3, Result.andThen]
    · intro j e2 r2' he2 hr2
      rw [r6] at hr2
      rw [Array.getElem?_modify] at he2
      by_cases e3 : i = j
      · subst e3
        simp only [if_true, he', Option.map_some, Option.some.injEq] at he2
        subst he2
        rw [List.getElem?_set_self (by have := (List.getElem?_eq_some_iff.1 r2).1; exact this)] at hr2
        cases hr2
        exact ⟨hkd', hxd'⟩
      · simp only [e3, if_false] at he2
        rw [List.getElem?_set_ne e3] at hr2
        exact q5 j e2 r2' he2 hr2

theorem op_lookup {t : TypeId} {m k : Operand} {ok : Bool} (ho : o.op = .lookup t m k ok) (hok : InfoOk P I) (h : Rep g0 w0 g w σ a N) (hd : ∀ t, o.dst = some t → t < N) (hr : (opM I ops o).run σ = some (true, ws)) (hn : ∀ g' a' w', Rep g0 w0 g' w' (σ.puts ws) a' N → next a' w') : o.wp P a w next Q := by
  unfold opM at hr
  rw [ho] at hr
  obtain ⟨mv, hr1, hm, -, -⟩ := opd_sound h hr
  clear hr
  obtain ⟨kv, hr, hkv, -, -⟩ := opd_sound h hr1
  clear hr1
  split at hr
  case h_2 => cases hr
  rename_i kt et bk kv' ht
  obtain ⟨bb, hat, hme⟩ := mp_inv hm
  have hke := val_inv hkv
  simp only [M.run] at hr
  cases hc : σ.cells (.mp bk) with
  | none => rw [hc] at hr; cases hr
  | some cs =>
  rw [hc] at hr
  simp only at hr
  split at hr
  case h_2 => cases hr
  rename_i kc vc rows
  split at hr
  case h_2 => cases hr
  rename_i z hfit hz
  split at hr
  case h_2 => cases hr
  rename_i zd hzd
  obtain ⟨b1, xo, q1, q2, q3, ⟨es, clock, kc1, vc1, rows1, e1, e0, q4, q5⟩ | ⟨_, _, e1, _⟩ | ⟨_, _, _, _, _, e1, _⟩⟩ := (h.box _ _ hc).map rfl
  case inr.inl => simp at e1
  case inr.inr => simp at e1
  subst e0
  simp only [List.cons.injEq, V.arr.injEq, and_true] at e1
  obtain ⟨⟨rfl, rfl⟩, rfl⟩ := e1
  have : b1 = bb := Option.some.inj (q1.symm.trans hat)
  subst this
  obtain ⟨d, hdd⟩ : ∃ d, I.und kt = some d := by
    unfold keyFits at hfit
    split at hfit
    · rename_i e; exact ⟨_, e⟩
    · rename_i e; exact ⟨_, e⟩
    · cases hfit
  rw [hdd] at hfit
  have hkey := keyFits_is hfit
  have hck : ∀ e, (Instr.checkKey e 10000 kt kv').run P w = .ok () w := fun e => MapKept.run_checkKey (hok.und hdd) hkey e 9999
  have hrel := findNow_rel (w := w) (st := g.stable) hfit [] es.toList rows 0 (by simpa using q4) (fun i e r he hr' => (q5 i e r (by simpa using he) hr').1)
  have he : execOp a.eval o = (Instr.lookup t (a.eval m) (a.eval k) ok).bind fun v => .pure (.value v) := by simp only [execOp, ho]; rfl
  have fin : ∀ (v : V) (c : Value) (f : Bool), v.flat → v.plain → (∀ s, VRel g w s v c) → (Instr.lookup t (a.eval m) (a.eval k) ok).run P w = .ok (if ok then .tuple #[c, .bool f] else c) w → (M.ret (true, dstW o.dst (if ok = true then V.tup [v, .val (.bool f)] else v)) : Step).run σ = some (true, ws) → o.wp P a w next Q := by
    intro v c f hfl hpl hv hrun hr
    refine op_plain (v := if ok = true then V.tup [v, .val (.bool f)] else v) h hd (sem_run he hrun) (fun s => ?_) hr hn
    cases ok with
    | false => exact hv _
    | true =>
      refine .tup _ _ _ rfl (fun i u hu => ?_) (fun i u c' hu hc' => ?_)
      · match i with
        | 0 => simp at hu; subst hu; cases v <;> first | trivial | exact hfl.elim
        | 1 => simp at hu; subst hu; trivial
        | _ + 2 => simp at hu
      · match i with
        | 0 => simp at hu hc'; subst hu; subst hc'; exact hv _
        | 1 => simp at hu hc'; subst hu; subst hc'; exact .val _ _
        | _ + 2 => simp at hu
  rcases hrel with ⟨r1, r2, -⟩ | ⟨i, e, r, r1, r2, r3, r4, r5, -⟩
  · simp only [lookD, hasD, r1, Option.isSome_none] at hr
    refine fin (vc.force zd) z false ?_ ?_ (fun s => force_rel (tell_rel (s := .none) hzd (.val _ z))) ?_ hr
    · cases vc <;> trivial
    · cases vc <;> trivial
    obtain ⟨zi, hzi, hzz⟩ := hok.zval hz
    have hzr : (zeroValue et).run P w = .ok z w := by simp [zeroValue, info_run hzi, hzz]
    rw [hme, hke]
    cases ok <;> simp [Instr.lookup, run_underlying (hok.und ht), MapKept.run_getObj_map q3, hck, MapKept.run_findKey (hok.und hdd) r2, Result.andThen, hzr]
  · simp only [lookD, hasD, r3, Option.isSome_some] at hr
    have hval := (q5 i e r (by simpa using r1) r2).2
    refine fin _ e.val true ?_ ?_ (fun s => force_rel hval) ?_ hr
    · cases vc <;> trivial
    · cases vc <;> trivial
    · rw [hme, hke]
      cases ok <;> simp [Instr.lookup, run_underlying (hok.und ht), MapKept.run_getObj_map q3, hck, MapKept.run_findKey (hok.und hdd) r4, Result.andThen]

theorem op_makeSlice {t : TypeId} {n c : Operand} (ho : o.op = .makeSlice t n c) (hok : InfoOk P I) (h : Rep g0 w0 g w σ a N) (hd : ∀ t, o.dst = some t → t < N) (hdn : o.dst ≠ none) (hr : (opM I ops o).run σ = some (true, ws)) (hn : ∀ g' a' w', Rep g0 w0 g' w' (σ.puts ws) a' N → next a' w') : o.wp P a w next Q := by
  unfold opM at hr
  rw [ho] at hr
  obtain ⟨nv, hr1, hnv, -, -⟩ := opd_sound h hr
  clear hr
  obtain ⟨cv, hr, hcv, -, -⟩ := opd_sound h hr1
  clear hr1
  split at hr
  case h_2 => cases hr
  rename_i e k1 n1 k2 n2 ht
  have e1 := val_inv hnv
  have e2 := val_inv hcv
  split at hr
  case h_2 => cases hr
  rename_i zs cts bts hz hcts hb
  split at hr
  case isFalse => cases hr
  rename_i hcond
  obtain ⟨hzl, hpos⟩ := hcond
  split at hr
  case h_2 => cases hr
  rename_i row hrow
  obtain ⟨d, hdd⟩ := Option.ne_none_iff_exists'.1 hdn
  simp only [M.run, Option.some.injEq, Prod.mk.injEq, Bool.and_eq_true, decide_eq_true_eq] at hr
  obtain ⟨⟨⟨⟨hsm, h0⟩, hby⟩, hmx⟩, rfl⟩ := hr
  have hnc : n1 = n2 := by
    unfold sameOpd at hsm
    split at hsm
    · split at hsm
      · rename_i he
        have he := eq_of_beq he
        subst he
        rw [e1] at e2
        cases e2; rfl
      · simpa using hsm
    · simpa using hsm
  subst hnc
  obtain ⟨i1, z, hi, hzi, hzs⟩ := hok.zero hz
  obtain ⟨i2, hi2, hib⟩ := hok.bytes hb
  obtain ⟨i3, hi3, his⟩ := hok.cts hcts
  obtain rfl : i2 = i1 := Option.some.inj (hi2.symm.trans hi)
  obtain rfl : i3 = i2 := Option.some.inj (hi3.symm.trans hi)
  obtain ⟨m, rfl⟩ : ∃ m : Nat, n1 = m := ⟨n1.toNat, by omega⟩
  have hzc : z.cells.size = cts.length := by rw [← hzl, hzs]; simp
  let us : List Value := (List.range (m * cts.length)).map fun p => z.cells.toList.getD (p % cts.length) undef
  have hvals : RowVals g.stable w cts (List.replicate m row) us := by
    refine ⟨by simp [us], fun i j ct hi hj => ?_⟩
    have him : i < m := by simpa using hi
    obtain ⟨v, d', hv, hd', htell⟩ := tellAll_get hrow j ct hj
    have hjl : j < cts.length := (List.getElem?_eq_some_iff.1 hj).1
    rw [hzs] at hv
    simp only [List.getElem?_map, Option.map_eq_some_iff] at hv
    obtain ⟨u, hu, rfl⟩ := hv
    have hlt : i * cts.length + j < m * cts.length := by
      have : (i + 1) * cts.length ≤ m * cts.length := Nat.mul_le_mul_right _ (by omega)
      rw [Nat.add_mul] at this
      omega
    have hmod : (i * cts.length + j) % cts.length = j := by rw [Nat.mul_comm, Nat.mul_add_mod, Nat.mod_eq_of_lt hjl]
    refine ⟨u, ?_, ?_⟩
    · simp only [us, List.getElem?_map, List.getElem?_range hlt, Option.map_some, hmod, List.getD_eq_getElem?_getD, hu, Option.getD_some]
    · have e3 : (List.replicate m row).getD i [] = row := by simp [List.getD_eq_getElem?_getD, him]
      have e4 : row.getD j default = d' := by rw [List.getD_eq_getElem?_getD, hd']; rfl
      rw [e3, e4]
      exact tell_rel (s := .none) htell (.val _ _)
  have hmm : m ≤ maxLen := by simp only [maxLen]; omega
  obtain ⟨g', h4⟩ : ∃ g', Rep g0 w0 g' (w.alloc (.cells (us ++ []).toArray e)) (σ.put (.tmp d (some (mkV (takesU ops o.dst) cts (List.replicate m row))))) (a.put (some d) (.slice (some (pl w.heap.size 0)) (List.replicate m row).length m)) N := by
    cases takesU ops o.dst with
    | false => exact h.grown (d := d) (hd d hdd) (e := e) (rest := []) (cap := m) hvals (by simp) hmm (by simp [us])
    | true => exact h.grownUni (d := d) (hd d hdd) (e := e) (rest := []) (cap := m) hvals (by simp) hmm (by simp [us])
  have hrun : (execOp a.eval o).run P w = .ok (.value (.slice (some (pl w.heap.size 0)) m m)) (w.alloc (.cells (us ++ []).toArray e)) := by
    refine sem_run (s := Instr.makeSlice t (a.eval n) (a.eval c)) (by simp only [execOp, ho]; rfl) ?_
    rw [e1, e2]
    have wl : IntKind.i64.wrap (m : Int) = m := by rw [IntKind.wrap_i64]; omega
    have n2 : ¬ (281474976710656 < (i3.bytes : Int) * m) := by rw [hib, Int.mul_comm]; omega
    have n1 : ¬ ((m : Int) < 0) := by omega
    have hcells : (Array.range (m * i3.size)).map (fun x => z.cells[x % z.cells.size]!) = us.toArray := by
      apply Array.ext'
      simp only [us, Array.toList_map, Array.toList_range, his]
      apply List.map_congr_left
      intro p hp
      have hlt : p % cts.length < z.cells.size := by rw [hzc]; exact Nat.mod_lt _ hpos
      rw [hzc, getElem!_pos z.cells _ hlt, List.getD_eq_getElem?_getD, Array.getElem?_toList, Array.getElem?_eq_getElem hlt]
      rfl
    have n5 : ¬ (140737488355328 < m * i3.bytes) := by
      rw [hib]
      have : ((m * bts : Nat) : Int) ≤ 140737488351232 := by rw [Int.natCast_mul]; exact hby
      omega
    by_cases hm0 : m = 0
    · subst hm0
      have wl0 : IntKind.i64.wrap 0 = 0 := by simpa using wl
      simp [Instr.makeSlice, und_run (hok.und ht), asInt, asIntOf, typeInfo, hi, sizeOf, wl0, newRow, us, askRoom, roomBytes]
      have : (Array.range 0).map (fun _ : Nat => (default : Value)) = #[] := by apply Array.ext'; simp
      rw [this]
    · have hne : m * i3.size ≠ 0 := by rw [his]; exact Nat.mul_ne_zero hm0 (by omega)
      have hne2 : ¬ (m = 0 ∨ i3.size = 0) := by intro hh; rcases hh with hh | hh <;> simp [hh] at hne
      simp [Instr.makeSlice, und_run (hok.und ht), asInt, asIntOf, typeInfo, hi, sizeOf, zeroValue, hzi, wl, n1, n2, n5, hne, hne2, newRow, askRoom, roomBytes]
      rw [hcells]
  refine up_value hrun ?_
  rw [hdd]
  refine hn g' _ _ ?_
  rw [List.length_replicate] at h4
  simpa [hdd, dstW] using h4

theorem getRow_rel {s : Slot} {v : V} {c : List CT} {ys : List (List D)} {x : Value} (hv : VRel g w s v x) (hr : getRow v = some (c, ys)) : DRel g.stable w (.arr c) (.arr ys) x := by
  cases v <;> first | (cases hr; first | exact arr_d hv | exact own_d hv) | cases hr
theorem copy_put (h : Rep g0 w0 g w σ a N) {bk off len : Nat} {c : List CT} {xs ys : List (List D)} {u : Value} (hcs : σ.cells (.mp bk) = some [.arr c xs, .val u]) (hc1 : c.length = 1) {b n : Nat} (q1 : g.at_ (.mp bk) = some b) (q2 : g.at_ (.mn bk) = some n) (q3 : off + len ≤ mnN n)
    {us : List Value} (hus : RowVals g.stable w c (ys.take len) us) : Rep g0 w0 g (w.setCells b off us) (σ.put (.box (.mp bk) [.arr c (xs.take off ++ (ys.take len ++ xs.drop (off + min ys.length len))), .val u])) a N := by
  obtain ⟨cur, e0, p1, p2, p3, p4, p5, p6⟩ := ms_box h hcs q1 q2
  rw [hc1, Nat.mul_one] at p4
  have hul : us.length = min ys.length len := by rw [hus.1, hc1, Nat.mul_one, List.length_take, Nat.min_comm]
  have hfit : off + us.length ≤ cur.size := by omega
  obtain ⟨cur', z1, z2, z3, z4, z5⟩ := setCells_block b e0.1 e0.2 us off w cur p1 hfit
  obtain ⟨s1, s2, s3, s4⟩ := setCells_same b us off w
  have hlen2 : (xs.take off ++ (ys.take len ++ xs.drop (off + min ys.length len))).length = xs.length := by simp; omega
  refine h.setObj (w' := w.setCells b off us) p2 q1 s1 s2 s3 s4 (fun b' hb' => setCells_heap b us off w b' hb') [.arr c (xs.take off ++ (ys.take len ++ xs.drop (off + min ys.length len))), .val u] (fun hst => .ofMap rfl ⟨b, _, q1, p2, z1, .inr (.inr ⟨c, _, _, e0, u, rfl, rfl, ⟨_, q2, by rw [hlen2, p3.1], by rw [z2]; exact p3.2⟩, by rw [hlen2, hc1, Nat.mul_one, z2]; exact p4, by rw [z2]; exact p5, fun i1 j1 ct1 hi1 hj1 => ?_⟩)⟩)
  rw [hlen2] at hi1
  have hj0 : j1 = 0 := by have := (List.getElem?_eq_some_iff.1 hj1).1; omega
  subst hj0
  simp only [hc1, Nat.mul_one, Nat.add_zero]
  by_cases a1 : i1 < off
  · obtain ⟨v, y1, y2⟩ := p6 i1 0 ct1 hi1 hj1
    refine ⟨v, by rw [z3 i1 a1]; simpa [hc1] using y1, ?_⟩
    have : (xs.take off ++ (ys.take len ++ xs.drop (off + min ys.length len))).getD i1 [] = xs.getD i1 [] := by
      rw [List.getD_eq_getElem?_getD, List.getElem?_append_left (by simp; omega), List.getElem?_take, if_pos a1, ← List.getD_eq_getElem?_getD]
    rw [this]; exact y2.mono hst
  · by_cases a2 : i1 < off + us.length
    · obtain ⟨v, y1, y2⟩ := hus.2 (i1 - off) 0 ct1 (by rw [List.length_take]; omega) hj1
      simp only [hc1, Nat.mul_one, Nat.add_zero] at y1
      refine ⟨v, by have := z4 _ v y1; rwa [show off + (i1 - off) = i1 by omega] at this, ?_⟩
      have : (xs.take off ++ (ys.take len ++ xs.drop (off + min ys.length len))).getD i1 [] = (ys.take len).getD (i1 - off) [] := by
        rw [List.getD_eq_getElem?_getD, List.getElem?_append_right (by simp; omega), List.length_take, show min off xs.length = off by omega, List.getElem?_append_left (by rw [List.length_take]; omega), ← List.getD_eq_getElem?_getD]
      rw [this]; exact y2.mono hst
    · obtain ⟨v, y1, y2⟩ := p6 i1 0 ct1 hi1 hj1
      refine ⟨v, by rw [z5 i1 (by omega)]; simpa [hc1] using y1, ?_⟩
      have : (xs.take off ++ (ys.take len ++ xs.drop (off + min ys.length len))).getD i1 [] = xs.getD i1 [] := by
        rw [List.getD_eq_getElem?_getD, List.getElem?_append_right (by simp; omega), List.length_take, show min off xs.length = off by omega, List.getElem?_append_right (by rw [List.length_take]; omega), List.getElem?_drop, List.length_take, List.getD_eq_getElem?_getD]
        congr 2; omega
      rw [this]; exact y2.mono hst
theorem op_copy {args : Array Operand} {ats : Array TypeId} (ho : o.op = .call ⟨.builtin .copy, args, ats⟩) (hok : InfoOk P I) (h : Rep g0 w0 g w σ a N) (hd : ∀ t, o.dst = some t → t < N) (hr : (opM I ops o).run σ = some (true, ws)) (hn : ∀ g' a' w', Rep g0 w0 g' w' (σ.puts ws) a' N → next a' w') : o.wp P a w next Q := by
  unfold opM at hr
  rw [ho] at hr
  simp only at hr
  split at hr
  case h_2 => cases hr
  rename_i t x tt sT hal htl
  obtain rfl : args = #[t, x] := by cases args; simp_all
  obtain rfl : ats = #[tt, sT] := by cases ats; simp_all
  split at hr
  case h_2 => cases hr
  rename_i e htt
  split at hr
  case h_2 => cases hr
  rename_i hsz
  obtain ⟨tv, hr1, htv, -, -⟩ := opd_sound h hr
  clear hr
  obtain ⟨xv, hr, hxv, -, -⟩ := opd_sound h hr1
  clear hr1
  split at hr
  case h_3 => cases hr
  · rename_i bk c off len c' ys hrow
    split at hr
    case isFalse => cases hr
    rename_i hcc
    obtain ⟨hcc, hc1⟩ := hcc
    obtain rfl := sameCTs_eq _ _ hcc
    simp only [M.run] at hr
    cases hcs : σ.cells (.mp bk) with
    | none => rw [hcs] at hr; cases hr
    | some cs =>
    rw [hcs] at hr
    simp only at hr
    split at hr
    case h_2 => cases hr
    rename_i c2 xs u
    split at hr
    case isFalse => cases hr
    rename_i hc2
    obtain rfl := sameCTs_eq _ _ hc2
    simp only [M.run, Option.some.injEq, Prod.mk.injEq, true_and] at hr
    subst hr
    obtain ⟨b, cap, n, q1, q2, q3, q4, q5, etv⟩ := ms_inv htv
    obtain ⟨cur, e0, p1, p2, p3, p4, p5, p6⟩ := ms_box h hcs q1 q2
    rw [hc1, Nat.mul_one] at etv p4
    have hxd := getRow_rel hxv hrow
    obtain ⟨i, hi, hin⟩ := hok.size hsz
    have hs1 : (P.info? e).map (·.size) = some 1 := by rw [hi]; simp [hin]
    have he : execOp a.eval o = (Builtin.copy_ #[tt, sT] o.type #[a.eval t, a.eval x]).bind fun v => .pure (.value v) := by
      rw [callBuiltin ho, show (#[t, x] : Array Operand).map a.eval = #[a.eval t, a.eval x] by simp]; rfl
    -- the values that go over
    have key : ∀ (us : List Value), RowVals g.stable w c (ys.take len) us → (Builtin.copy_ #[tt, sT] o.type #[a.eval t, a.eval x]).run P w = .ok (goInt us.length) (w.setCells b off us) → o.wp P a w next Q := by
      intro us hus hrun
      have hul : us.length = min ys.length len := by rw [hus.1, hc1, Nat.mul_one, List.length_take, Nat.min_comm]
      refine up_value (sem_run he hrun) ?_
      have h1 := copy_put h hcs hc1 q1 q2 q3 hus
      rw [hul, St.puts_cons] at *
      exact hn g _ _ (h1.dst hd fun _ => .val _ _)
    generalize hax : a.eval x = z at hxd key
    by_cases hzero : min ys.length len = 0
    · have hys : (ys.take len) = [] := List.eq_nil_of_length_eq_zero (by rw [List.length_take]; omega)
      refine key [] (by rw [hys]; exact ⟨by simp, fun i j c hi => absurd hi (by simp)⟩) ?_
      rw [etv]
      cases hxd with
      | nil _ _ p hnil =>
        exact run_copy_none w tt sT o.type e _ p len cap 0 0 (hok.und htt) hs1 (by simp [Nat.min_def])
      | arr _ _ b2 o2 cap2 f hn2 hm2 hcc2 hdd2 =>
        exact run_copy_none w tt sT o.type e _ _ len cap _ cap2 (hok.und htt) hs1 hzero
    · rcases row_inv (s := .none) hxd with ⟨rfl, _⟩ | ⟨b2, o2, cap2, rfl, hn2, hm2⟩
      · simp at hzero
      · obtain ⟨us, hus, hcell⟩ := rowVals_of hxd
        have hul : us.length = ys.length := by rw [hus.1, hc1, Nat.mul_one]
        have htk : RowVals g.stable w c (ys.take len) (us.take len) := by
          refine ⟨by simp [hul, hc1], fun i j c' hi' hj' => ?_⟩
          rw [List.length_take] at hi'
          obtain ⟨v, y1, y2⟩ := hus.2 i j c' (by omega) hj'
          have hj0 : j = 0 := by have := (List.getElem?_eq_some_iff.1 hj').1; omega
          subst hj0
          simp only [hc1, Nat.mul_one, Nat.add_zero] at y1 ⊢
          refine ⟨v, by rw [List.getElem?_take, if_pos (by omega)]; exact y1, ?_⟩
          have : (ys.take len).getD i [] = ys.getD i [] := by
            rw [List.getD_eq_getElem?_getD, List.getElem?_take, if_pos (by omega), ← List.getD_eq_getElem?_getD]
          rw [this]; exact y2
        refine key _ htk ?_
        rw [etv]
        refine run_copy_cells w tt sT o.type e b off len cap (pl b2 o2) ys.length cap2 (us.take len) (hok.und htt) hs1 (by rw [List.length_take, hul]; exact Nat.min_comm _ _) (fun j v hj => ?_) (fun j hj => ?_) (fun j hj => ?_) htk.oneCell
        · rw [List.getElem?_take] at hj
          split at hj
          · rw [pl_add]; exact (hcell j v hj).2
          · cases hj
        · have : j < len := by simp at hj; omega
          have hlt : off + j < cur.size := by omega
          simp only [World.cell?, p1]
          simp [Array.getElem?_eq_getElem hlt]
        · have : j < len := by simp at hj; omega
          have := p5.at (off + j) (by omega)
          simpa [World.frozen?, p1] using this
  · rename_i bk c off len hrow
    split at hr
    case h_2 => cases hr
    rename_i b' c' off' len'
    split at hr
    case isFalse => cases hr
    rename_i hcc
    obtain ⟨rfl, hcc, hc1⟩ := hcc
    obtain rfl := sameCTs_eq _ _ hcc
    simp only [M.run] at hr
    cases hcs : σ.cells (.mp b') with
    | none => rw [hcs] at hr; cases hr
    | some cs =>
    rw [hcs] at hr
    simp only at hr
    split at hr
    case h_2 => cases hr
    rename_i c2 xs u
    split at hr
    case isFalse => cases hr
    rename_i hc2
    obtain rfl := sameCTs_eq _ _ hc2
    simp only [M.run, Option.some.injEq, Prod.mk.injEq, true_and] at hr
    subst hr
    obtain ⟨b, cap, n, q1, q2, q3, q4, q5, etv⟩ := ms_inv htv
    obtain ⟨b2, cap2, n2, r1, r2, r3, r4, r5, etx⟩ := ms_inv hxv
    obtain rfl : b2 = b := Option.some.inj (r1.symm.trans q1)
    obtain rfl : n2 = n := Option.some.inj (r2.symm.trans q2)
    obtain ⟨cur, e0, p1, p2, p3, p4, p5, p6⟩ := ms_box h hcs q1 q2
    rw [hc1, Nat.mul_one] at etv etx p4
    obtain ⟨i, hi, hin⟩ := hok.size hsz
    have hs1 : (P.info? e).map (·.size) = some 1 := by rw [hi]; simp [hin]
    have he : execOp a.eval o = (Builtin.copy_ #[tt, sT] o.type #[a.eval t, a.eval x]).bind fun v => .pure (.value v) := by
      rw [callBuiltin ho, show (#[t, x] : Array Operand).map a.eval = #[a.eval t, a.eval x] by simp]; rfl
    have hyl : ((xs.drop off').take len').length = len' := by rw [List.length_take, List.length_drop]; have := p3.1; omega
    let us : List Value := (List.range (min len' len)).map fun q => cur.getD (off' + q) undef
    have hul : us.length = min len' len := by simp [us]
    have hget : ∀ q, q < min len' len → us[q]? = cur[off' + q]? := fun q hq => by
      have : off' + q < cur.size := by have := p3.1; omega
      simp [us, hq, Array.getElem?_eq_getElem this, Array.getD, this]
    have hus : RowVals g.stable w c (((xs.drop off').take len').take len) us := by
      refine ⟨by rw [hul, hc1, Nat.mul_one, List.length_take, hyl, Nat.min_comm], fun i1 j1 ct1 hi1 hj1 => ?_⟩
      rw [List.length_take, hyl] at hi1
      have hj0 : j1 = 0 := by have := (List.getElem?_eq_some_iff.1 hj1).1; omega
      subst hj0
      simp only [hc1, Nat.mul_one, Nat.add_zero]
      obtain ⟨v, y1, y2⟩ := p6 (off' + i1) 0 ct1 (by have := p3.1; omega) hj1
      rw [hc1, Nat.mul_one, Nat.add_zero] at y1
      refine ⟨v, by rw [hget i1 (by omega)]; exact y1, ?_⟩
      have : (((xs.drop off').take len').take len).getD i1 [] = xs.getD (off' + i1) [] := by
        rw [List.getD_eq_getElem?_getD, List.getElem?_take, if_pos (by omega), List.getElem?_take, if_pos (by omega), List.getElem?_drop, ← List.getD_eq_getElem?_getD]
      rw [this]; exact y2
    have hrun : (Builtin.copy_ #[tt, sT] o.type #[a.eval t, a.eval x]).run P w = .ok (goInt us.length) (w.setCells b2 off us) := by
      rw [etv, etx]
      by_cases hz : min len' len = 0
      · have hnil : us = [] := List.eq_nil_of_length_eq_zero (by rw [hul, hz])
        rw [hnil]
        exact run_copy_none w tt sT o.type e _ _ len cap _ cap2 (hok.und htt) hs1 hz
      · refine run_copy_cells w tt sT o.type e b2 off len cap (pl b2 off') len' cap2 us (hok.und htt) hs1 (by rw [hul]) (fun j v hj => ?_) (fun j hj => ?_) (fun j hj => ?_) hus.oneCell
        · have hjl : j < min len' len := by rw [← hul]; exact (List.getElem?_eq_some_iff.1 hj).1
          rw [hget j hjl] at hj
          rw [pl_add]
          simp only [World.cell?, p1]
          exact hj
        · have : j < len := by rw [hul] at hj; omega
          have hlt : off + j < cur.size := by have := p3.1; omega
          simp only [World.cell?, p1]
          simp [Array.getElem?_eq_getElem hlt]
        · have : j < len := by rw [hul] at hj; omega
          have := p5.at (off + j) (by have := p3.1; omega)
          simpa [World.frozen?, p1] using this
    refine up_value (sem_run he hrun) ?_
    have h1 := copy_put h hcs hc1 q1 q2 q3 hus
    rw [show us.length = min ((xs.drop off').take len').length len by rw [hul, hyl]]
    rw [St.puts_cons] at hn
    exact hn g _ _ (h1.dst hd fun _ => .val _ _)

theorem op_range {t : TypeId} {x : Operand} (ho : o.op = .range t x) (hok : InfoOk P I) (h : Rep g0 w0 g w σ a N) (hd : ∀ t, o.dst = some t → t < N) (hr : (opM I ops o).run σ = some (true, ws)) (hn : ∀ g' a' w', Rep g0 w0 g' w' (σ.puts ws) a' N → next a' w') : o.wp P a w next Q := by
  unfold opM at hr
  rw [ho] at hr
  obtain ⟨v, hr1, hv, -, -⟩ := opd_sound h hr
  clear hr
  split at hr1
  case h_2 => cases hr1
  rename_i s d ht hdd
  have e := val_inv hv
  simp only [M.run] at hr1
  cases hc : σ.cells (.mp d) with
  | some => rw [hc] at hr1; cases hr1
  | none =>
  rw [hc] at hr1
  simp only [Option.some.injEq, Prod.mk.injEq, true_and] at hr1
  subst hr1
  have hrun : (execOp a.eval o).run P w = .ok (.value (.pointer (some (pl w.heap.size 0)))) (w.alloc (.stringIter s 0)) := by
    refine sem_run (s := Instr.range t (a.eval x)) (by simp only [execOp, ho]; rfl) ?_
    rw [e]
    simp [Instr.range, und_run (hok.und ht), newObj, Sem.run]
  refine up_value hrun ?_
  have h1 := h.newKey (k0 := .mp d) (by simp) rfl hc [.val (.string s), .val (.int .i64 (0 : Nat))] (.stringIter s 0) id (fun r hr => hr) (fun u v _ => by cases v <;> first | rfl | exact trivial | exact fun i u _ => .inr rfl) (fun k cs o v _ _ => by cases v <;> first | rfl | exact trivial | exact fun i u _ => .inr rfl)
    (fun _ => .ofMap rfl ⟨w.heap.size, _, by simp [Gh.setAt], by simp [Gh.setAt, Gh.set], heap_push_new w _, .inr (.inl ⟨s, 0, rfl, rfl⟩)⟩)
  have h2 := h1.putTmp (d := d) (v := .mp d true) (c := .pointer (some (pl w.heap.size 0))) (hd d hdd) (.mp _ _ _ (by simp [Gh.setAt]) (it := true))
  rw [hdd]
  exact hn _ _ _ h2
theorem op_next {x : Operand} {isS : Bool} (ho : o.op = .next x isS) (hok : InfoOk P I) (h : Rep g0 w0 g w σ a N) (hd : ∀ t, o.dst = some t → t < N) (hr : (opM I ops o).run σ = some (true, ws)) (hn : ∀ g' a' w', Rep g0 w0 g' w' (σ.puts ws) a' N → next a' w') : o.wp P a w next Q := by
  unfold opM at hr
  rw [ho] at hr
  obtain ⟨v, hr1, hv, -, -⟩ := opd_sound h hr
  clear hr
  split at hr1
  case h_2 => cases hr1
  rename_i bk
  obtain ⟨bb, hat, e⟩ := it_inv hv
  simp only [M.run] at hr1
  cases hc : σ.cells (.mp bk) with
  | none => rw [hc] at hr1; cases hr1
  | some cs =>
  rw [hc] at hr1
  simp only at hr1
  split at hr1
  case h_2 => cases hr1
  rename_i s p
  obtain ⟨b1, xo, q1, q2, q3, ⟨_, _, _, _, _, e1, _⟩ | ⟨s1, p1, e1, e0⟩ | ⟨_, _, _, _, _, e1, _⟩⟩ := (h.box _ _ hc).map rfl
  case inl => simp at e1
  case inr.inr => simp at e1
  subst e0
  simp only [List.cons.injEq, V.val.injEq, Value.string.injEq, Value.int.injEq, Int.ofNat.injEq, true_and, and_true] at e1
  obtain ⟨rfl, rfl⟩ := e1
  have : b1 = bb := Option.some.inj (q1.symm.trans hat)
  subst this
  have hlt : b1 < w.heap.size := heap_lt q3
  have hget : (getObj b1).run P w = .ok (.stringIter s p) w := by simp [getObj, Sem.run, q3]
  simp only [M.run] at hr1
  split at hr1
  · rename_i hp
    have hp : p < s.size := by simpa using hp
    simp only [Option.some.injEq, Prod.mk.injEq, true_and] at hr1
    subst hr1
    have hrun : (execOp a.eval o).run P w = .ok (.value (.tuple #[.bool true, .int .i64 (p : Int), .int .i32 ((Utf8.decode s p).1 : Int)])) { w with heap := w.heap.setIfInBounds b1 (.stringIter s (p + (Utf8.decode s p).2)) } := by
      refine sem_run (s := Instr.next (a.eval x) true o.type) (by simp only [execOp, ho]; rfl) ?_
      rw [e]
      simp [Instr.next, hget, hp, setObj, Sem.run, q3, goInt]
    refine up_value hrun ?_
    have h1 := h.setObj (w' := { w with heap := w.heap.setIfInBounds b1 (.stringIter s (p + (Utf8.decode s p).2)) }) q2 q1 rfl rfl rfl (by simp) (fun b' hb' => by simp [Ne.symm hb']) [.val (.string s), .val (.int .i64 ((p + (Utf8.decode s p).2 : Nat) : Int))]
      (fun _ => .ofMap rfl ⟨b1, _, q1, q2, by simp only [Array.getElem?_setIfInBounds_self, if_pos hlt], .inr (.inl ⟨s, _, rfl, rfl⟩)⟩)
    refine hn g _ _ ?_
    rw [St.puts_cons]
    refine h1.dst hd fun t => .tup _ _ _ rfl (fun i u hu => ?_) (fun i u c' hu hc' => ?_)
    · match i with
      | 0 => simp at hu; subst hu; trivial
      | 1 => simp at hu; subst hu; trivial
      | 2 => simp at hu; subst hu; trivial
      | _ + 3 => simp at hu
    · match i with
      | 0 => simp at hu hc'; subst hu; subst hc'; exact .val _ _
      | 1 => simp at hu hc'; subst hu; subst hc'; exact .val _ _
      | 2 => simp at hu hc'; subst hu; subst hc'; exact .val _ _
      | _ + 3 => simp at hu
  · rename_i hp
    have hp : ¬ p < s.size := by simpa using hp
    have hrun : (Instr.next (a.eval x) true o.type).run P w = .ok (.tuple #[.bool false]) w := by
      rw [e]
      simp [Instr.next, hget, hp]
    refine op_plain h hd (sem_run (s := Instr.next (a.eval x) true o.type) (by simp only [execOp, ho]; rfl) hrun) (fun t => .tup _ _ _ rfl (fun i u hu => ?_) (fun i u c' hu hc' => ?_)) hr1 hn
    · match i with
      | 0 => simp at hu; subst hu; trivial
      | _ + 1 => simp at hu
    · match i with
      | 0 => simp at hu hc'; subst hu; subst hc'; exact .val _ _
      | _ + 1 => simp at hu
end
end Go.Proofs.YtacfehneeanlgaaDoor.Ev
namespace Go.Proofs.YtacfehneeanlgaaDoor.Ev
open Go
set_option linter.unusedVariables false
set_option linter.unusedSimpArgs false
section
variable {P : Program} {I : Info} {g0 g : Gh} {w0 w : World} {σ : St} {a : Act} {N : Nat} {o : Oper} {ops : List Oper} {next : Act → World → Prop} {Q : Exit → Act → World → Prop} {ws : List W} {b : Bool}

theorem opM_sound (hok : InfoOk P I) (h : Rep g0 w0 g w σ a N) (hf : fits N o = true) (hr : (opM I ops o).run σ = some (true, ws)) (hn : ∀ g' a' w', Rep g0 w0 g' w' (σ.puts ws) a' N → next a' w') : o.wp P a w next Q := by
  have hdst : (∀ t p x, o.op ≠ .store t p x) → (∀ t, o.dst = some t → t < N) := by
    intro hs t ht
    unfold fits at hf
    rw [ht] at hf
    split at hf <;> simp_all
  have hsome : (∀ t p x, o.op ≠ .store t p x) → (∀ f xs ts, o.op ≠ .call ⟨.value f, xs, ts⟩) → (∀ t m k x, o.op ≠ .insert t m k x) → (∀ t m k x, o.op ≠ .mapUpdate t m k x) → (∀ xs ts, o.op ≠ .call ⟨.builtin .copy, xs, ts⟩) → o.dst ≠ none := by
    intro hs hc hi hm hp hd
    unfold fits at hf
    rw [hd] at hf
    split at hf <;> first
      | (rename_i e; first | exact hs _ _ _ e | exact hi _ _ _ _ e | exact hm _ _ _ _ e | exact hc _ _ _ e | exact hp _ _ e)
      | (rename_i e _; first | exact hs _ _ _ e | exact hi _ _ _ _ e | exact hm _ _ _ _ e | exact hc _ _ _ e | exact hp _ _ e)
      | simp_all
  have hnone : ((∃ t p x, o.op = .store t p x) ∨ (∃ t m k x, o.op = .insert t m k x) ∨ ∃ t m k x, o.op = .mapUpdate t m k x) → o.dst = none := by
    intro hh
    cases hd : o.dst with
    | none => rfl
    | some d =>
      exfalso
      unfold fits at hf
      rw [hd] at hf
      rcases hh with ⟨_, _, _, e⟩ | ⟨_, _, _, _, e⟩ | ⟨_, _, _, _, e⟩ <;> rw [e] at hf <;> cases hf
  cases ho : o.op with
  | move x => exact op_move ho h (hdst (by simp [ho])) hr hn
  | assign x => exact op_assign ho h (hdst (by simp [ho])) hr hn
  | pick c x y => exact op_pick ho h (hdst (by simp [ho])) hr hn
  | alloc t => exact op_alloc ho hok h (hdst (by simp [ho])) hr hn
  | box t x => exact op_box ho hok h (hdst (by simp [ho])) hr hn
  | build t ps => exact op_build ho hok h (hdst (by simp [ho])) hr hn
  | buildSlice t n ps => exact op_buildSlice ho hok h (hdst (by simp [ho])) (hsome (by simp [ho]) (by simp [ho]) (by simp [ho]) (by simp [ho]) (by simp [ho])) hr hn
  | load t x => exact op_load ho hok h (hdst (by simp [ho])) hr hn
  | store t p x =>
    exact op_store ho (hnone (.inl ⟨_, _, _, ho⟩)) hok h hr hn
  | nilCheck x => exact op_nilCheck ho h (hdst (by simp [ho])) hr hn
  | binOp op t x y yt => exact op_bin ho hok h (hdst (by simp [ho])) hr hn
  | unOp op t x => exact op_un ho h (hdst (by simp [ho])) hr hn
  | convert s t x => exact op_convert ho hok h (hdst (by simp [ho])) hr hn
  | slice t x lo hi mx => exact op_slice ho hok h (hdst (by simp [ho])) hr hn
  | fieldAddr t x f => exact op_fieldAddr ho hok h (hdst (by simp [ho])) hr hn
  | field t x f => exact op_field ho hok h (hdst (by simp [ho])) hr hn
  | indexAddr t x i => exact op_indexAddr ho hok h (hdst (by simp [ho])) hr hn
  | index t x i => exact op_index ho hok h (hdst (by simp [ho])) hr hn
  | range t x => exact op_range ho hok h (hdst (by simp [ho])) hr hn
  | next x s => exact op_next ho hok h (hdst (by simp [ho])) hr hn
  | makeMap t r => exact op_makeMap ho hok h (hdst (by simp [ho])) hr hn
  | insert t m k x => exact op_upd (.inl ho) (hnone (.inr (.inl ⟨_, _, _, _, ho⟩))) hok h hr hn
  | mapUpdate t m k x => exact op_upd (.inr ho) (hnone (.inr (.inr ⟨_, _, _, _, ho⟩))) hok h hr hn
  | lookup t m k ok => exact op_lookup ho hok h (hdst (by simp [ho])) hr hn
  | makeSlice t n c => exact op_makeSlice ho hok h (hdst (by simp [ho])) (hsome (by simp [ho]) (by simp [ho]) (by simp [ho]) (by simp [ho]) (by simp [ho])) hr hn
  | extract x i => exact op_extract ho h (hdst (by simp [ho])) hr hn
  | call c =>
    obtain ⟨cal, args, ats⟩ := c
    cases cal with
    | builtin bt =>
      cases bt with
      | len => exact op_len ho hok h (hdst (by simp [ho])) hr hn
      | append => exact op_append ho hok h (hdst (by simp [ho])) (hsome (by simp [ho]) (by simp [ho]) (by simp [ho]) (by simp [ho]) (by simp [ho])) hr hn
      | min => exact op_minmax (.inl rfl) ho h (hdst (by simp [ho])) hr hn
      | max => exact op_minmax (.inr rfl) ho h (hdst (by simp [ho])) hr hn
      | copy => exact op_copy ho hok h (hdst (by simp [ho])) hr hn
      | _ => unfold opM at hr; rw [ho] at hr; cases hr
    | _ => unfold opM at hr; rw [ho] at hr; cases hr
  | _ => unfold opM at hr; rw [ho] at hr; cases hr
end

/-! ### What is read decides what is written -/
def St.at_ (σ : St) : Loc → Option V × Option (List V)
  | .tmp t => (σ.tmp t, none)
  | .cell k (some o) => (σ.cell k o, none)
  | .cell k none => (none, σ.cells k)
  | .part t i => (σ.part t i, none)
theorem M.run_congr {α : Type} {σ τ : St} (m : M α) (h : ∀ l ∈ m.reads σ, σ.at_ l = τ.at_ l) : m.run τ = m.run σ ∧ m.reads τ = m.reads σ := by
  induction m with
  | ret => exact ⟨rfl, rfl⟩
  | fail => exact ⟨rfl, rfl⟩
  | tmp t k ih =>
    simp only [M.reads, List.mem_cons] at h
    have h1 : σ.tmp t = τ.tmp t := by have := h _ (.inl rfl); simpa [St.at_] using this
    simp only [M.run, M.reads, ← h1]
    cases hv : σ.tmp t with
    | none => exact ⟨rfl, rfl⟩
    | some v =>
      obtain ⟨e1, e2⟩ := ih v (fun l hl => h l (.inr (by rw [hv]; exact hl)))
      exact ⟨e1, by simp only [e2]⟩
  | cell b o k ih =>
    simp only [M.reads, List.mem_cons] at h
    have h1 : σ.cell b o = τ.cell b o := by have := h _ (.inl rfl); simpa [St.at_] using this
    simp only [M.run, M.reads, ← h1]
    cases hv : σ.cell b o with
    | none => exact ⟨rfl, rfl⟩
    | some v =>
      obtain ⟨e1, e2⟩ := ih v (fun l hl => h l (.inr (by rw [hv]; exact hl)))
      exact ⟨e1, by simp only [e2]⟩
  | cells b k ih =>
    simp only [M.reads, List.mem_cons] at h
    have h1 : σ.cells b = τ.cells b := by have := h _ (.inl rfl); simpa [St.at_] using this
    simp only [M.run, M.reads, ← h1]
    cases hv : σ.cells b with
    | none => exact ⟨rfl, rfl⟩
    | some v =>
      obtain ⟨e1, e2⟩ := ih v (fun l hl => h l (.inr (by rw [hv]; exact hl)))
      exact ⟨e1, by simp only [e2]⟩
  | fresh b k ih =>
    simp only [M.reads, List.mem_cons] at h
    have h1 : σ.cells b = τ.cells b := by have := h _ (.inl rfl); simpa [St.at_] using this
    obtain ⟨e1, e2⟩ := ih (fun l hl => h l (.inr hl))
    simp only [M.run, M.reads, ← h1, e1, e2]
    exact ⟨by first | trivial | rfl, by first | trivial | rfl⟩
  | part t i k ih =>
    simp only [M.reads, List.mem_cons] at h
    have h1 : σ.part t i = τ.part t i := by have := h _ (.inl rfl); simpa [St.at_] using this
    simp only [M.run, M.reads, ← h1]
    cases hv : σ.part t i with
    | none => exact ⟨rfl, rfl⟩
    | some v =>
      obtain ⟨e1, e2⟩ := ih v (fun l hl => h l (.inr (by rw [hv]; exact hl)))
      exact ⟨e1, by simp only [e2]⟩
  | ask b t f iht ihf =>
    simp only [M.reads, List.mem_append] at h
    obtain ⟨e1, e2⟩ := iht (fun l hl => h l (.inl hl))
    obtain ⟨e3, e4⟩ := ihf (fun l hl => h l (.inr hl))
    simp only [M.run, M.reads, e1, e2, e3, e4, and_self]
/-- Two states that tell alike. -/
def Eqv (σ τ : St) : Prop := (∀ t, σ.tmp t = τ.tmp t) ∧ ∀ k, σ.cells k = τ.cells k
theorem Eqv.refl (σ : St) : Eqv σ σ := ⟨fun _ => rfl, fun _ => rfl⟩
theorem Eqv.symm {σ τ : St} (h : Eqv σ τ) : Eqv τ σ := ⟨fun t => (h.1 t).symm, fun k => (h.2 k).symm⟩
theorem Eqv.trans {σ τ υ : St} (h : Eqv σ τ) (k : Eqv τ υ) : Eqv σ υ := ⟨fun t => (h.1 t).trans (k.1 t), fun b => (h.2 b).trans (k.2 b)⟩
theorem Eqv.at_ {σ τ : St} (h : Eqv σ τ) (l : Loc) : σ.at_ l = τ.at_ l := by
  cases l with
  | tmp t => simp only [St.at_, h.1 t]
  | cell k o => cases o <;> simp only [St.at_, St.cell, h.2 k]
  | part t i => simp only [St.at_, St.part, h.1 t]
theorem Eqv.put {σ τ : St} (h : Eqv σ τ) (x : W) : Eqv (σ.put x) (τ.put x) := by
  cases x with
  | tmp t v => exact ⟨fun u => by simp [h.1 u], fun k => by simp [h.2 k]⟩
  | cell k o v => exact ⟨fun u => by simp [h.1 u], fun l => by simp [h.2 k, h.2 l]⟩
  | box k cs => exact ⟨fun u => by simp [h.1 u], fun l => by simp [h.2 l]⟩
  | part t i v => exact ⟨fun u => by simp [h.1 u, h.1 t], fun k => by simp [h.2 k]⟩
theorem Eqv.puts {σ τ : St} (h : Eqv σ τ) (ws : List W) : Eqv (σ.puts ws) (τ.puts ws) := by
  induction ws generalizing σ τ with
  | nil => exact h
  | cons x ws ih => exact ih (h.put x)
theorem Rep.eqv {g0 g : Gh} {w0 w : World} {σ τ : St} {a : Act} {N : Nat} (h : Rep g0 w0 g w σ a N) (e : Eqv σ τ) : Rep g0 w0 g w τ a N :=
  ⟨fun t v hv => h.env t v (by rw [e.1]; exact hv), fun k cs hk => h.box k cs (by rw [e.2]; exact hk), h.fresh, h.base, h.evol, h.defers, h.size, fun k b hb => by obtain ⟨cs, hc⟩ := h.live k b hb; exact ⟨cs, by rw [← e.2]; exact hc⟩, h.nones⟩
def Miss (x l : Loc) : Prop := x.meets l = false
theorem put_miss {σ : St} {x : W} {l : Loc} (h : x.loc.meets l = false) : (σ.put x).at_ l = σ.at_ l := by
  cases x with
  | tmp t v =>
    cases l with
    | tmp u => simp [W.loc, Loc.meets] at h; simp [St.at_, h]
    | cell k o => cases o <;> simp [St.at_, St.cell]
    | part u i => simp [W.loc, Loc.meets] at h; simp [St.at_, St.part, h]
  | cell k o v =>
    cases l with
    | tmp u => simp [St.at_]
    | part u i => simp [St.at_, St.part]
    | cell k' o' =>
      cases o' with
      | none => simp [W.loc, Loc.meets] at h; simp [St.at_, h]
      | some p =>
        simp [W.loc, Loc.meets] at h
        simp only [St.at_, St.cell, St.cells_put_cell]
        by_cases e : k = k'
        · subst e
          have := h rfl
          cases σ.cells k with
          | none => simp
          | some cs => simp [this]
        · simp [e]
  | box k cs =>
    cases l with
    | tmp u => simp [St.at_]
    | part u i => simp [St.at_, St.part]
    | cell k' o' =>
      cases o' <;> (simp [W.loc, Loc.meets] at h; simp [St.at_, St.cell, h])
  | part t i v =>
    cases l with
    | tmp u => simp [W.loc, Loc.meets] at h; simp [St.at_, h]
    | cell k o => cases o <;> simp [St.at_, St.cell]
    | part u j =>
      simp [W.loc, Loc.meets] at h
      simp only [St.at_, St.part_put_part]
      rw [if_neg (fun e => h e.1 e.2)]
theorem puts_miss {σ : St} {ws : List W} {l : Loc} (h : ∀ x ∈ ws, x.loc.meets l = false) : (σ.puts ws).at_ l = σ.at_ l := by
  induction ws generalizing σ with
  | nil => rfl
  | cons x ws ih => rw [St.puts_cons, ih (fun y hy => h y (.tail _ hy)), put_miss (h x (.head _))]
/-- Two states that tell alike but where some writes are. -/
def AgreeOff (bad : Loc → Prop) (σ τ : St) : Prop := ∀ l, ¬ bad l → σ.at_ l = τ.at_ l
theorem AgreeOff.put {bad : Loc → Prop} {σ τ : St} (h : AgreeOff bad σ τ) (x : W) : AgreeOff bad (σ.put x) (τ.put x) := by
  intro l hl
  have h0 := h l hl
  cases x with
  | tmp t v =>
    cases l with
    | tmp u => simp only [St.at_, St.tmp_put] at h0 ⊢; split <;> simp_all
    | cell k o => cases o <;> simpa [St.at_, St.cell] using h0
    | part u j =>
      simp only [St.at_, Prod.mk.injEq, and_true, St.part, St.tmp_put] at h0 ⊢
      by_cases e : t = u
      · simp [e]
      · simpa [e] using h0
  | cell k o v =>
    cases l with
    | tmp u => simpa [St.at_] using h0
    | part u j => simpa [St.at_, St.part] using h0
    | cell k' o' =>
      cases o' with
      | none =>
        simp only [St.at_, Prod.mk.injEq, true_and] at h0
        simp only [St.at_, St.cells_put_cell]
        by_cases e : k = k'
        · subst e; simp [h0]
        · simp [e, h0]
      | some p =>
        simp only [St.at_, Prod.mk.injEq, and_true, St.cell] at h0
        simp only [St.at_, St.cell, St.cells_put_cell]
        by_cases e : k = k'
        · subst e
          simp only [if_true]
          cases h1 : σ.cells k with
          | none =>
            cases h2 : τ.cells k with
            | none => rfl
            | some b =>
              rw [h1, h2] at h0
              have h0' : b[p]? = none := h0.symm
              simp only [Option.map_none, Option.map_some, Option.bind_none, Option.bind_some, List.getElem?_set]
              have : ¬ p < b.length := by intro hlt; rw [List.getElem?_eq_getElem hlt] at h0'; cases h0'
              by_cases e : o = p
              · subst e; simp [this]
              · simp [e, h0']
          | some c =>
            cases h2 : τ.cells k with
            | none =>
              rw [h1, h2] at h0
              have h0' : c[p]? = none := h0
              simp only [Option.map_none, Option.map_some, Option.bind_none, Option.bind_some, List.getElem?_set]
              have : ¬ p < c.length := by intro hlt; rw [List.getElem?_eq_getElem hlt] at h0'; cases h0'
              by_cases e : o = p
              · subst e; simp [this]
              · simp [e, h0']
            | some b =>
              rw [h1, h2] at h0
              have h0' : c[p]? = b[p]? := h0
              simp only [Option.map_some, Option.bind_some, List.getElem?_set]
              by_cases e : o = p
              · subst e
                have : (o < c.length) ↔ (o < b.length) := by
                  constructor
                  · intro hlt
                    rw [List.getElem?_eq_getElem hlt] at h0'
                    exact (List.getElem?_eq_some_iff.1 h0'.symm).1
                  · intro hlt
                    rw [List.getElem?_eq_getElem hlt] at h0'
                    exact (List.getElem?_eq_some_iff.1 h0').1
                simp [this]
              · simp [e, h0']
        · simp [e, h0]
  | part t i v =>
    cases l with
    | tmp u =>
      simp only [St.at_, Prod.mk.injEq, and_true, St.tmp_put_part] at h0 ⊢
      by_cases e : t = u
      · subst e; simp [h0]
      · simpa [e] using h0
    | cell k o => cases o <;> simpa [St.at_, St.cell] using h0
    | part u j =>
      simp only [St.at_, Prod.mk.injEq, and_true, St.part_put_part] at h0 ⊢
      by_cases e : t = u ∧ i = j
      · obtain ⟨rfl, rfl⟩ := e; simp [h0]
      · simpa [e] using h0
  | box k cs =>
    cases l with
    | tmp u => simpa [St.at_] using h0
    | part u j => simpa [St.at_, St.part] using h0
    | cell k' o' =>
      cases o' with
      | none => simp only [St.at_, Prod.mk.injEq, true_and] at h0; simp only [St.at_, St.cells_put_box]; split <;> simp_all
      | some p => simp only [St.at_, Prod.mk.injEq, and_true, St.cell] at h0; simp only [St.at_, St.cell, St.cells_put_box]; split <;> simp_all
theorem AgreeOff.puts {bad : Loc → Prop} {σ τ : St} (h : AgreeOff bad σ τ) (ws : List W) : AgreeOff bad (σ.puts ws) (τ.puts ws) := by
  induction ws generalizing σ τ with
  | nil => exact h
  | cons x ws ih => exact ih (h.put x)
theorem put_comm {σ : St} {x y : W} (h : x.loc.meets y.loc = false) : Eqv ((σ.put x).put y) ((σ.put y).put x) := by
  refine ⟨fun t => ?_, fun k => ?_⟩
  · cases x with
    | tmp u v =>
      cases y with
      | tmp u' v' =>
        have hne : u ≠ u' := by simpa [W.loc, Loc.meets] using h
        simp only [St.tmp_put]
        by_cases e1 : u' = t
        · subst e1; simp [hne]
        · by_cases e2 : u = t <;> simp [e1, e2]
      | cell k' o' v' => simp only [St.tmp_put, St.tmp_put_cell]
      | box k' cs' => simp only [St.tmp_put, St.tmp_put_box]
      | part u' j v' =>
        have hne : u ≠ u' := by simpa [W.loc, Loc.meets] using h
        simp only [St.tmp_put, St.tmp_put_part]
        by_cases e1 : u' = t
        · subst e1; simp [hne]
        · by_cases e2 : u = t <;> simp [e1, e2, hne]
    | cell k o v => cases y <;> simp only [St.tmp_put, St.tmp_put_cell, St.tmp_put_box, St.tmp_put_part]
    | box k cs => cases y <;> simp only [St.tmp_put, St.tmp_put_cell, St.tmp_put_box, St.tmp_put_part]
    | part u i v =>
      cases y with
      | tmp u' v' =>
        have hne : u ≠ u' := by simpa [W.loc, Loc.meets] using h
        have hne' : u' ≠ u := fun e => hne e.symm
        simp only [St.tmp_put, St.tmp_put_part]
        by_cases e1 : u' = t
        · subst e1; simp [hne]
        · by_cases e2 : u = t <;> simp [e1, e2, hne']
      | cell k' o' v' => simp only [St.tmp_put_part, St.tmp_put_cell]
      | box k' cs' => simp only [St.tmp_put_part, St.tmp_put_box]
      | part u' j v' =>
        simp only [St.tmp_put_part]
        by_cases e1 : u = u'
        · subst e1
          have hij : i ≠ j := by simpa [W.loc, Loc.meets] using h
          by_cases e2 : u = t
          · subst e2
            simp only [if_true]
            cases σ.tmp u with
            | none => rfl
            | some w =>
              cases w with
              | tup vs => simp only [Option.some.injEq, V.tup.injEq]; exact List.set_comm _ _ hij
              | _ => rfl
          · simp [e2]
        · have e1' : u' ≠ u := fun e => e1 e.symm
          by_cases e2 : u = t
          · subst e2; simp [e1']
          · by_cases e3 : u' = t
            · subst e3; simp [e1]
            · simp [e2, e3]
  · cases x with
    | tmp u v => cases y <;> simp only [St.cells_put_tmp, St.cells_put_cell, St.cells_put_box, St.cells_put_part]
    | part u i v => cases y <;> simp only [St.cells_put_tmp, St.cells_put_cell, St.cells_put_box, St.cells_put_part]
    | cell k1 o1 v1 =>
      cases y with
      | tmp u v => simp only [St.cells_put_tmp, St.cells_put_cell]
      | part u i v => simp only [St.cells_put_part, St.cells_put_cell]
      | cell k2 o2 v2 =>
        simp only [St.cells_put_cell]
        by_cases e : k1 = k2
        · subst e
          have hne : o1 ≠ o2 := by simpa [W.loc, Loc.meets] using h
          by_cases e2 : k1 = k
          · subst e2
            simp only [if_true, Option.map_map]
            congr 1
            funext cs
            exact List.set_comm _ _ hne
          · simp [e2]
        · have e' : k2 ≠ k1 := fun h => e h.symm
          by_cases e2 : k2 = k
          · subst e2; simp [e, e']
          · by_cases e3 : k1 = k <;> simp [e2, e3, e, e']
      | box k2 cs2 =>
        have e : k1 ≠ k2 := by simpa [W.loc, Loc.meets] using h
        have e' : k2 ≠ k1 := fun h => e h.symm
        simp only [St.cells_put_cell, St.cells_put_box]
        by_cases e2 : k2 = k
        · subst e2; simp [e, e']
        · by_cases e3 : k1 = k <;> simp [e2, e3, e, e']
    | box k1 cs1 =>
      cases y with
      | tmp u v => simp only [St.cells_put_tmp, St.cells_put_box]
      | part u i v => simp only [St.cells_put_part, St.cells_put_box]
      | cell k2 o2 v2 =>
        have e : k1 ≠ k2 := by simpa [W.loc, Loc.meets] using h
        have e' : k2 ≠ k1 := fun h => e h.symm
        simp only [St.cells_put_cell, St.cells_put_box]
        by_cases e2 : k2 = k
        · subst e2; simp [e, e']
        · by_cases e3 : k1 = k <;> simp [e2, e3, e, e']
      | box k2 cs2 =>
        have e : k1 ≠ k2 := by simpa [W.loc, Loc.meets] using h
        simp only [St.cells_put_box]
        by_cases e2 : k2 = k
        · subst e2; simp [e]
        · by_cases e3 : k1 = k <;> simp [e2, e3]
theorem put_puts_comm {x : W} : ∀ {ws : List W} {σ : St}, (∀ y ∈ ws, x.loc.meets y.loc = false) → Eqv ((σ.put x).puts ws) ((σ.puts ws).put x)
  | [], σ, _ => .refl _
  | y :: ws, σ, h => by
    refine Eqv.trans (Eqv.puts (put_comm (h y (.head _))) ws) ?_
    exact put_puts_comm (fun z hz => h z (.tail _ hz))
theorem puts_comm : ∀ {xs ys : List W} {σ : St}, (∀ x ∈ xs, ∀ y ∈ ys, x.loc.meets y.loc = false) → Eqv ((σ.puts xs).puts ys) ((σ.puts ys).puts xs)
  | [], ys, σ, _ => .refl _
  | x :: xs, ys, σ, h => by
    refine Eqv.trans (puts_comm (xs := xs) (ys := ys) (σ := σ.put x) (fun z hz => h z (.tail _ hz))) ?_
    exact Eqv.puts (put_puts_comm (h x (.head _))) xs
end Go.Proofs.YtacfehneeanlgaaDoor.Ev
