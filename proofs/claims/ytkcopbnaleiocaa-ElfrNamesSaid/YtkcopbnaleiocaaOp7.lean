/- What the evaluator's operations write stands for what the model's operations leave: loads, stores, new boxes. -/
import Derived.Test.YtkcopbnaleiocaaOp6
namespace Go.Proofs.Ytkcopbnaleiocaa.Ev
open Go
set_option linter.unusedVariables false
set_option linter.unusedSimpArgs false
section
variable {P : Program} {I : Info} {g0 g : Gh} {w0 w : World} {σ : St} {a : Act} {N : Nat} {o : Oper} {ops : List Oper} {next : Act → World → Prop} {Q : Exit → Act → World → Prop} {ws : List W} {b : Bool}

theorem oneC_cells {c : Value} (h : oneC c = true) : c.cells = #[c] ∧ c.oneCell' = true := by
  cases c <;> first | exact ⟨rfl, rfl⟩ | cases h
theorem row_oneC {s : Slot} {cs : List CT} {xs : List (List D)} {c : Value} (h : DRel g.stable w (.arr cs) (.arr xs) c) : oneC c = true := by
  rcases row_inv (s := s) h with ⟨_, p, e⟩ | ⟨b, q, cap, e, _, _⟩ <;> rw [e] <;> rfl
theorem flat_oneC {s : Slot} {v : V} {c : Value} (h : VRel g w s v c) (hk : cellOk v = true) : v.flat ∧ oneC c = true := by
  cases h with
  | val _ v => exact ⟨trivial, hk⟩
  | arr _ cs xs c h => exact ⟨trivial, row_oneC (s := s) h⟩
  | own _ cs xs c h _ => exact ⟨trivial, row_oneC (s := s) h⟩
  | _ => cases hk
theorem cellP_oneC {s : Slot} {v : V} {c : Value} (h : VRel g w s v c) (hk : cellOkP v = true) : v.cellP ∧ oneC c = true := by
  unfold cellOkP at hk
  rw [Bool.or_eq_true] at hk
  rcases hk with hk | hk
  · exact ⟨(flat_oneC h hk).1.p, (flat_oneC h hk).2⟩
  · cases v <;> first | cases hk | skip
    obtain ⟨b, _, e⟩ := ptr_inv h
    exact ⟨trivial, by rw [e]; rfl⟩
theorem cellOkP_cellP {v : V} (hk : cellOkP v = true) : v.cellP := by
  unfold cellOkP at hk
  cases v <;> first | trivial | (simp [cellOk, V.isPtr] at hk)
theorem force_rel {s : Slot} {ct : CT} {d : D} {c : Value} (h : DRel g.stable w ct d c) : VRel g w s (ct.force d) c := by
  cases ct with
  | int k => cases h; exact .val _ _
  | bool => cases h; exact .val _ _
  | str => cases h; exact .val _ _
  | fn => cases h; exact .val _ _
  | arr cs => exact .arr _ _ _ _ (h.toArr_congr rfl)
theorem force_flat (ct : CT) (d : D) : (ct.force d).flat := by cases ct <;> trivial
theorem loadV_run {k : Key} {f : List V → Step} {r : Bool × List W} : ∀ (n off : Nat) (acc : List V), (loadV k off f n acc).run σ = some r →
    ∃ us : List V, us.length = n ∧ (∀ i, i < n → ∃ v, σ.cell k (off + i) = some v ∧ us[i]? = some v.view) ∧ (f (acc.reverse ++ us)).run σ = some r
  | 0, off, acc, h => ⟨[], rfl, fun i hi => absurd hi (by omega), by simpa [loadV] using h⟩
  | n + 1, off, acc, h => by
    simp only [loadV, M.run] at h
    cases hv : σ.cell k off with
    | none => rw [hv] at h; cases h
    | some v =>
      rw [hv] at h
      obtain ⟨us, hl, hu, hr⟩ := loadV_run n (off + 1) (v.view :: acc) h
      refine ⟨v.view :: us, by simp [hl], fun i hi => ?_, by simpa using hr⟩
      cases i with
      | zero => exact ⟨v, hv, rfl⟩
      | succ i =>
        obtain ⟨u, h1, h2⟩ := hu i (by omega)
        exact ⟨u, by rw [← h1]; congr 1; omega, by simpa using h2⟩
theorem cell_box {k : Key} {off : Nat} {v : V} (h : Rep g0 w0 g w σ a N) (hv : σ.cell k off = some v) {b : Nat} (hat : g.at_ k = some b) (hkm : k.isMp = false) : ∃ c, w.cell? (pl b off) = some c ∧ VRel g w (.cell k off) v c ∧ v.cellP ∧ w.frozen? (pl b off) = false ∧ ∃ cs, σ.cells k = some cs ∧ off < cs.length := by
  unfold St.cell at hv
  cases hk : σ.cells k with
  | none => rw [hk] at hv; cases hv
  | some cs =>
    rw [hk] at hv
    obtain ⟨b', cur, e, h1, h2, h3, h4, h6, h5⟩ := (h.box k cs hk).cell hkm
    have : b' = b := Option.some.inj (h1.symm.trans hat)
    subst this
    have hv' : cs[off]? = some v := hv
    obtain ⟨hlt, _⟩ := List.getElem?_eq_some_iff.1 hv'
    have hc : cur[off]? = some cur[off] := Array.getElem?_eq_getElem (by omega)
    exact ⟨cur[off], by simp [World.cell?, h3, hc], h5 off v _ hv' hc, h6 off v hv', by simp [World.frozen?, h3], cs, rfl, hlt⟩
theorem loadAt_run {t : TypeId} {x : Operand} (ho : o.op = .load t x) {b q : Nat} (hx : a.eval x = .pointer (some (pl b q))) {c : Value} (hl : (loadVar t (pl b q)).run P w = .ok c w) : (execOp a.eval o).run P w = .ok (.value c) w := by
  refine sem_run (s := Instr.loadAt t (a.eval x)) (by simp only [execOp, ho]; rfl) ?_
  rw [hx]
  simpa [Instr.loadAt, Instr.sureAddr] using hl
theorem loadVar_one {t : TypeId} (hok : InfoOk P I) (ht : isAggT I t = some false) {b q : Nat} {c : Value} (hc : w.cell? (pl b q) = some c) : (loadVar t (pl b q)).run P w = .ok c w := by
  simp [loadVar, (isAgg_run hok ht w).1, load, Sem.run, hc]
theorem loadVar_many {t : TypeId} (hok : InfoOk P I) (ht : isAggT I t = some true) {n : Nat} (hn : I.size t = some n) {b q : Nat} {cs : List Value} (hl : cs.length = n) (hc : ∀ j, j < n → w.cell? (pl b (q + j)) = cs[j]?) : (loadVar t (pl b q)).run P w = .ok (.agg cs.toArray) w := by
  obtain ⟨_, d, hd, hrow⟩ := isAgg_run hok ht w
  obtain ⟨i, hi, hin⟩ := hok.size hn
  refine run_loadVar_mid w b q t cs d (fun j v hv => ?_) hd hrow (by rw [hi]; simp [hin, hl])
  obtain ⟨hlt, _⟩ := List.getElem?_eq_some_iff.1 hv
  exact (hc j (by omega)).trans hv
/-- A row's cells. -/
theorem row_cells {cs : List CT} {xs : List (List D)} {b q cap i : Nat} (h : DRel g.stable w (.arr cs) (.arr xs) (.slice (some (pl b q)) xs.length cap)) (hi : i < xs.length) :
    ∃ f : Nat → Value, ∀ j, j < cs.length → w.cell? (pl b (q + i * cs.length + j)) = some (f j) ∧ ∀ c, cs[j]? = some c → DRel g.stable w c ((xs.getD i []).getD j default) (f j) := by
  generalize hd : D.arr xs = d at h
  generalize hv : Value.slice (some (pl b q)) xs.length cap = v at h
  cases h with
  | nil _ _ p h3 =>
    subst hd
    have hx : xs = [] := h3
    subst hx
    simp at hi
  | arr _ _ b' q0 cap' f hn hm hc hd' =>
    simp only [Value.slice.injEq, Option.some.injEq, Addr.mk.injEq, and_true] at hv
    obtain ⟨⟨rfl, rfl⟩, -, rfl⟩ := hv
    subst hd
    exact ⟨f i, fun j hj => ⟨(hc i j hi hj).2, fun c hcj => hd' i j c hi hcj⟩⟩
theorem rowV_get (e : List D) : ∀ (cs : List CT) (j i : Nat) (c : CT), cs[i]? = some c → (rowV e j cs)[i]? = some (c.force (e.getD (j + i) default))
  | c0 :: cs, j, 0, c, h => by simp at h; subst h; simp [rowV]
  | c0 :: cs, j, i + 1, c, h => by
    have := rowV_get e cs (j + 1) i c (by simpa using h)
    simp only [rowV, List.getElem?_cons_succ]
    rw [this]
    congr 3
    omega
theorem rowV_length (e : List D) : ∀ (cs : List CT) (j : Nat), (rowV e j cs).length = cs.length
  | [], _ => rfl
  | c :: cs, j => by simp [rowV, rowV_length e cs]

/-- The cells of a slice that is written in place. -/
theorem ms_box (h : Rep g0 w0 g w σ a N) {t : Nat} {c : List CT} {xs : List (List D)} {u : Value} {b n : Nat} (hc : σ.cells (.mp t) = some [.arr c xs, .val u]) (hb : g.at_ (.mp t) = some b) (hn : g.at_ (.mn t) = some n) :
    ∃ cur, ∃ e : TypeId × Nat × Nat, w.heap[b]? = some (.cells cur e.1 e.2) ∧ g.own b = .box (.mp t) ∧ (xs.length = mnN n ∧ mnC n * c.length = cur.size) ∧ xs.length * c.length ≤ cur.size ∧ Unfz cur.size e.2 ∧
      ∀ (i j : Nat) (ct : CT), i < xs.length → c[j]? = some ct → ∃ v, cur[i * c.length + j]? = some v ∧ DRel g.stable w ct ((xs.getD i []).getD j default) v := by
  obtain ⟨b', x, q1, q2, q3, ⟨_, _, _, _, _, e1, _⟩ | ⟨_, _, e1, _⟩ | ⟨cts, rows, cur, e, u', e1, e2, e3, e4, e5, e6⟩⟩ := (h.box _ _ hc).map rfl
  · simp at e1
  · simp at e1
  · simp only [List.cons.injEq, V.arr.injEq, V.val.injEq, and_true] at e1
    obtain ⟨⟨rfl, rfl⟩, rfl⟩ := e1
    have : b' = b := Option.some.inj (q1.symm.trans hb)
    subst this
    obtain ⟨m, e3, e3b, e3c⟩ := e3
    have hn' : some n = some m := hn.symm.trans e3
    cases hn'
    exact ⟨cur, e, by rw [q3, e2], q2, ⟨e3b.symm, e3c⟩, e4, e5, e6⟩
theorem row_lt {n sz i j m : Nat} (hi : i < n) (hj : j < sz) (hm : n * sz ≤ m) : i * sz + j < m := by
  have := Nat.mul_le_mul_right sz (show i + 1 ≤ n from hi)
  rw [Nat.add_mul] at this
  omega
theorem op_load {t : TypeId} {x : Operand} (ho : o.op = .load t x) (hok : InfoOk P I) (h : Rep g0 w0 g w σ a N) (hd : ∀ t, o.dst = some t → t < N) (hr : (opM I ops o).run σ = some (true, ws)) (hn : ∀ g' a' w', Rep g0 w0 g' w' (σ.puts ws) a' N → next a' w') : o.wp P a w next Q := by
  unfold opM at hr
  rw [ho] at hr
  obtain ⟨u, hr1, hu, -, -⟩ := opd_sound h hr
  clear hr
  cases hag : isAggT I t with
  | none => rw [hag] at hr1; cases hr1
  | some ag =>
  cases hsz : I.size t with
  | none => rw [hag, hsz] at hr1; cases ag <;> cases hr1
  | some n =>
  rw [hag, hsz] at hr1
  cases u with
  | ptr k off =>
    obtain ⟨b, hb, e⟩ := ptr_inv hu
    cases ag with
    | true =>
      obtain ⟨us, hl, hus, hr⟩ := loadV_run n off [] hr1
      clear hr1
      have hall : ∀ i, i < n → ∃ v c, σ.cell k (off + i) = some v ∧ us[i]? = some v.view ∧ w.cell? (pl b (off + i)) = some c ∧ VRel g w (.cell k (off + i)) v c ∧ v.cellP := by
        intro i hi
        obtain ⟨v, h1, h2⟩ := hus i hi
        obtain ⟨c, h3, h4, h5, _⟩ := cell_box h h1 hb (ptr_key hu)
        exact ⟨v, c, h1, h2, h3, h4, h5⟩
      let cs : List Value := (List.range n).map fun i => (w.cell? (pl b (off + i))).getD undef
      have hcl : cs.length = n := by simp [cs]
      have hcs : ∀ j, j < n → cs[j]? = w.cell? (pl b (off + j)) := by
        intro j hj
        obtain ⟨v, c, _, _, h3, _⟩ := hall j hj
        simp [cs, hj, h3]
      refine op_plain (v := .agg us) h hd (loadAt_run ho e (loadVar_many hok hag hsz hcl (fun j hj => (hcs j hj).symm))) (fun s => ?_) hr hn
      refine .agg _ us _ (by simp [hcl, hl]) (fun i v hv => ?_) (fun i v c hv hc => ?_)
      · obtain ⟨hlt, _⟩ := List.getElem?_eq_some_iff.1 hv
        obtain ⟨v', c', h1, h2, h3, h4, h5⟩ := hall i (by omega)
        have : v = v'.view := Option.some.inj (hv.symm.trans h2)
        subst this
        cases v' <;> first | exact h5 | trivial
      · obtain ⟨hlt, _⟩ := List.getElem?_eq_some_iff.1 hv
        obtain ⟨v', c', h1, h2, h3, h4, h5⟩ := hall i (by omega)
        have : v = v'.view := Option.some.inj (hv.symm.trans h2)
        subst this
        have hc' : cs[i]? = some c := by simpa using hc
        rw [hcs i (by omega), h3] at hc'
        cases hc'
        exact h4.viewed (by rintro vs rfl; exact h5)
    | false =>
      cases n with
      | zero => cases hr1
      | succ n =>
      cases n with
      | succ => cases hr1
      | zero =>
      simp only [M.run] at hr1
      cases hv : σ.cell k off with
      | none => rw [hv] at hr1; cases hr1
      | some v =>
      rw [hv] at hr1
      obtain ⟨c, h3, h4, h5, _, cs, hk, hlt⟩ := cell_box h hv hb (ptr_key hu)
      have hrun := loadAt_run ho e (loadVar_one hok hag h3)
      cases v with
      | own ct xs =>
        simp only at hr1
        split at hr1
        · simp only [M.run, Option.some.injEq, Prod.mk.injEq, true_and] at hr1
          subst hr1
          have hcur : cs[off]? = some (.own ct xs) := by simpa [St.cell, hk] using hv
          refine up_value hrun ?_
          -- the cell keeps a view, its room goes
          have h1 : Rep g0 w0 g w (σ.put (.cell k off (.arr ct xs))) a N := by
            refine ⟨fun t u hu => h.env t u (by simpa using hu), fun k' cs' hk' => ?_, h.fresh, h.base, h.evol, h.defers, h.size, fun k' b1 hb1 => ?_, h.nones⟩
            · rw [St.cells_put_cell] at hk'
              by_cases ek : k = k'
              · subst ek
                simp only [if_true, hk, Option.map_some, Option.some.injEq] at hk'
                subst hk'
                obtain ⟨b', cur, e', g1, g2, g3, g4, g6, g5⟩ := (h.box k cs hk).cell (ptr_key hu)
                refine .ofCell (ptr_key hu) ⟨b', cur, e', g1, g2, g3, by simpa using g4, fun i u hu => ?_, fun i u c1 hu hc1 => ?_⟩
                · rw [List.getElem?_set] at hu
                  by_cases ei : off = i
                  · subst ei; simp [hlt] at hu; subst hu; trivial
                  · simp only [ei, if_false] at hu; exact g6 i u hu
                · rw [List.getElem?_set] at hu
                  by_cases ei : off = i
                  · subst ei; simp [hlt] at hu; subst hu; exact (g5 off _ c1 hcur hc1).view
                  · simp only [ei, if_false] at hu; exact g5 i u c1 hu hc1
              · simp only [ek, if_false] at hk'
                exact h.box k' cs' hk'
            · rw [St.cells_put_cell]
              by_cases ek : k = k'.base
              · exact ⟨_, by rw [if_pos ek, hk]; rfl⟩
              · rw [if_neg ek]; exact h.live k' b1 hb1
          cases hdd : o.dst with
          | none =>
            have := hn g (a.put o.dst c) w (by rw [hdd]; exact h1)
            rwa [hdd] at this
          | some d =>
            have h2 := (h1.giveCell (k := k) (o := off) (s' := .tmp d) (by simp [Slot.root]) (fun cs' u hcs' hu => by
              rw [St.cells_put_cell, if_pos rfl, hk] at hcs'
              simp only [Option.map_some, Option.some.injEq] at hcs'
              subst hcs'
              rw [List.getElem?_set] at hu
              simp [hlt] at hu
              subst hu
              trivial)).putTmp (hd d hdd) (h4.own_ren _ (toSlot_self _ _))
            have := hn _ (a.put o.dst c) w (by rw [hdd]; exact h2)
            rwa [hdd] at this
        · exact op_plain (v := .arr ct xs) h hd hrun (fun _ => h4.view) hr1 hn
      | val v => exact op_plain (v := .val v) h hd hrun (fun _ => h4.slot trivial) hr1 hn
      | arr ct xs => exact op_plain (v := .arr ct xs) h hd hrun (fun _ => h4.slot trivial) hr1 hn
      | ptr k' off' => exact op_plain (v := .ptr k' off') h hd hrun (fun _ => h4.slot trivial) hr1 hn
      | _ => exact h5.elim
  | eptr ct xs i j =>
    obtain ⟨b, q, cap, hi, hrel, e⟩ := eptr_inv hu
    obtain ⟨f, hf⟩ := row_cells hrel hi
    cases ag with
    | true =>
      simp only at hr1
      split at hr1
      · rename_i hle
        refine op_plain (v := .agg (rowV (xs.getD i []) j ((ct.drop j).take n))) h hd (loadAt_run ho e (loadVar_many (cs := (List.range n).map fun m => f (j + m)) hok hag hsz (by simp) (fun m hm => ?_))) (fun s => ?_) hr1 hn
        · have := (hf (j + m) (by omega)).1
          rw [show q + i * ct.length + j + m = q + i * ct.length + (j + m) by omega, this]
          simp [hm]
        · have hlen : (rowV (xs.getD i []) j ((ct.drop j).take n)).length = n := by rw [rowV_length]; simp; omega
          have hget : ∀ m v, (rowV (xs.getD i []) j ((ct.drop j).take n))[m]? = some v → m < n ∧ ∃ c, ct[j + m]? = some c ∧ v = c.force ((xs.getD i []).getD (j + m) default) := by
            intro m v hv
            obtain ⟨hlt, _⟩ := List.getElem?_eq_some_iff.1 hv
            rw [hlen] at hlt
            have hc : ((ct.drop j).take n)[m]? = some ct[j + m] := by
              rw [List.getElem?_take, if_pos hlt, List.getElem?_drop, List.getElem?_eq_getElem (by omega)]
            have := rowV_get (xs.getD i []) _ j m _ hc
            rw [hv] at this
            exact ⟨hlt, _, List.getElem?_eq_getElem (by omega), Option.some.inj this⟩
          refine .agg _ _ _ (by rw [hlen]; simp) (fun m v hv => ?_) (fun m v c hv hc => ?_)
          · obtain ⟨_, c, _, rfl⟩ := hget m v hv
            exact (force_flat _ _).p
          · obtain ⟨hlt, c', hc', rfl⟩ := hget m v hv
            simp [hlt] at hc
            subst hc
            exact force_rel ((hf (j + m) (by omega)).2 c' hc')
      · cases hr1
    | false =>
      cases n with
      | zero => cases hr1
      | succ n =>
      cases n with
      | succ => cases hr1
      | zero =>
      simp only at hr1
      cases hc : ct[j]? with
      | none => rw [hc] at hr1; cases hr1
      | some c =>
        rw [hc] at hr1
        obtain ⟨hlt, _⟩ := List.getElem?_eq_some_iff.1 hc
        exact op_plain h hd (loadAt_run ho e (loadVar_one hok hag (hf j hlt).1)) (fun _ => force_rel ((hf j hlt).2 c hc)) hr1 hn
  | sptr m rows i =>
    obtain ⟨b, hi, hs, e⟩ := sptr_inv hu
    cases ag with
    | false =>
      cases n with
      | zero => cases hr1
      | succ n => cases n <;> cases hr1
    | true =>
    simp only at hr1
    cases hri : rows[i]? with
    | none => rw [hri] at hr1; cases hr1
    | some r =>
    rw [hri] at hr1
    simp only at hr1
    split at hr1
    · rename_i hmn
      subst hmn
      obtain ⟨b', f, e', hm, hl, hcells⟩ := sarr_inv hs
      cases e'
      have hrl := hl i r hri
      have hj : ∀ j, j < n → ∃ v, r[j]? = some v := fun j hj => ⟨r[j]'(by omega), List.getElem?_eq_getElem _⟩
      refine op_plain (v := .agg r) h hd (loadAt_run ho e (loadVar_many (cs := (List.range n).map fun j => f i j) hok hag hsz (by simp) (fun j hjn => ?_))) (fun s => ?_) hr1 hn
      · obtain ⟨v, hv⟩ := hj j hjn
        rw [(hcells i j r v hri hv).2.2.1]
        simp [hjn]
      · refine .agg _ _ _ (by simp [hrl]) (fun j v hv => (hcells i j r v hri hv).1) (fun j v c hv hc => ?_)
        have hjn : j < n := by have := (List.getElem?_eq_some_iff.1 hv).1; omega
        simp [hjn] at hc
        subst hc
        exact (hcells i j r v hri hv).2.2.2
    · cases hr1
  | mptr tt ct i j =>
    obtain ⟨b, n', hb, hnn, hi, e⟩ := mptr_inv hu
    have hr2 : (M.cells (.mp tt) fun
      | [.arr c' xs, .val _] => if sameCTs ct c' then match ag, n with
        | true, n => if j + n ≤ ct.length then .ret (true, dstW o.dst (.agg (rowV (xs.getD i []) j ((ct.drop j).take n)))) else .fail
        | false, 1 => match ct[j]? with
          | some ct => .ret (true, dstW o.dst (ct.force ((xs.getD i []).getD j default)))
          | none => .fail
        | _, _ => .fail
        else .fail
      | _ => (.fail : Step)).run σ = some (true, ws) := by
      cases ag with
      | true => exact hr1
      | false =>
        match n with
        | 0 => exact hr1
        | 1 => exact hr1
        | n + 2 => exact hr1
    clear hr1
    simp only [M.run] at hr2
    cases hcs : σ.cells (.mp tt) with
    | none => rw [hcs] at hr2; cases hr2
    | some cs =>
    rw [hcs] at hr2
    simp only at hr2
    split at hr2
    case h_2 => cases hr2
    rename_i c' xs u'
    split at hr2
    case isFalse => cases hr2
    rename_i hsame
    obtain rfl := sameCTs_eq _ _ hsame
    obtain ⟨cur, e0, p1, p2, p3, p4, p5, p6⟩ := ms_box h hcs hb hnn
    have hi' : i < xs.length := by omega
    have hcell : ∀ q, q < ct.length → w.cell? (pl b (i * ct.length + q)) = some ((cur[i * ct.length + q]?).getD undef) ∧ ∀ c, ct[q]? = some c → DRel g.stable w c ((xs.getD i []).getD q default) ((cur[i * ct.length + q]?).getD undef) := by
      intro q hq
      have hlt := row_lt hi' hq p4
      refine ⟨by simp only [World.cell?, p1]; simp [Array.getElem?_eq_getElem hlt], fun c hc => ?_⟩
      obtain ⟨v, z1, z2⟩ := p6 i q c hi' hc
      rw [z1]; exact z2
    cases ag with
    | true =>
      simp only at hr2
      split at hr2
      case isFalse => cases hr2
      rename_i hle
      let f : Nat → Value := fun q => (cur[i * ct.length + q]?).getD undef
      refine op_plain (v := .agg (rowV (xs.getD i []) j ((ct.drop j).take n))) h hd (loadAt_run ho e (loadVar_many (cs := (List.range n).map fun m => f (j + m)) hok hag hsz (by simp) (fun m hm => ?_))) (fun s => ?_) hr2 hn
      · have := (hcell (j + m) (by omega)).1
        rw [show i * ct.length + j + m = i * ct.length + (j + m) by omega, this]
        simp [hm, f]
      · have hlen : (rowV (xs.getD i []) j ((ct.drop j).take n)).length = n := by rw [rowV_length]; simp; omega
        have hget : ∀ m v, (rowV (xs.getD i []) j ((ct.drop j).take n))[m]? = some v → m < n ∧ ∃ c, ct[j + m]? = some c ∧ v = c.force ((xs.getD i []).getD (j + m) default) := by
          intro m v hv
          obtain ⟨hlt, _⟩ := List.getElem?_eq_some_iff.1 hv
          rw [hlen] at hlt
          have hc : ((ct.drop j).take n)[m]? = some ct[j + m] := by
            rw [List.getElem?_take, if_pos hlt, List.getElem?_drop, List.getElem?_eq_getElem (by omega)]
          have := rowV_get (xs.getD i []) _ j m _ hc
          rw [hv] at this
          exact ⟨hlt, _, List.getElem?_eq_getElem (by omega), Option.some.inj this⟩
        refine .agg _ _ _ (by rw [hlen]; simp) (fun m v hv => ?_) (fun m v c hv hc => ?_)
        · obtain ⟨_, c, _, rfl⟩ := hget m v hv
          exact (force_flat _ _).p
        · obtain ⟨hlt, c', hc', rfl⟩ := hget m v hv
          simp [hlt, f] at hc
          subst hc
          exact force_rel ((hcell (j + m) (by omega)).2 c' hc')
    | false =>
      match n, hr2 with
      | 0, hr2 => cases hr2
      | _ + 2, hr2 => cases hr2
      | 1, hr2 =>
      simp only at hr2
      split at hr2
      · rename_i c hc
        obtain ⟨hlt, _⟩ := List.getElem?_eq_some_iff.1 hc
        exact op_plain h hd (loadAt_run ho e (loadVar_one hok hag (hcell j hlt).1)) (fun _ => force_rel ((hcell j hlt).2 c hc)) hr2 hn
      · cases hr2
  | _ => split at hr1 <;> first | (simp_all; done) | cases hr1
end
end Go.Proofs.Ytkcopbnaleiocaa.Ev
