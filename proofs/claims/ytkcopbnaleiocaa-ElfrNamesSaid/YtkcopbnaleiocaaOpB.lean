/- What the evaluator's operations write stands for what the model's operations leave: parts, literals, conversions. -/
import Derived.Test.YtkcopbnaleiocaaOpA
import Derived.Laws.BytesString
import Derived.Laws.Tables
namespace Go.Proofs.Ytkcopbnaleiocaa.Ev
open Go
set_option linter.unusedVariables false
set_option linter.unusedSimpArgs false
section
variable {P : Program} {I : Info} {g0 g : Gh} {w0 w : World} {σ : St} {a : Act} {N : Nat} {o : Oper} {ops : List Oper} {next : Act → World → Prop} {Q : Exit → Act → World → Prop} {ws : List W} {b : Bool}

theorem op_field {t : TypeId} {x : Operand} {f : Nat} (ho : o.op = .field t x f) (hok : InfoOk P I) (h : Rep g0 w0 g w σ a N) (hd : ∀ t, o.dst = some t → t < N) (hr : (opM I ops o).run σ = some (true, ws)) (hn : ∀ g' a' w', Rep g0 w0 g' w' (σ.puts ws) a' N → next a' w') : o.wp P a w next Q := by
  unfold opM at hr
  rw [ho] at hr
  obtain ⟨u, hr1, hu, -, -⟩ := opd_sound h hr
  clear hr
  split at hr1
  case h_2 => cases hr1
  rename_i fs vs ht
  cases hf : fs[f]? with
  | none => rw [hf] at hr1; cases hr1
  | some fd =>
  rw [hf] at hr1
  generalize hc : a.eval x = c at hu
  cases hu with
  | agg _ _ cs hl hfl hcs =>
    have he : execOp a.eval o = (Instr.field t (a.eval x) f).bind fun v => .pure (.value v) := by simp only [execOp, ho]; rfl
    cases hag : isAggT I fd.type with
    | none => simp only [hag] at hr1; cases hr1
    | some ag =>
    cases ag with
    | true =>
      cases hsz : I.size fd.type with
      | none => simp only [hag, hsz] at hr1; cases hr1
      | some n =>
      simp only [hag, hsz] at hr1
      obtain ⟨inf, hinf, hin⟩ := hok.size hsz
      have hrun : (Instr.field t (a.eval x) f).run P w = .ok (.agg (cs.extract fd.offset (fd.offset + n))) w := by
        simp [Instr.field, und_run (hok.und ht), hf, hc, asAgg, part, (isAgg_run hok hag w).1, size_run hinf, hin]
      refine op_plain (v := .agg ((vs.drop fd.offset).take n)) h hd (sem_run he hrun) (fun s => .agg _ _ _ ?_ (fun i v hv => ?_) (fun i v c hv hc => ?_)) hr1 hn
      · simp; omega
      · rw [List.getElem?_take] at hv
        split at hv
        · rw [List.getElem?_drop] at hv; exact hfl _ v hv
        · cases hv
      · rw [List.getElem?_take] at hv
        split at hv
        · rw [List.getElem?_drop] at hv
          rw [Array.getElem?_extract] at hc
          split at hc
          · exact hcs _ v c hv hc
          · cases hc
        · cases hv
    | false =>
      simp only [hag] at hr1
      cases hv : vs[fd.offset]? with
      | none => rw [hv] at hr1; cases hr1
      | some v =>
      rw [hv] at hr1
      obtain ⟨hlt, _⟩ := List.getElem?_eq_some_iff.1 hv
      have hcv : cs[fd.offset]? = some cs[fd.offset] := Array.getElem?_eq_getElem (by omega)
      have hrun : (Instr.field t (a.eval x) f).run P w = .ok cs[fd.offset] w := by
        simp [Instr.field, und_run (hok.und ht), hf, hc, asAgg, part, (isAgg_run hok hag w).1, hcv]
      have hvr := (hcs _ v _ hv hcv)
      have hfv := hfl _ v hv
      simp only [M.run, Option.some.injEq, Prod.mk.injEq, true_and] at hr1
      subst hr1
      exact up_value (sem_run he hrun) (hn g _ _ (h.dst hd (fun s => hvr.viewed (by rintro _ rfl; exact hfv))))

theorem op_minmax {bt : Builtin} {args : Array Operand} {ats : Array TypeId} (hb : bt = .min ∨ bt = .max) (ho : o.op = .call ⟨.builtin bt, args, ats⟩) (h : Rep g0 w0 g w σ a N) (hd : ∀ t, o.dst = some t → t < N) (hr : (opM I ops o).run σ = some (true, ws)) (hn : ∀ g' a' w', Rep g0 w0 g' w' (σ.puts ws) a' N → next a' w') : o.wp P a w next Q := by
  unfold opM at hr
  rw [ho] at hr
  rcases hb with rfl | rfl
  all_goals
    simp only at hr
    split at hr
    case h_2 => cases hr
    rename_i x y hargs
    obtain rfl : args = #[x, y] := by cases args; simp_all
    obtain ⟨u, hr1, hu, -, -⟩ := opd_sound h hr
    clear hr
    obtain ⟨v, hr, hv, -, -⟩ := opd_sound h hr1
    clear hr1
    split at hr
    case h_2 => cases hr
    have e1 := val_inv hu
    have e2 := val_inv hv
    split at hr
    case isFalse => cases hr
    rename_i hk
    subst hk
  · refine op_plain h hd (sem_run (s := Builtin.min_ ats o.type #[a.eval x, a.eval y]) (by rw [callBuiltin ho, show (#[x, y] : Array Operand).map a.eval = #[a.eval x, a.eval y] by simp]; rfl) ?_) (fun _ => .val _ _) hr hn
    simp [Builtin.min_, Builtin.min2, e1, e2, List.foldlM]
  · refine op_plain h hd (sem_run (s := Builtin.max_ ats o.type #[a.eval x, a.eval y]) (by rw [callBuiltin ho, show (#[x, y] : Array Operand).map a.eval = #[a.eval x, a.eval y] by simp]; rfl) ?_) (fun _ => .val _ _) hr hn
    simp [Builtin.max_, Builtin.max2, e1, e2, List.foldlM]

theorem push_all : ∀ (ns : List Int) (s : ByteArray), ns.foldl (fun r n => r.push (UInt8.ofNat n.toNat)) s = ⟨s.data ++ (ns.map fun n => UInt8.ofNat n.toNat).toArray⟩
  | [], s => by simp
  | n :: ns, s => by
    rw [List.foldl_cons, push_all ns]
    simp [ByteArray.push]
theorem op_convert {s t : TypeId} {x : Operand} (ho : o.op = .convert s t x) (hok : InfoOk P I) (h : Rep g0 w0 g w σ a N) (hd : ∀ t, o.dst = some t → t < N) (hr : (opM I ops o).run σ = some (true, ws)) (hn : ∀ g' a' w', Rep g0 w0 g' w' (σ.puts ws) a' N → next a' w') : o.wp P a w next Q := by
  unfold opM at hr
  rw [ho] at hr
  obtain ⟨u, hr1, hu, hux, -⟩ := opd_sound h hr
  clear hr
  have he : execOp a.eval o = (convert s t (a.eval x)).bind fun v => .pure (.value v) := by simp only [execOp, ho]; rfl
  split at hr1
  · rename_i hs ht
    have e := val_inv hu
    exact op_plain h hd (sem_run he (by simp [convert, und_run (hok.und hs), und_run (hok.und ht), e, Conv.intToInt])) (fun _ => .val _ _) hr1 hn
  · rename_i hs ht
    have e := val_inv hu
    exact op_plain h hd (sem_run he (by simp [convert, und_run (hok.und hs), und_run (hok.und ht), e])) (fun _ => .val _ _) hr1 hn
  · rename_i e0 e1 hs ht
    split at hr1
    case h_2 => cases hr1
    rename_i s0 ct xs hu8
    split at hr1
    case isFalse => cases hr1
    rename_i hcc
    obtain ⟨rfl, hpos⟩ := hcc
    simp only [M.run, Option.some.injEq, Prod.mk.injEq, true_and] at hr1
    subst hr1
    have hx := hux s0 rfl
    have hdr := own_d hu
    have hsp : Spare g w (.tmp s0) ct.length xs.length (a.eval (.tmp s0)) := by
      generalize a.eval (.tmp s0) = cv at hu
      cases hu; assumption
    rcases hsp with hsp | hsp | ⟨b, cap, cur, e, hsp, q1, q2, q3, q4, q5⟩
    · rcases row_inv (s := .none) hdr with ⟨rfl, _⟩ | ⟨b, q, cap, e, _⟩
      · simp at hpos
      · rw [hsp] at e; cases e
    · exact absurd hsp.1 (by omega)
    · have h1 := h.viewTmp hx (v' := .arr ct xs) (fun c hc => hc.view)
      have hheap : ∀ b', (w.freeze (pl b cur.size) 1).heap[b']? = if b = b' then some (.cells cur e.1 (if e.2.1 == e.2.2 then (cur.size, cur.size + 1) else (min e.2.1 cur.size, max e.2.2 (cur.size + 1)))) else w.heap[b']? := by
        intro b'
        unfold World.freeze
        rw [if_neg (by decide)]
        simp only [Array.getElem?_modify]
        by_cases eb : b = b'
        · subst eb
          simp [q4]
        · simp [eb]
      have chg : ∀ d, ∃ g', Rep g0 w0 g' (w.freeze (pl b cur.size) 1) (σ.put (.tmp s0 (some (.arr ct xs)))) a N ∧ (∀ b' o c, g.stable b' o → w.cell? (pl b' o) = some c → g'.stable b' o ∧ (w.freeze (pl b cur.size) 1).cell? (pl b' o) = some c) ∧ g'.own b = .arr (.tmp d) (xs.length * ct.length) := fun d => by
        obtain ⟨h2, hst⟩ := h1.change (d := d) (L' := xs.length * ct.length) (w' := w.freeze (pl b cur.size) 1) q3 rfl rfl rfl (by simp [World.freeze]) (fun b' hb' => by rw [hheap, if_neg (fun e => hb' e.symm)]) (fun p c _ hc => by
          simp only [World.cell?, q4] at hc
          simp only [World.cell?, hheap, if_true]
          exact hc) (Nat.le_refl _) (fun u hu => by simp at hu; subst hu; trivial)
        exact ⟨_, h2, hst, by simp [Gh.set]⟩
      have hsh : w.shape? b = some (e.1, cur.size) := by unfold World.shape?; rw [q4]
      have hrun : (convert s s (a.eval (.tmp s0))).run P w = .ok (a.eval (.tmp s0)) (w.freeze (pl b cur.size) 1) := by
        rw [hsp]
        simp [convert, und_run (hok.und hs), und_run (hok.und hu8), markStringish, hsh]
      have hunf : Unfz cur.size (if e.2.1 == e.2.2 then (cur.size, cur.size + 1) else (min e.2.1 cur.size, max e.2.2 (cur.size + 1))) := by
        right
        split
        · exact Nat.le_refl _
        · rename_i hne
          rcases q5.2 with h0 | h0
          · rw [h0] at hne; simp at hne
          · simp; omega
      refine up_value (sem_run he hrun) ?_
      cases hdd : o.dst with
      | none =>
        obtain ⟨g', h2, -⟩ := chg s0
        have := hn g' (a.put o.dst (a.eval (.tmp s0))) _ (by rw [hdd]; exact h2)
        rwa [hdd] at this
      | some d =>
        obtain ⟨g', h2, hst, ho'⟩ := chg d
        have h3 := h2.putTmp (d := d) (v := .own ct xs) (c := a.eval (.tmp s0)) (hd d hdd) (.own _ _ _ _ (hdr.mono hst) (.inr (.inr ⟨b, cap, cur, (e.1, (if e.2.1 == e.2.2 then (cur.size, cur.size + 1) else (min e.2.1 cur.size, max e.2.2 (cur.size + 1)))), hsp, q1, q2, ho', by rw [hheap, if_pos rfl], q5.1, hunf⟩)))
        have := hn g' (a.put o.dst (a.eval (.tmp s0))) _ (by rw [hdd]; exact h3)
        rwa [hdd] at this
  · rename_i e0 hs ht
    have slice : ∀ xs, I.und e0 = some (.int .u8) → DRel g.stable w (.arr [.int .u8]) (.arr xs) (a.eval x) → (convert s t (a.eval x)).run P w = .ok (.string (rowBytes xs)) w := by
      intro xs hu8 hx
      rcases row_inv (s := .none) hx with ⟨rfl, p, e⟩ | ⟨b, q, cap, e, _, _⟩
      · cases p with
        | none =>
          simp [convert, und_run (hok.und hs), und_run (hok.und ht), und_run (hok.und hu8), e, nilSlice, Conv.bytesToString]
          rfl
        | some q =>
          have hload : (loadCells q 0).run P w = .ok #[] w := by simpa using run_loadCells_list (P := P) w q [] (fun j v hj => by simp at hj)
          simp [convert, und_run (hok.und hs), und_run (hok.und ht), und_run (hok.und hu8), e, Conv.bytesToString, hload]
          rfl
      · rw [e] at hx
        obtain ⟨us, h1, h2⟩ := rowVals_of hx
        have hns : us = (xs.map fun r => (r.getD 0 default).toInt).map (Value.int .u8) := by
          apply List.ext_getElem?
          intro i
          by_cases hi : i < xs.length
          · obtain ⟨u, h3, h4⟩ := h1.2 i 0 _ hi rfl
            simp only [List.length_singleton, Nat.mul_one, Nat.add_zero] at h3
            rw [h3]
            cases h4
            simp [List.getElem?_eq_getElem hi, List.getD_eq_getElem?_getD]
          · have hl : us.length = xs.length := by have := h1.1; simpa using this
            rw [List.getElem?_eq_none (by omega), List.getElem?_eq_none (by simp; omega)]
        have hload : (loadCells (pl b q) xs.length).run P w = .ok ((xs.map fun r => (r.getD 0 default).toInt).map (Value.int .u8)).toArray w := by
          have := run_loadCells_list (P := P) w (pl b q) us (fun j v hj => by rw [pl_add]; exact (h2 j v hj).2)
          have hl : us.length = xs.length := by have := h1.1; simpa using this
          rw [hl] at this
          rw [this, hns]
        have := run_bytesToString (P := P) w (pl b q) xs.length cap _ hload
        rw [push_all] at this
        simp [convert, und_run (hok.und hs), und_run (hok.und ht), und_run (hok.und hu8), e, this, rowBytes]
    split at hr1
    · rename_i hu8
      have e := val_inv hu
      exact op_plain h hd (sem_run he (by simp [convert, und_run (hok.und hs), und_run (hok.und ht), und_run (hok.und hu8), e, Conv.bytesToString])) (fun _ => .val _ _) hr1 hn
    · rename_i hu8
      split at hr1
      · rename_i hc
        rw [sameCTs_eq _ _ hc] at hu
        exact op_plain h hd (sem_run he (slice _ hu8 (arr_d hu))) (fun _ => .val _ _) hr1 hn
      · cases hr1
    · rename_i hu8
      split at hr1
      · rename_i hc
        rw [sameCTs_eq _ _ hc] at hu
        exact op_plain h hd (sem_run he (slice _ hu8 (own_d hu))) (fun _ => .val _ _) hr1 hn
      · cases hr1
    · cases hr1
  · cases hr1

/-! ### Literals -/
theorem VRel.slot0 {s : Slot} {v : V} {c : Value} (h : VRel g w s v c) (hf : v.cellP) : VRel g w .none v.view c := h.viewed (by rintro _ rfl; exact hf)
def Alike (g : Gh) (w : World) (cs : List V) (cells : Array Value) : Prop :=
  cs.length = cells.size ∧ ∀ (i : Nat) (v : V) (c : Value), cs[i]? = some v → cells[i]? = some c → v.cellP ∧ VRel g w .none v c
def updA (cells : Array Value) (q : Nat) : List Value → Array Value
  | [] => cells
  | c :: r => updA (cells.setIfInBounds q c) (q + 1) r
theorem foldl_upd (q : Nat) : ∀ (l : List Value) (k : Nat) (cells : Array Value), (l.zipIdx k).foldl (fun cs (p : Value × Nat) => cs.setIfInBounds (q + p.2) p.1) cells = updA cells (q + k) l
  | [], _, _ => rfl
  | c :: l, k, cells => by
    simp only [List.zipIdx_cons, List.foldl_cons, updA]
    rw [foldl_upd q l (k + 1)]
    rfl
theorem upd_eq (q : Nat) (cs : Array Value) (cells : Array Value) : cs.zipIdx.foldl (fun acc (p : Value × Nat) => acc.setIfInBounds (q + p.2) p.1) cells = updA cells q cs.toList := by
  rw [← Array.foldl_toList, Array.toList_zipIdx]
  have := foldl_upd q cs.toList 0 cells
  simpa using this
theorem Alike.set {cs : List V} {cells : Array Value} (h : Alike g w cs cells) {q : Nat} {v : V} {c : Value} (hv : v.cellP) (hr : VRel g w .none v.view c) : Alike g w (cs.set q v.view) (cells.setIfInBounds q c) := by
  refine ⟨by simpa using h.1, fun i u c' hu hc => ?_⟩
  by_cases e : q = i
  · subst e
    rw [List.getElem?_set] at hu
    simp only [if_true] at hu
    split at hu
    · cases hu
      rw [Array.getElem?_setIfInBounds_self] at hc
      split at hc
      · cases hc
        exact ⟨by cases v <;> first | trivial | exact hv, hr⟩
      · cases hc
    · cases hu
  · rw [List.getElem?_set] at hu
    simp only [e, if_false] at hu
    rw [Array.getElem?_setIfInBounds_ne e] at hc
    exact h.2 i u c' hu hc
theorem Alike.fill {us : List V} : ∀ {cs : List V} {cells : Array Value} {q : Nat} {cl : List Value}, Alike g w cs cells → us.length = cl.length → (∀ (i : Nat) (v : V) (c : Value), us[i]? = some v → cl[i]? = some c → v.cellP ∧ VRel g w .none v c) → Alike g w (fillV cs q us) (updA cells q cl) := by
  induction us with
  | nil => intro cs cells q cl h hl _; cases cl with | nil => exact h | cons => cases hl
  | cons v us ih =>
    intro cs cells q cl h hl hv
    cases cl with
    | nil => cases hl
    | cons c cl =>
      obtain ⟨h1, h2⟩ := hv 0 v c rfl rfl
      exact ih (h.set h1 (h2.slot0 h1)) (by simpa using hl) (fun i u c' hu hc => hv (i + 1) u c' (by simpa using hu) (by simpa using hc))
theorem partsV_run (h : Rep g0 w0 g w σ a N) {place : Nat → Option (Nat × Nat)} {f : List V → Step} {r : Bool × List W} : ∀ (ps : List (Nat × Operand)) (cs : List V) (cells : Array Value), (partsV place ps cs f).run σ = some r → Alike g w cs cells →
    ∃ cs' cells', (f cs').run σ = some r ∧ Instr.fill place cells (ps.map fun p => (p.1, a.eval p.2)) = some cells' ∧ Alike g w cs' cells'
  | [], cs, cells, hr, hal => ⟨cs, cells, hr, rfl, hal⟩
  | (i, x) :: ps, cs, cells, hr, hal => by
    simp only [partsV] at hr
    obtain ⟨v, hr1, hv, -, -⟩ := opd_sound h hr
    clear hr
    have step : ∀ (q n : Nat) (cs1 : List V) (cells1 : Array Value), place i = some (q, n) → (a.eval x).cells.size = n → q + n ≤ cells.size → updA cells q (a.eval x).cells.toList = cells1 → Alike g w cs1 cells1 → (partsV place ps cs1 f).run σ = some r →
        ∃ cs' cells', (f cs').run σ = some r ∧ Instr.fill place cells (((i, x) :: ps).map fun p => (p.1, a.eval p.2)) = some cells' ∧ Alike g w cs' cells' := by
      intro q n cs1 cells1 hp hn hq hu hal1 hr
      obtain ⟨cs', cells', h1, h2, h3⟩ := partsV_run h ps cs1 cells1 hr hal1
      refine ⟨cs', cells', h1, ?_, h3⟩
      simp only [List.map_cons, Instr.fill, hp]
      rw [if_neg (by simp; omega), upd_eq, hu]
      exact h2
    have single : ∀ (q n : Nat), place i = some (q, n) → (if n = 1 ∧ cellOkP v ∧ q + n ≤ cs.length then partsV place ps (cs.set q v.view) f else .fail).run σ = some r → ∃ cs' cells', (f cs').run σ = some r ∧ Instr.fill place cells (((i, x) :: ps).map fun p => (p.1, a.eval p.2)) = some cells' ∧ Alike g w cs' cells' := by
      intro q n hp hr
      split at hr
      · rename_i hc
        obtain ⟨rfl, hck, hle⟩ := hc
        obtain ⟨hf, h1c⟩ := cellP_oneC hv hck
        have hcc := (oneC_cells h1c).1
        have hs := hal.1
        exact step q 1 _ _ hp (by rw [hcc]; rfl) (by omega) rfl (by rw [hcc]; exact hal.set hf (hv.slot0 hf)) hr
      · cases hr
    cases hp : place i with
    | none => rw [hp] at hr1; cases hr1
    | some z =>
      obtain ⟨q, n⟩ := z
      rw [hp] at hr1
      cases v with
      | agg vs =>
        simp only at hr1
        split at hr1
        · rename_i hc
          obtain ⟨hl, hle⟩ := hc
          generalize hcx : a.eval x = c at hv step
          cases hv with
          | agg _ _ cs2 hl2 hf2 hcs2 =>
            have hs := hal.1
            exact step q n _ _ hp (by show cs2.size = n; omega) (by omega) rfl (hal.fill (by show vs.length = cs2.toList.length; simp; omega) (fun i v c hv hc => ⟨hf2 i v hv, hcs2 i v c hv (by have : cs2.toList[i]? = some c := hc; simpa using this)⟩)) hr1
        · cases hr1
      | _ => exact single q n hp hr1
end
end Go.Proofs.Ytkcopbnaleiocaa.Ev
