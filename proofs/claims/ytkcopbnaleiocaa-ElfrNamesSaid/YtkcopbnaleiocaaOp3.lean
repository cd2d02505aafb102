/- What the evaluator's operations write stands for what the model's operations leave: numbers, strings, addresses. -/
import Derived.Test.YtkcopbnaleiocaaOp2
import Derived.Laws.StructEq
import Derived.Deep.MidRow
namespace Go.Proofs.Ytkcopbnaleiocaa.Ev
open Go
set_option linter.unusedVariables false
set_option linter.unusedSimpArgs false

theorem pureRun_run {s : Sem Value} {v : Value} (h : pureRun s = some v) : s = .pure v := by
  cases s <;> simp [pureRun] at h
  rw [h]
theorem run_then {P : Program} {α β : Type} {s : Sem α} {f : α → Sem β} {w w' : World} {v : α} (h : s.run P w = .ok v w') : (s.bind f).run P w = (f v).run P w' := by
  have := Sem.run_bind (P := P) (w := w) s f
  simp only [bind] at this
  rw [this, h]
  rfl
theorem und_run {P : Program} {t : TypeId} {d : TypeDesc} (h : P.underlying t = some d) (w : World) : (underlying t).run P w = .ok d w := run_underlying h w
theorem equal_bool {P : Program} {t : TypeId} (h : P.underlying t = some .bool) (p q : Bool) (w : World) : (Op.equal t (.bool p) (.bool q)).run P w = .ok (p == q) w := by
  show (Op.equalIn (9999 + 1) t (.bool p) (.bool q)).run P w = _
  rw [Op.equalIn]
  show ((underlying t).bind _).run P w = _
  rw [run_then (und_run h w)]
  rfl
theorem equal_nil {P : Program} {t e : TypeId} (h : P.underlying t = some (.slice e)) (p : Option Addr) (l c : Nat) (w : World) : (Op.equal t (.slice p l c) (.slice none 0 0)).run P w = .ok p.isNone w := by
  show (Op.equalIn (9999 + 1) t (.slice p l c) (.slice none 0 0)).run P w = _
  rw [Op.equalIn]
  show ((underlying t).bind _).run P w = _
  rw [run_then (und_run h w)]
  cases p <;> rfl
theorem pl_add (b o n : Nat) : (pl b o).add n = pl b (o + n) := by
  unfold Addr.add
  split
  · rename_i h; subst h; rfl
  · rfl

section
variable {P : Program} {I : Info} {g0 g : Gh} {w0 w : World} {σ : St} {a : Act} {N : Nat} {o : Oper} {ops : List Oper} {next : Act → World → Prop} {Q : Exit → Act → World → Prop} {ws : List W} {b : Bool}

theorem val_inv {s : Slot} {v c : Value} (h : VRel g w s (.val v) c) : c = v := by cases h; rfl
theorem ptr_inv {s : Slot} {k : Key} {off : Nat} {c : Value} (h : VRel g w s (.ptr k off) c) : ∃ b, g.at_ k = some b ∧ c = .pointer (some (pl b off)) := by cases h with | ptr _ _ _ b h _ => exact ⟨b, h, rfl⟩
theorem ptr_key {s : Slot} {k : Key} {off : Nat} {c : Value} (h : VRel g w s (.ptr k off) c) : k.isMp = false := by cases h; assumption
theorem mp_inv {s : Slot} {t : Nat} {c : Value} (h : VRel g w s (.mp t false) c) : ∃ b, g.at_ (.mp t) = some b ∧ c = .map (some b) := by
  generalize hv : V.mp t false = v at h
  cases h with
  | mp _ _ b h => cases hv; exact ⟨b, h, rfl⟩
  | _ => cases hv
theorem it_inv {s : Slot} {t : Nat} {c : Value} (h : VRel g w s (.mp t true) c) : ∃ b, g.at_ (.mp t) = some b ∧ c = .pointer (some (pl b 0)) := by
  generalize hv : V.mp t true = v at h
  cases h with
  | mp _ _ b h => cases hv; exact ⟨b, h, rfl⟩
  | _ => cases hv

theorem guardless {op : BinOp} {t : TypeId} {x y : Operand} {u v : Value} (h1 : u ≠ .nilIface) (h2 : ∀ cs, u ≠ .agg cs) (k : Unit → Sem Value) : ((eqGuard op t x y u v).bind k).run P w = (k ()).run P w := by
  unfold eqGuard
  cases op <;> first | rfl | (cases u <;> cases v <;> first | rfl | exact absurd rfl h1 | exact absurd rfl (h2 _))
theorem bin_run {t yt : TypeId} {op : BinOp} {x y : Operand} (ho : o.op = .binOp op t x y yt) {v : Value} (hok : InfoOk P I) (hb : binV (I.und t) op (a.eval x) (a.eval y) = some (true, v)) : (execOp a.eval o).run P w = .ok (.value v) w := by
  have hrun : (execOp a.eval o) = ((eqGuard op t x y (a.eval x) (a.eval y)).bind fun _ => binOp op t (a.eval x) (a.eval y)).bind fun v => .pure (.value v) := by
    simp only [execOp, ho]; rfl
  rw [hrun]
  have key : ((eqGuard op t x y (a.eval x) (a.eval y)).bind fun _ => binOp op t (a.eval x) (a.eval y)).run P w = .ok v w → (((eqGuard op t x y (a.eval x) (a.eval y)).bind fun _ => binOp op t (a.eval x) (a.eval y)).bind fun v => Sem.pure (Next.value v)).run P w = .ok (.value v) w := by
    intro h
    rw [run_then h]
    rfl
  apply key
  clear key hrun
  generalize a.eval x = u at hb ⊢
  generalize a.eval y = v' at hb ⊢
  cases u with
  | int k m =>
    rw [guardless (by simp) (by simp)]
    cases v' with
    | int k' n =>
      cases op <;> simp only [binV] at hb
      case quo | rem =>
        split at hb
        · rename_i e; subst e
          simp only [Option.some.injEq, Prod.mk.injEq, decide_eq_true_eq] at hb
          obtain ⟨h0, rfl⟩ := hb
          simp [binOp, Op.intDiv, h0, Sem.run, pure]
        · cases hb
      case shl | shr =>
        simp only [Option.some.injEq, Prod.mk.injEq, decide_eq_true_eq] at hb
        obtain ⟨h0, rfl⟩ := hb
        simp [binOp, Op.shift, show ¬ n < 0 by omega, Sem.run, pure]
      all_goals
        split at hb
        · rename_i e; subst e
          simp only [Option.map_eq_some_iff, Prod.mk.injEq, true_and, exists_eq_right] at hb
          have := pureRun_run hb
          simp [binOp, this, Sem.run]
        · cases hb
    | _ => simp [binV] at hb
  | string s =>
    rw [guardless (by simp) (by simp)]
    cases v' with
    | string t' =>
      cases op <;> simp only [binV] at hb
      case add =>
        simp only [Option.some.injEq, Prod.mk.injEq, decide_eq_true_eq] at hb
        obtain ⟨h0, rfl⟩ := hb
        have hm : IntKind.i64.max = 9223372036854775807 := rfl
        have : ¬ (((s.size + t'.size : Nat) : Int) > IntKind.i64.max) := by rw [hm]; omega
        show (Op.stringOp .add s t').run P w = _
        unfold Op.stringOp
        simp only [if_neg this]
        rfl
      all_goals
        simp only [Option.map_eq_some_iff, Prod.mk.injEq, true_and, exists_eq_right] at hb
        have := pureRun_run hb
        simp [binOp, this, Sem.run]
    | _ => simp [binV] at hb
  | bool p =>
    rw [guardless (by simp) (by simp)]
    cases v' with
    | bool q =>
      cases hu : I.und t with
      | none => rw [hu] at hb; cases op <;> simp [binV] at hb
      | some d =>
        rw [hu] at hb
        have hd := hok.und hu
        cases d <;> cases op <;> simp [binV] at hb
        all_goals
          subst hb
          show ((Op.equal t (.bool p) (.bool q)).bind _).run P w = _
          rw [run_then (equal_bool hd p q w)]
          rfl
    | _ => simp [binV] at hb
  | slice p l c =>
    rw [guardless (by simp) (by simp)]
    cases v' with
    | slice p' l' c' =>
      cases p <;> cases l <;> cases c <;> cases p' <;> cases l' <;> cases c' <;> try (simp [binV] at hb; done)
      cases hu : I.und t with
      | none => rw [hu] at hb; cases op <;> simp [binV] at hb
      | some d =>
        rw [hu] at hb
        have hd := hok.und hu
        cases d <;> cases op <;> simp [binV] at hb
        all_goals
          subst hb
          show ((Op.equal t (.slice none 0 0) (.slice none 0 0)).bind _).run P w = _
          rw [run_then (equal_nil hd none 0 0 w)]
          rfl
    | _ => simp [binV] at hb
  | _ => simp [binV] at hb
theorem nil_run {t yt : TypeId} {op : BinOp} {x y : Operand} (ho : o.op = .binOp op t x y yt) {v : Value} {q : Addr} {n l c : Nat} (hok : InfoOk P I) (hx : a.eval x = .slice (some q) l c) (hy : a.eval y = .slice none 0 0) (hb : nilCmp (I.und t) op n = some (true, v)) : (execOp a.eval o).run P w = .ok (.value v) w := by
  have hrun : (execOp a.eval o) = ((eqGuard op t x y (a.eval x) (a.eval y)).bind fun _ => binOp op t (a.eval x) (a.eval y)).bind fun v => .pure (.value v) := by
    simp only [execOp, ho]; rfl
  rw [hrun]
  have key : ((eqGuard op t x y (a.eval x) (a.eval y)).bind fun _ => binOp op t (a.eval x) (a.eval y)).run P w = .ok v w → (((eqGuard op t x y (a.eval x) (a.eval y)).bind fun _ => binOp op t (a.eval x) (a.eval y)).bind fun v => Sem.pure (Next.value v)).run P w = .ok (.value v) w := by
    intro h
    rw [run_then h]
    rfl
  apply key
  rw [guardless (by rw [hx]; simp) (by rw [hx]; simp), hx, hy]
  cases hu : I.und t with
  | none => rw [hu] at hb; cases op <;> simp [nilCmp] at hb
  | some d =>
    rw [hu] at hb
    have hd := hok.und hu
    cases d <;> cases op <;> simp [nilCmp] at hb
    all_goals
      obtain ⟨-, rfl⟩ := hb
      show ((Op.equal t (.slice (some q) l c) (.slice none 0 0)).bind _).run P w = _
      rw [run_then (equal_nil hd (some q) l c w)]
      rfl

theorem isAgg_run {t : TypeId} (hok : InfoOk P I) {b : Bool} (h : isAggT I t = some b) (w : World) : (isAgg t).run P w = .ok b w ∧ ∃ d, P.underlying t = some d ∧ d.isRow = b := by
  unfold isAggT at h
  cases hu : I.und t with
  | none => rw [hu] at h; cases h
  | some d =>
    rw [hu] at h
    have h1 := hok.und hu
    refine ⟨?_, d, h1, ?_⟩
    · simp only [isAgg, Sem.run_bind, und_run h1, Result.andThen_ok]
      cases d <;> simp_all
    · cases d <;> simp_all [TypeDesc.isRow]
theorem eq1_run (hok : InfoOk P I) {d : Nat} {t : TypeId} {x y : Value} {q : Bool} (h : eq1 (I.und t) x y = some q) : (Op.equalIn (d + 1) t x y).run P w = .ok q w := by
  unfold eq1 at h
  split at h
  · rename_i k' k m k2 n hu
    split at h
    · rename_i e; subst e; cases h; exact run_equalIn_int w d t k k' m n (hok.und hu)
    · cases h
  · rename_i hu; cases h
    rw [run_equalIn_string w d t _ _ (hok.und hu), beq_toListBytes]
  · rename_i hu; cases h; exact run_equalIn_bool w d t _ _ (hok.und hu)
  · cases h
theorem eqFs_run (hok : InfoOk P I) {us vs : List V} {xs ys : Array Value} (hl1 : us.length = xs.size) (hl2 : vs.length = ys.size) (h1 : ∀ (i : Nat) (v : V) (c : Value), us[i]? = some v → xs[i]? = some c → VRel g w .none v c) (h2 : ∀ (i : Nat) (v : V) (c : Value), vs[i]? = some v → ys[i]? = some c → VRel g w .none v c) :
    ∀ (fs : List Field) (r : Bool), eqFs I us vs fs = some r → (Op.eqFields 9999 xs ys fs).run P w = .ok r w
  | [], r, h => by cases h; simp [Op.eqFields]
  | f :: fs, r, h => by
    unfold eqFs at h
    split at h
    · rename_i x y r' hn hag hx hy hrec
      simp only [Option.map_eq_some_iff] at h
      obtain ⟨q, hq, rfl⟩ := h
      have ih := eqFs_run hok hl1 hl2 h1 h2 fs r' hrec
      have hne : f.name ≠ "_" := by simpa using hn
      have hx' : xs[f.offset]? = some x := by
        have hlt := (List.getElem?_eq_some_iff.1 hx).1
        have hc : xs[f.offset]? = some (xs[f.offset]'(by omega)) := Array.getElem?_eq_getElem _
        rw [hc, val_inv (h1 _ _ _ hx hc)]
      have hy' : ys[f.offset]? = some y := by
        have hlt := (List.getElem?_eq_some_iff.1 hy).1
        have hc : ys[f.offset]? = some (ys[f.offset]'(by omega)) := Array.getElem?_eq_getElem _
        rw [hc, val_inv (h2 _ _ _ hy hc)]
      have hq' := eq1_run (w := w) hok (d := 9998) hq
      have p1 : (part f.type xs f.offset).run P w = .ok x w := by simp [part, (isAgg_run hok hag w).1, hx']
      have p2 : (part f.type ys f.offset).run P w = .ok y w := by simp [part, (isAgg_run hok hag w).1, hy']
      simp only [Op.eqFields, ne_eq, hne, not_false_eq_true, if_true, Sem.run_bind, p1, p2, Result.andThen_ok, hq']
      cases q
      · simp
      · simpa using ih
    · cases h
theorem struct_run {t yt : TypeId} {op : BinOp} {x y : Operand} (ho : o.op = .binOp op t x y yt) (hok : InfoOk P I) {us vs : List V} {fs : Array Field} {r : Bool} (hu : I.und t = some (.struct fs)) (hq : I.eqOk t = true) (hr : eqFs I us vs fs.toList = some r)
    {xs ys : Array Value} (hx : a.eval x = .agg xs) (hy : a.eval y = .agg ys) (hl1 : us.length = xs.size) (hl2 : vs.length = ys.size) (h1 : ∀ (i : Nat) (v : V) (c : Value), us[i]? = some v → xs[i]? = some c → VRel g w .none v c) (h2 : ∀ (i : Nat) (v : V) (c : Value), vs[i]? = some v → ys[i]? = some c → VRel g w .none v c) :
    (op = .eql → (execOp a.eval o).run P w = .ok (.value (.bool r)) w) ∧ (op = .neq → (execOp a.eval o).run P w = .ok (.value (.bool (!r))) w) := by
  obtain ⟨e1, e2⟩ := hok.eqOk hq
  have hrun : (execOp a.eval o) = ((eqGuard op t x y (a.eval x) (a.eval y)).bind fun _ => binOp op t (a.eval x) (a.eval y)).bind fun v => .pure (.value v) := by
    simp only [execOp, ho]; rfl
  have hud := hok.und hu
  have hfs : P.fieldsOf t = fs := by simp [Program.fieldsOf, hud]
  have hee : (Op.equalIn (9999 + 1) t (.agg xs) (.agg ys)).run P w = .ok r w := by
    rw [run_equalIn_struct w 9999 t xs ys (by rw [hfs]; exact hud) e1, hfs]
    exact eqFs_run hok hl1 hl2 h1 h2 _ _ hr
  constructor
  · rintro rfl
    rw [hrun, hx, hy]
    refine run_then (v := Value.bool r) ?_ |>.trans rfl
    rw [run_then (run_eqGuard_agg w .eql t x y xs ys e2), run_eql_struct, hee]
    rfl
  · rintro rfl
    rw [hrun, hx, hy]
    refine run_then (v := Value.bool (!r)) ?_ |>.trans rfl
    rw [run_then (run_eqGuard_agg w .neq t x y xs ys e2), run_neq_struct, hee]
    rfl
theorem op_bin {t yt : TypeId} {op : BinOp} {x y : Operand} (ho : o.op = .binOp op t x y yt) (hok : InfoOk P I) (h : Rep g0 w0 g w σ a N) (hd : ∀ t, o.dst = some t → t < N) (hr : (opM I ops o).run σ = some (true, ws)) (hn : ∀ g' a' w', Rep g0 w0 g' w' (σ.puts ws) a' N → next a' w') : o.wp P a w next Q := by
  unfold opM at hr
  rw [ho] at hr
  obtain ⟨u, hr, hu, -, -⟩ := opd_sound h hr
  obtain ⟨v, hr, hv, -, -⟩ := opd_sound h hr
  have slice : ∀ (cs : List CT) (xs : List (List D)), DRel g.stable w (.arr cs) (.arr xs) (a.eval x) → a.eval y = .slice none 0 0 → (match nilCmp (I.und t) op xs.length with | some (ok, v) => (M.ret (ok, dstW o.dst (.val v)) : Step) | none => .fail).run σ = some (true, ws) → o.wp P a w next Q := by
    intro cs xs hx hy hr
    split at hr
    · rename_i ok v hb
      obtain ⟨hok', hr⟩ := ret_ok hr
      subst hok'
      have hpos : 0 < xs.length := by
        unfold nilCmp at hb
        split at hb <;> first | (cases hb; done) | (simp only [Option.some.injEq, Prod.mk.injEq, decide_eq_true_eq] at hb; exact hb.1)
      generalize hc : a.eval x = c at hx
      generalize hd' : D.arr xs = d at hx
      cases hx with
      | nil _ _ p hn' => subst hd'; have : xs = [] := hn'; subst this; simp at hpos
      | arr _ _ b q cap f _ _ _ _ => exact op_plain h hd (nil_run ho hok hc hy hb) (fun _ => .val _ _) hr hn
    · cases hr
  split at hr
  · have e1 := val_inv hu
    have e2 := val_inv hv
    subst e1
    subst e2
    split at hr
    · rename_i ok v hb
      obtain ⟨hok', hr⟩ := ret_ok hr
      subst hok'
      exact op_plain h hd (bin_run ho hok hb) (fun _ => .val _ _) hr hn
    · cases hr
  · cases hu; exact slice _ _ (by assumption) (val_inv hv) hr
  · cases hu; exact slice _ _ (by assumption) (val_inv hv) hr
  · rename_i us vs
    generalize hcx : a.eval x = cx at hu
    generalize hcy : a.eval y = cy at hv
    cases hu with
    | agg _ _ xs hl1 _ h1 =>
    cases hv with
    | agg _ _ ys hl2 _ h2 =>
    split at hr
    · rename_i fs hut hq _
      split at hr
      · rename_i r he
        exact op_plain h hd ((struct_run ho hok hut hq he hcx hcy hl1 hl2 h1 h2).1 rfl) (fun _ => .val _ _) hr hn
      · cases hr
    · rename_i fs hut hq _
      split at hr
      · rename_i r he
        exact op_plain h hd ((struct_run ho hok hut hq he hcx hcy hl1 hl2 h1 h2).2 rfl) (fun _ => .val _ _) hr hn
      · cases hr
    · cases hr
  · cases hr
theorem op_un {t : TypeId} {op : UnOp} {x : Operand} (ho : o.op = .unOp op t x) (h : Rep g0 w0 g w σ a N) (hd : ∀ t, o.dst = some t → t < N) (hr : (opM I ops o).run σ = some (true, ws)) (hn : ∀ g' a' w', Rep g0 w0 g' w' (σ.puts ws) a' N → next a' w') : o.wp P a w next Q := by
  unfold opM at hr
  rw [ho] at hr
  obtain ⟨u, hr, hu, -, -⟩ := opd_sound h hr
  cases u <;> try (cases hr; done)
  have e1 := val_inv hu
  subst e1
  simp only at hr
  split at hr
  · rename_i v hb
    have := pureRun_run hb
    exact op_plain h hd (by simp [execOp, ho, this, Sem.run, pure, bind, Sem.bind]) (fun _ => .val _ _) hr hn
  · cases hr
theorem eptr_inv {s : Slot} {cs : List CT} {xs : List (List D)} {i j : Nat} {c : Value} (h : VRel g w s (.eptr cs xs i j) c) : ∃ b o cap, i < xs.length ∧ DRel g.stable w (.arr cs) (.arr xs) (.slice (some (pl b o)) xs.length cap) ∧ c = .pointer (some (pl b (o + i * cs.length + j))) := by
  cases h with | eptr _ _ _ _ _ b o cap hi h => exact ⟨b, o, cap, hi, h, rfl⟩
theorem mptr_inv {s : Slot} {t : Nat} {cs : List CT} {i j : Nat} {c : Value} (h : VRel g w s (.mptr t cs i j) c) : ∃ b n, g.at_ (.mp t) = some b ∧ g.at_ (.mn t) = some n ∧ i < mnN n ∧ c = .pointer (some (pl b (i * cs.length + j))) := by
  cases h with | mptr _ _ _ _ _ b n h hn hi => exact ⟨b, n, h, hn, hi, rfl⟩
theorem ms_inv {s : Slot} {t : Nat} {cs : List CT} {off len : Nat} {c : Value} (h : VRel g w s (.ms t cs off len) c) : ∃ b cap n, g.at_ (.mp t) = some b ∧ g.at_ (.mn t) = some n ∧ off + len ≤ mnN n ∧ len ≤ cap ∧ (cap ≤ maxLen ∧ cap = mnC n) ∧ c = .slice (some (pl b (off * cs.length))) len cap := by
  cases h with | ms _ _ _ _ _ b cap n h hn ho hl hm => exact ⟨b, cap, n, h, hn, ho, hl, hm, rfl⟩
theorem sptr_inv {s : Slot} {n i : Nat} {rows : List (List V)} {c : Value} (h : VRel g w s (.sptr n rows i) c) : ∃ b, i < rows.length ∧ VRel g w .none (.sarr n rows) (.slice (some (pl b 0)) rows.length rows.length) ∧ c = .pointer (some (pl b (i * n))) := by
  cases h with | sptr _ _ _ _ b hi h => exact ⟨b, hi, h, rfl⟩
theorem sarr_inv {s : Slot} {n : Nat} {rows : List (List V)} {c : Value} (h : VRel g w s (.sarr n rows) c) : ∃ (b : Nat) (f : Nat → Nat → Value), c = .slice (some (pl b 0)) rows.length rows.length ∧ rows.length ≤ maxLen ∧ (∀ (i : Nat) (r : List V), rows[i]? = some r → r.length = n) ∧
    (∀ (i j : Nat) (r : List V) (v : V), rows[i]? = some r → r[j]? = some v → v.cellP ∧ g.stable b (i * n + j) ∧ w.cell? (pl b (i * n + j)) = some (f i j) ∧ VRel g w .none v (f i j)) := by
  cases h with | sarr _ _ _ b f hl hm hf hc h => exact ⟨b, f, rfl, hm, hl, fun i j r v hr hv => ⟨hf i j r v hr hv, (hc i j r v hr hv).1, (hc i j r v hr hv).2, h i j r v hr hv⟩⟩
theorem op_nilCheck {x : Operand} (ho : o.op = .nilCheck x) (h : Rep g0 w0 g w σ a N) (hd : ∀ t, o.dst = some t → t < N) (hr : (opM I ops o).run σ = some (true, ws)) (hn : ∀ g' a' w', Rep g0 w0 g' w' (σ.puts ws) a' N → next a' w') : o.wp P a w next Q := by
  unfold opM at hr
  rw [ho] at hr
  obtain ⟨u, hr, hu, -, -⟩ := opd_sound h hr
  cases u with
  | ptr k off =>
    obtain ⟨b, hb, e⟩ := ptr_inv hu
    exact op_plain (v := .ptr k off) (c := a.eval x) h hd (by simp [execOp, ho, e, Sem.run, pure]) (fun _ => hu.slot trivial) hr hn
  | eptr cs xs i j =>
    obtain ⟨b, o', cap, hi, hd', e⟩ := eptr_inv hu
    exact op_plain (v := .eptr cs xs i j) (c := a.eval x) h hd (by simp [execOp, ho, e, Sem.run, pure]) (fun _ => hu.slot trivial) hr hn
  | mptr t cs i j =>
    obtain ⟨b, n, hb, hnn, hi, e⟩ := mptr_inv hu
    exact op_plain (v := .mptr t cs i j) (c := a.eval x) h hd (by simp [execOp, ho, e, Sem.run, pure]) (fun _ => hu.slot trivial) hr hn
  | sptr n rows i =>
    obtain ⟨b, hi, hs, e⟩ := sptr_inv hu
    exact op_plain (v := .sptr n rows i) (c := a.eval x) h hd (by simp [execOp, ho, e, Sem.run, pure]) (fun _ => hu.slot trivial) hr hn
  | _ => cases hr
end
end Go.Proofs.Ytkcopbnaleiocaa.Ev
