/- What the evaluator's operations write stands for what the model's operations leave: numbers, strings, addresses. -/
import Derived.Test.YthloggdgdklgmaaOp2
namespace Go.Proofs.Ythloggdgdklgmaa.Ev
open Go
set_option linter.unusedVariables false
set_option linter.unusedSimpArgs false

theorem pureRun_run {s : Sem Value} {v : Value} (h : pureRun s = some v) : s = .pure v := by
  cases s <;> simp [pureRun] at h
  rw [h]
theorem run_then {P : Program} {α β : Type} {s : Sem α} {f : α → Sem β} {w w' : World} {v : α} (h : s.run P w = .ok v w') : (s.bind f).run P w = (f v).run P w' := by
  have := Sem.run_bind (P := P) (w := w) s f
  simp only [bind] at this
  rw [this, h]
  rfl
theorem und_run {P : Program} {t : TypeId} {d : TypeDesc} (h : P.underlying t = some d) (w : World) : (underlying t).run P w = .ok d w := run_underlying h w
theorem equal_bool {P : Program} {t : TypeId} (h : P.underlying t = some .bool) (p q : Bool) (w : World) : (Op.equal t (.bool p) (.bool q)).run P w = .ok (p == q) w := by
  show (Op.equalIn (9999 + 1) t (.bool p) (.bool q)).run P w = _
  rw [Op.equalIn]
  show ((underlying t).bind _).run P w = _
  rw [run_then (und_run h w)]
  rfl
theorem pl_add (b o n : Nat) : (pl b o).add n = pl b (o + n) := by
  unfold Addr.add
  split
  · rename_i h; subst h; rfl
  · rfl

section
variable {P : Program} {I : Info} {g0 g : Gh} {w0 w : World} {σ : St} {a : Act} {N : Nat} {o : Oper} {ops : List Oper} {next : Act → World → Prop} {Q : Exit → Act → World → Prop} {ws : List W} {b : Bool}

theorem val_inv {s : Slot} {v c : Value} (h : VRel g w s (.val v) c) : c = v := by cases h; rfl
theorem ptr_inv {s : Slot} {k : Key} {off : Nat} {c : Value} (h : VRel g w s (.ptr k off) c) : ∃ b, g.at_ k = some b ∧ c = .pointer (some (pl b off)) := by cases h with | ptr _ _ _ b h _ => exact ⟨b, h, rfl⟩
theorem ptr_key {s : Slot} {k : Key} {off : Nat} {c : Value} (h : VRel g w s (.ptr k off) c) : k.isMp = false := by cases h; assumption
theorem mp_inv {s : Slot} {t : Nat} {c : Value} (h : VRel g w s (.mp t false) c) : ∃ b, g.at_ (.mp t) = some b ∧ c = .map (some b) := by
  generalize hv : V.mp t false = v at h
  cases h with
  | mp _ _ b h => cases hv; exact ⟨b, h, rfl⟩
  | _ => cases hv
theorem it_inv {s : Slot} {t : Nat} {c : Value} (h : VRel g w s (.mp t true) c) : ∃ b, g.at_ (.mp t) = some b ∧ c = .pointer (some (pl b 0)) := by
  generalize hv : V.mp t true = v at h
  cases h with
  | mp _ _ b h => cases hv; exact ⟨b, h, rfl⟩
  | _ => cases hv

theorem guardless {op : BinOp} {t : TypeId} {x y : Operand} {u v : Value} (h1 : u ≠ .nilIface) (h2 : ∀ cs, u ≠ .agg cs) (k : Unit → Sem Value) : ((eqGuard op t x y u v).bind k).run P w = (k ()).run P w := by
  unfold eqGuard
  cases op <;> first | rfl | (cases u <;> cases v <;> first | rfl | exact absurd rfl h1 | exact absurd rfl (h2 _))
theorem bin_run {t yt : TypeId} {op : BinOp} {x y : Operand} (ho : o.op = .binOp op t x y yt) {v : Value} (hok : InfoOk P I) (hb : binV (I.und t) op (a.eval x) (a.eval y) = some (true, v)) : (execOp a.eval o).run P w = .ok (.value v) w := by
  have hrun : (execOp a.eval o) = ((eqGuard op t x y (a.eval x) (a.eval y)).bind fun _ => binOp op t (a.eval x) (a.eval y)).bind fun v => .pure (.value v) := by
    simp only [execOp, ho]; rfl
  rw [hrun]
  have key : ((eqGuard op t x y (a.eval x) (a.eval y)).bind fun _ => binOp op t (a.eval x) (a.eval y)).run P w = .ok v w → (((eqGuard op t x y (a.eval x) (a.eval y)).bind fun _ => binOp op t (a.eval x) (a.eval y)).bind fun v => Sem.pure (Next.value v)).run P w = .ok (.value v) w := by
    intro h
    rw [run_then h]
    rfl
  apply key
  clear key hrun
  generalize a.eval x = u at hb ⊢
  generalize a.eval y = v' at hb ⊢
  cases u with
  | int k m =>
    rw [guardless (by simp) (by simp)]
    cases v' with
    | int k' n =>
      cases op <;> simp only [binV] at hb
      case quo | rem =>
        split at hb
        · rename_i e; subst e
          simp only [Option.some.injEq, Prod.mk.injEq, decide_eq_true_eq] at hb
          obtain ⟨h0, rfl⟩ := hb
          simp [binOp, Op.intDiv, h0, Sem.run, pure]
        · cases hb
      case shl | shr =>
        simp only [Option.some.injEq, Prod.mk.injEq, decide_eq_true_eq] at hb
        obtain ⟨h0, rfl⟩ := hb
        simp [binOp, Op.shift, show ¬ n < 0 by omega, Sem.run, pure]
      all_goals
        split at hb
        · rename_i e; subst e
          simp only [Option.map_eq_some_iff, Prod.mk.injEq, true_and, exists_eq_right] at hb
          have := pureRun_run hb
          simp [binOp, this, Sem.run]
        · cases hb
    | _ => simp [binV] at hb
  | string s =>
    rw [guardless (by simp) (by simp)]
    cases v' with
    | string t' =>
      cases op <;> simp only [binV] at hb
      case add =>
        simp only [Option.some.injEq, Prod.mk.injEq, decide_eq_true_eq] at hb
        obtain ⟨h0, rfl⟩ := hb
        have hm : IntKind.i64.max = 9223372036854775807 := rfl
        have : ¬ (((s.size + t'.size : Nat) : Int) > IntKind.i64.max) := by rw [hm]; omega
        show (Op.stringOp .add s t').run P w = _
        unfold Op.stringOp
        simp only [if_neg this]
        rfl
      all_goals
        simp only [Option.map_eq_some_iff, Prod.mk.injEq, true_and, exists_eq_right] at hb
        have := pureRun_run hb
        simp [binOp, this, Sem.run]
    | _ => simp [binV] at hb
  | bool p =>
    rw [guardless (by simp) (by simp)]
    cases v' with
    | bool q =>
      cases hu : I.und t with
      | none => rw [hu] at hb; cases op <;> simp [binV] at hb
      | some d =>
        rw [hu] at hb
        have hd := hok.und hu
        cases d <;> cases op <;> simp [binV] at hb
        all_goals
          subst hb
          show ((Op.equal t (.bool p) (.bool q)).bind _).run P w = _
          rw [run_then (equal_bool hd p q w)]
          rfl
    | _ => simp [binV] at hb
  | _ => simp [binV] at hb

theorem op_bin {t yt : TypeId} {op : BinOp} {x y : Operand} (ho : o.op = .binOp op t x y yt) (hok : InfoOk P I) (h : Rep g0 w0 g w σ a N) (hd : ∀ t, o.dst = some t → t < N) (hr : (opM I ops o).run σ = some (true, ws)) (hn : ∀ g' a' w', Rep g0 w0 g' w' (σ.puts ws) a' N → next a' w') : o.wp P a w next Q := by
  unfold opM at hr
  rw [ho] at hr
  obtain ⟨u, hr, hu, -, -⟩ := opd_sound h hr
  obtain ⟨v, hr, hv, -, -⟩ := opd_sound h hr
  cases u <;> cases v <;> try (cases hr; done)
  have e1 := val_inv hu
  have e2 := val_inv hv
  subst e1
  subst e2
  simp only at hr
  split at hr
  · rename_i ok v hb
    obtain ⟨hok', hr⟩ := ret_ok hr
    subst hok'
    exact op_plain h hd (bin_run ho hok hb) (fun _ => .val _ _) hr hn
  · cases hr
theorem op_un {t : TypeId} {op : UnOp} {x : Operand} (ho : o.op = .unOp op t x) (h : Rep g0 w0 g w σ a N) (hd : ∀ t, o.dst = some t → t < N) (hr : (opM I ops o).run σ = some (true, ws)) (hn : ∀ g' a' w', Rep g0 w0 g' w' (σ.puts ws) a' N → next a' w') : o.wp P a w next Q := by
  unfold opM at hr
  rw [ho] at hr
  obtain ⟨u, hr, hu, -, -⟩ := opd_sound h hr
  cases u <;> try (cases hr; done)
  have e1 := val_inv hu
  subst e1
  simp only at hr
  split at hr
  · rename_i v hb
    have := pureRun_run hb
    exact op_plain h hd (by simp [execOp, ho, this, Sem.run, pure, bind, Sem.bind]) (fun _ => .val _ _) hr hn
  · cases hr
theorem eptr_inv {s : Slot} {cs : List CT} {xs : List (List D)} {i j : Nat} {c : Value} (h : VRel g w s (.eptr cs xs i j) c) : ∃ b o cap, i < xs.length ∧ DRel g.stable w (.arr cs) (.arr xs) (.slice (some (pl b o)) xs.length cap) ∧ c = .pointer (some (pl b (o + i * cs.length + j))) := by
  cases h with | eptr _ _ _ _ _ b o cap hi h => exact ⟨b, o, cap, hi, h, rfl⟩
theorem op_nilCheck {x : Operand} (ho : o.op = .nilCheck x) (h : Rep g0 w0 g w σ a N) (hd : ∀ t, o.dst = some t → t < N) (hr : (opM I ops o).run σ = some (true, ws)) (hn : ∀ g' a' w', Rep g0 w0 g' w' (σ.puts ws) a' N → next a' w') : o.wp P a w next Q := by
  unfold opM at hr
  rw [ho] at hr
  obtain ⟨u, hr, hu, -, -⟩ := opd_sound h hr
  cases u with
  | ptr k off =>
    obtain ⟨b, hb, e⟩ := ptr_inv hu
    exact op_plain (v := .ptr k off) (c := a.eval x) h hd (by simp [execOp, ho, e, Sem.run, pure]) (fun _ => hu.slot trivial) hr hn
  | eptr cs xs i j =>
    obtain ⟨b, o', cap, hi, hd', e⟩ := eptr_inv hu
    exact op_plain (v := .eptr cs xs i j) (c := a.eval x) h hd (by simp [execOp, ho, e, Sem.run, pure]) (fun _ => hu.slot trivial) hr hn
  | _ => cases hr
end
end Go.Proofs.Ythloggdgdklgmaa.Ev
