/- What the evaluator's operations write stands for what the model's operations leave: operations that touch no memory. -/
import Derived.Test.YtkcopbnaleiocaaOpU
import Derived.ChangeKeysEq
import Derived.Laws.Entries
namespace Go.Proofs.Ytkcopbnaleiocaa.Ev
open Go
set_option linter.unusedVariables false
set_option linter.unusedSimpArgs false

/-- What is known of the program is so. -/
structure InfoOk (P : Program) (I : Info) : Prop where
  und : ∀ {t d}, I.und t = some d → P.underlying t = some d
  size : ∀ {t n}, I.size t = some n → ∃ i, P.info? t = some i ∧ i.size = n
  zero : ∀ {t zs}, I.zero t = some zs → ∃ i z, P.info? t = some i ∧ i.zero = some z ∧ zs = z.cells.toList.map V.val
  cts : ∀ {t cs}, I.cts t = some cs → ∃ i, P.info? t = some i ∧ i.size = cs.length
  bytes : ∀ {t n}, I.bytes t = some n → ∃ i, P.info? t = some i ∧ i.bytes = n
  zval : ∀ {t z}, I.zval t = some z → ∃ i, P.info? t = some i ∧ i.zero = some z
  func : ∀ {f fd}, I.func f = some fd → P.funcs[f]? = some fd
  mixed : P.follows .mixedOrders = true
  eqOk : ∀ {t}, I.eqOk t = true → P.stoodInHeld t = false ∧ P.eqGuardType P.depth t = false

section
variable {P : Program} {I : Info} {g0 g : Gh} {w0 w : World} {σ : St} {a : Act} {N : Nat} {o : Oper} {ops : List Oper} {next : Act → World → Prop} {Q : Exit → Act → World → Prop} {ws : List W} {b : Bool}

/-- A value goes on, with its spare room. -/
theorem Rep.goes (h : Rep g0 w0 g w σ a N) {x : Operand} {v : V} {c : Value} {d : Option Nat} (hd : ∀ t, d = some t → t < N) (hv : VRel g w (slotOf x) v c) (hx : ∀ t, x = .tmp t → σ.tmp t = some v) (hp : (∀ t, x ≠ .tmp t) → v.plain) :
    ∃ g', Rep g0 w0 g' w (σ.puts (gone x v ++ dstW d v)) (a.put d c) N := by
  by_cases hpl : v.plain
  · have : gone x v = [] := by cases x <;> cases v <;> first | rfl | exact hpl.elim
    rw [this, List.nil_append]
    exact ⟨g, h.dst hd (fun t => hv.slot hpl)⟩
  · cases x with
    | tmp s =>
      have hs := hx s rfl
      cases v with
      | own cs xs =>
        have h1 := h.viewTmp hs (v' := .arr cs xs) (fun c hc => hc.view)
        cases d with
        | none => exact ⟨g, h1⟩
        | some d => exact ⟨_, (h1.giveTmp (s := s) (s' := .tmp d) (by simp [Slot.root]) (fun u hu => by simp at hu; subst hu; trivial)).putTmp (hd d rfl) (hv.own_ren _ (toSlot_self _ _))⟩
      | uni cs xs =>
        have h1 := h.dropTmp s
        cases d with
        | none => exact ⟨g, h1⟩
        | some d => exact ⟨_, (h1.giveTmp (s := s) (s' := .tmp d) (by simp [Slot.root]) (fun u hu => by simp at hu)).putTmp (hd d rfl) (hv.uni_ren _ (toSlot_self _ _))⟩
      | tup vs =>
        have h1 := h.dropTmp s
        cases d with
        | none => exact ⟨g, h1⟩
        | some d => exact ⟨_, (h1.giveTup (s := s) (d := d) (fun u hu => by simp at hu)).putTmp (hd d rfl) (hv.tup_ren h.nones)⟩
      | _ => exact absurd trivial hpl
    | _ => exact absurd (hp (fun t e => by cases e)) hpl
theorem V.view_plain {v : V} (h : ∀ vs, v ≠ .tup vs) : v.view.plain := by
  cases v <;> first | trivial | exact absurd rfl (h _)
theorem VRel.slen_of {s s' : Slot} {cs : List CT} {xs : List (List D)} {c : Value} (h : VRel g w s (.uni cs xs) c) : VRel g w s' (.slen xs.length) c := by
  cases h with
  | uni _ _ _ _ h =>
    rcases h with ⟨rfl, rfl⟩ | ⟨b, cap, cur, e, rfl, _⟩
    · exact .slen _ _ _ _
    · exact .slen _ _ _ _
theorem VRel.viewed {s s' : Slot} {v : V} {c : Value} (h : VRel g w s v c) (ht : ∀ vs, v ≠ .tup vs) : VRel g w s' v.view c := by
  cases v with
  | own cs xs => exact h.view
  | uni cs xs => exact h.slen_of
  | tup vs => exact absurd rfl (ht vs)
  | _ => exact h.slot trivial

theorem op_move {x : Operand} (ho : o.op = .move x) (h : Rep g0 w0 g w σ a N) (hd : ∀ t, o.dst = some t → t < N) (hr : (opM I ops o).run σ = some (true, ws)) (hn : ∀ g' a' w', Rep g0 w0 g' w' (σ.puts ws) a' N → next a' w') : o.wp P a w next Q := by
  unfold opM at hr
  rw [ho] at hr
  obtain ⟨v, hr, hv, hx, hp⟩ := opd_sound h hr
  refine up_value (c := a.eval x) (w' := w) (by simp [execOp, ho, Sem.run, pure]) ?_
  have key : ∀ ws', gone x v ++ dstW o.dst v = ws' → ws = ws' → next (a.put o.dst (a.eval x)) w := by
    rintro _ rfl rfl
    obtain ⟨g', h'⟩ := h.goes hd hv hx hp
    exact hn g' _ _ h'
  cases v with
  | own cs xs =>
    simp only at hr
    split at hr
    · simp only [M.run, Option.some.injEq, Prod.mk.injEq, true_and] at hr
      exact key _ rfl hr.symm
    · simp only [M.run, Option.some.injEq, Prod.mk.injEq, true_and] at hr
      subst hr
      exact hn g _ _ (h.dst hd (fun t => hv.view))
  | uni cs xs =>
    simp only at hr
    split at hr
    · simp only [M.run, Option.some.injEq, Prod.mk.injEq, true_and] at hr
      exact key _ rfl hr.symm
    split at hr
    · rename_i s _q1 _q2
      simp only [M.run, Option.some.injEq, Prod.mk.injEq, true_and] at hr
      subst hr
      obtain ⟨g1, h1⟩ := h.raise (hx s rfl)
      obtain ⟨c, hc, hv1⟩ := h1.env s (.own cs xs) (by simp)
      have hc' : a.eval (.tmp s) = c := by simp only [Act.eval, Array.getD_eq_getD_getElem?, hc, Option.getD_some]
      obtain ⟨g2, h2⟩ := h1.goes (x := .tmp s) (d := o.dst) hd hv1 (fun t e => by cases e; simp) (fun hne => absurd rfl (hne s))
      rw [← hc'] at h2
      refine hn g2 _ _ (h2.same (fun t => ?_) (fun k => ?_))
      · cases o.dst <;> simp only [gone, dstW, List.cons_append, List.nil_append, St.puts_cons, St.puts_nil, St.tmp_put] <;> (repeat' split) <;> rfl
      · cases o.dst <;> simp only [gone, dstW, List.cons_append, List.nil_append, St.puts_cons, St.puts_nil, St.cells_put_tmp]
    · rename_i s _q1 _q2
      split at hr
      · simp only [M.run] at hr
        cases hf : σ.cells (.mp s) with
        | some => rw [hf] at hr; cases hr
        | none =>
          rw [hf] at hr
          simp only [Option.some.injEq, Prod.mk.injEq, decide_eq_true_eq] at hr
          obtain ⟨hpos, rfl⟩ := hr
          obtain ⟨g1, c, hc, hnew, h1⟩ := h.boxUni (hx s rfl) hf hpos
          have hc' : a.eval (.tmp s) = c := by simp only [Act.eval, Array.getD_eq_getD_getElem?, hc, Option.getD_some]
          exact hn g1 _ _ (h1.dst hd (fun t => by rw [hc']; exact hnew _))
      · simp only [M.run, Option.some.injEq, Prod.mk.injEq, true_and] at hr
        subst hr
        exact hn g _ _ (h.dst hd (fun t => hv.slen_of))
      · simp only [M.run, Option.some.injEq, Prod.mk.injEq, true_and] at hr
        subst hr
        obtain ⟨g1, h1⟩ := h.raise (hx s rfl)
        obtain ⟨c, hc, hv1⟩ := h1.env s (.own cs xs) (by simp)
        have hc' : a.eval (.tmp s) = c := by simp only [Act.eval, Array.getD_eq_getD_getElem?, hc, Option.getD_some]
        exact hn g1 _ _ (h1.dst hd (fun t => by rw [hc']; exact hv1.view))
    · cases hr
  | _ =>
    simp only [M.run, Option.some.injEq, Prod.mk.injEq, true_and] at hr
    exact key _ rfl hr.symm
theorem op_assign {x : Operand} (ho : o.op = .assign x) (h : Rep g0 w0 g w σ a N) (hd : ∀ t, o.dst = some t → t < N) (hr : (opM I ops o).run σ = some (true, ws)) (hn : ∀ g' a' w', Rep g0 w0 g' w' (σ.puts ws) a' N → next a' w') : o.wp P a w next Q := by
  unfold opM at hr
  rw [ho] at hr
  obtain ⟨v, hr, hv, hx, hp⟩ := opd_sound h hr
  refine up_value (c := a.eval x) (w' := w) (by simp [execOp, ho, Sem.run, pure]) ?_
  simp only [M.run, Option.some.injEq, Prod.mk.injEq, true_and] at hr
  subst hr
  obtain ⟨g', h'⟩ := h.goes hd hv hx hp
  exact hn g' _ _ h'

/-- An operation that yields a plain value and touches nothing. -/
theorem op_plain {v : V} {c : Value} (h : Rep g0 w0 g w σ a N) (hd : ∀ t, o.dst = some t → t < N) (hrun : (execOp a.eval o).run P w = .ok (.value c) w) (hv : ∀ t, VRel g w (.tmp t) v c)
    (hr : (M.ret (true, dstW o.dst v) : Step).run σ = some (true, ws)) (hn : ∀ g' a' w', Rep g0 w0 g' w' (σ.puts ws) a' N → next a' w') : o.wp P a w next Q := by
  simp only [M.run, Option.some.injEq, Prod.mk.injEq, true_and] at hr
  subst hr
  exact up_value hrun (hn g _ _ (h.dst hd hv))
theorem ret_ok {v : V} {d : Option Nat} {σ : St} (hr : (M.ret (b, dstW d v) : Step).run σ = some (true, ws)) : b = true ∧ (M.ret (true, dstW d v) : Step).run σ = some (true, ws) := by
  simp only [M.run, Option.some.injEq, Prod.mk.injEq] at hr ⊢
  exact ⟨hr.1, trivial, hr.2⟩

theorem pick_run {c x y : Operand} (ho : o.op = .pick c x y) {b : Bool} (hc : a.eval c = .bool b) : (execOp a.eval o).run P w = .ok (.value (if b then a.eval x else a.eval y)) w := by
  simp [execOp, ho, hc, asBool, Sem.run, pure, bind, Sem.bind]
theorem op_pick {c x y : Operand} (ho : o.op = .pick c x y) (h : Rep g0 w0 g w σ a N) (hd : ∀ t, o.dst = some t → t < N) (hr : (opM I ops o).run σ = some (true, ws)) (hn : ∀ g' a' w', Rep g0 w0 g' w' (σ.puts ws) a' N → next a' w') : o.wp P a w next Q := by
  unfold opM at hr
  rw [ho] at hr
  obtain ⟨v, hr, hv, -, -⟩ := opd_sound h hr
  have fin : ∀ (z : Operand) (b : Bool), a.eval c = .bool b → (if b then a.eval x else a.eval y) = a.eval z → (opd z fun v => match v with | .tup _ => .fail | v => .ret (true, dstW o.dst v.view)).run σ = some (true, ws) → o.wp P a w next Q := by
    intro z b hc hz hr
    obtain ⟨u, hr, hu, -, -⟩ := opd_sound h hr
    have hrun := pick_run (P := P) (w := w) ho hc
    rw [hz] at hrun
    cases u with
    | tup vs => cases hr
    | _ => exact op_plain h hd hrun (fun t => hu.viewed (by intro vs e; cases e)) hr hn
  split at hr
  · cases hv' : a.eval c <;> rw [hv'] at hv <;> cases hv
    exact fin x true hv' rfl hr
  · cases hv' : a.eval c <;> rw [hv'] at hv <;> cases hv
    exact fin y false hv' rfl hr
  · cases hr

theorem op_extract {x : Operand} {ix : Nat} (ho : o.op = .extract x ix) (h : Rep g0 w0 g w σ a N) (hd : ∀ t, o.dst = some t → t < N) (hr : (opM I ops o).run σ = some (true, ws)) (hn : ∀ g' a' w', Rep g0 w0 g' w' (σ.puts ws) a' N → next a' w') : o.wp P a w next Q := by
  unfold opM at hr
  rw [ho] at hr
  cases x with
  | tmp s =>
    simp only [M.run] at hr
    cases hpt : σ.part s ix with
    | none => rw [hpt] at hr; cases hr
    | some u =>
      rw [hpt] at hr
      obtain ⟨vs, hs, hi⟩ := St.part_some hpt
      obtain ⟨cc, hcc, hv⟩ := h.env s _ hs
      have hc : a.eval (.tmp s) = cc := by simp only [Act.eval, Array.getD_eq_getD_getElem?, hcc, Option.getD_some]
      cases hv with
      | tup _ _ cs hl hti hcs =>
        obtain ⟨c, hci⟩ : ∃ c, cs[ix]? = some c := by
          obtain ⟨hlt, _⟩ := List.getElem?_eq_some_iff.1 hi
          exact ⟨_, Array.getElem?_eq_getElem (by omega)⟩
        have hu := hcs ix u c hi hci
        have hrun : (execOp a.eval o).run P w = .ok (.value c) w := by
          simp [execOp, ho, hc, Instr.extract, hci, Sem.run, pure, bind, Sem.bind]
        have hplain : u.plain → (M.ret (true, dstW o.dst u) : Step).run σ = some (true, ws) → o.wp P a w next Q := fun hp hr => op_plain h hd hrun (fun t => hu.slot hp) hr hn
        cases u with
        | own cs' xs =>
            simp only [M.run, Option.some.injEq, Prod.mk.injEq, true_and] at hr
            subst hr
            simp only [St.puts_cons, St.put_part hs] at hn
            refine up_value hrun ?_
            have h1 := h.viewTmp hs (v' := .tup (vs.set ix (.arr cs' xs))) (fun c0 hc0 => by
              cases hc0 with
              | tup _ _ cs0 hl0 ht0 hcs0 =>
                refine .tup _ _ _ (by simpa using hl0) (fun i v hv => ?_) (fun i v c hv hc => ?_)
                all_goals
                  rw [List.getElem?_set] at hv
                  by_cases e : ix = i
                  · subst e
                    simp only [if_true] at hv
                    split at hv
                    · cases hv
                      first | exact trivial | exact (hcs0 ix _ c hi hc).view
                    · cases hv
                  · simp only [e, if_false] at hv
                    first | exact ht0 i v hv | exact hcs0 i v c hv hc)
            cases hdd : o.dst with
            | none =>
              have := hn g (a.put o.dst c) w (by rw [hdd]; exact h1)
              rwa [hdd] at this
            | some d =>
              have h2 := (h1.giveSub (s := s) (i := ix) (s' := .tmp d) (by simp [Slot.root]) (fun u hu => by
                simp only [St.tmp_put, if_true, Option.some.injEq] at hu
                subst hu
                intro i v hv
                rw [List.getElem?_set] at hv
                by_cases e : ix = i
                · subst e
                  simp only [if_true] at hv
                  split at hv
                  · cases hv; exact .inl trivial
                  · cases hv
                · exact .inr (toSlot_ne (by simpa using fun e' => e e'.symm)))).putTmp (hd d hdd) (hu.own_ren _ (toSlot_self _ _))
              have := hn _ (a.put o.dst c) w (by rw [hdd]; exact h2)
              rwa [hdd] at this
        | uni cs' xs =>
          have move : ∀ (K : Act → World → Prop), (∀ g' a' w', Rep g0 w0 g' w' (σ.puts (.part s ix (.slen xs.length) :: dstW o.dst (.uni cs' xs))) a' N → K a' w') → K (a.put o.dst c) w := by
            intro K hn
            simp only [St.puts_cons, St.put_part hs] at hn
            have h1 := h.viewTmp hs (v' := .tup (vs.set ix (.slen xs.length))) (fun c0 hc0 => by
              cases hc0 with
              | tup _ _ cs0 hl0 ht0 hcs0 =>
                refine .tup _ _ _ (by simpa using hl0) (fun i v hv => ?_) (fun i v c hv hc => ?_)
                all_goals
                  rw [List.getElem?_set] at hv
                  by_cases e : ix = i
                  · subst e
                    simp only [if_true] at hv
                    split at hv
                    · cases hv
                      first | exact trivial | exact (hcs0 ix _ c hi hc).slen_of
                    · cases hv
                  · simp only [e, if_false] at hv
                    first | exact ht0 i v hv | exact hcs0 i v c hv hc)
            cases hdd : o.dst with
            | none =>
              have := hn g (a.put o.dst c) w (by rw [hdd]; exact h1)
              rwa [hdd] at this
            | some d =>
              have h2 := (h1.giveSub (s := s) (i := ix) (s' := .tmp d) (by simp [Slot.root]) (fun u hu => by
                simp only [St.tmp_put, if_true, Option.some.injEq] at hu
                subst hu
                intro i v hv
                rw [List.getElem?_set] at hv
                by_cases e : ix = i
                · subst e
                  simp only [if_true] at hv
                  split at hv
                  · cases hv; exact .inl trivial
                  · cases hv
                · exact .inr (toSlot_ne (by simpa using fun e' => e e'.symm)))).putTmp (hd d hdd) (hu.uni_ren _ (toSlot_self _ _))
              have := hn _ (a.put o.dst c) w (by rw [hdd]; exact h2)
              rwa [hdd] at this
          simp only at hr
          split at hr
          · simp only [M.run, Option.some.injEq, Prod.mk.injEq, true_and] at hr
            subst hr
            exact up_value hrun (move _ hn)
          · simp only [M.run, Option.some.injEq, Prod.mk.injEq, true_and] at hr
            subst hr
            refine up_value hrun (move _ fun g' a' w' h1 => ?_)
            cases hdd : o.dst with
            | none => rw [hdd] at h1 hn; exact hn g' a' w' h1
            | some d =>
              rw [hdd] at h1 hn
              obtain ⟨g2, h2⟩ := h1.raise (s := d) (cts := cs') (xs := xs) (by simp [dstW])
              exact hn g2 a' w' (h2.same (fun t => by simp only [dstW, St.puts_cons, St.puts_nil, St.tmp_put]; split <;> rfl) (fun k => by simp only [dstW, St.puts_cons, St.puts_nil, St.cells_put_tmp]))
        | tup vs' => exact (hti ix _ hi).elim
        | _ => exact hplain trivial hr
  | _ => cases hr
end
end Go.Proofs.Ytkcopbnaleiocaa.Ev
