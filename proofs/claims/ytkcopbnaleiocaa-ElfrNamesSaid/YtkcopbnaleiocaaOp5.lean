/- What the evaluator's operations write stands for what the model's operations leave: pieces, bytes, the lesser and the greater. -/
import Derived.Test.YtkcopbnaleiocaaOp4
import Derived.Deep.MidRow
namespace Go.Proofs.Ytkcopbnaleiocaa.Ev
open Go
set_option linter.unusedVariables false
set_option linter.unusedSimpArgs false
section
variable {P : Program} {I : Info} {g0 g : Gh} {w0 w : World} {σ : St} {a : Act} {N : Nat} {o : Oper} {ops : List Oper} {next : Act → World → Prop} {Q : Exit → Act → World → Prop} {ws : List W} {b : Bool}

def OptRel (g : Gh) (w : World) (a : Act) : Option Operand → Option V → Prop
  | none, none => True
  | some x, some v => VRel g w (slotOf x) v (a.eval x)
  | _, _ => False
theorem optOpd_sound (h : Rep g0 w0 g w σ a N) {x : Option Operand} {k : Option V → Step} {r : Bool × List W} (hr : (optOpd x k).run σ = some r) :
    ∃ v, (k v).run σ = some r ∧ OptRel g w a x v := by
  cases x with
  | none => exact ⟨none, hr, trivial⟩
  | some x =>
    obtain ⟨v, hr, hv, -, -⟩ := opd_sound h hr
    exact ⟨some v, hr, hv⟩
theorem cut_length {α : Type} {xs : List α} {l h : Int} (h0 : 0 ≤ l) (h1 : l ≤ h) (h2 : h ≤ xs.length) : (cut xs l h).length = h.toNat - l.toNat := by
  unfold cut; rw [List.length_take, List.length_drop]; omega
theorem cut_getD {α : Type} {xs : List α} {l h : Int} {i : Nat} {d : α} (hi : i < (cut xs l h).length) : (cut xs l h).getD i d = xs.getD (l.toNat + i) d := by
  unfold cut at hi ⊢
  rw [List.length_take, List.length_drop] at hi
  simp only [List.getD_eq_getElem?_getD, List.getElem?_take, List.getElem?_drop]
  rw [if_pos (by omega)]
theorem DRel.cutTo {st : Nat → Nat → Prop} {cs : List CT} {xs : List (List D)} {b q cap : Nat} {l h : Int} (hx : DRel st w (.arr cs) (.arr xs) (.slice (some (pl b q)) xs.length cap)) (h0 : 0 ≤ l) (h1 : l ≤ h) (h2 : h ≤ xs.length) (q' : Nat) (hq : h.toNat = l.toNat ∨ q' = q + l.toNat * cs.length) (cap' : Nat) (hc1 : h.toNat - l.toNat ≤ cap') (hc2 : cap' ≤ cap) :
    DRel st w (.arr cs) (.arr (cut xs l h)) (.slice (some (pl b q')) (h.toNat - l.toNat) cap') := by
  have hlen := cut_length h0 h1 h2
  generalize hd : D.arr xs = d at hx
  generalize hv : Value.slice (some (pl b q)) xs.length cap = v at hx
  cases hx with
  | nil _ _ p h3 =>
    simp only [Value.slice.injEq] at hv
    obtain ⟨rfl, hl, rfl⟩ := hv
    subst hd
    have hx : xs = [] := h3
    subst hx
    have hl0 : l = 0 := by simp at h2; omega
    have hh0 : h = 0 := by simp at h2; omega
    subst hl0; subst hh0
    have : cap' = 0 := by omega
    subst this
    exact .nil _ _ _ rfl
  | arr _ _ b' q0 cap0 f hn hm hc hd' =>
    simp only [Value.slice.injEq, Option.some.injEq, Addr.mk.injEq, and_true] at hv
    obtain ⟨⟨rfl, rfl⟩, -, rfl⟩ := hv
    subst hd
    have e : (D.arr (Ev.cut xs l h)).toArr = Ev.cut xs l h := rfl
    have := DRel.arr (st := st) (w := w) cs (.arr (Ev.cut xs l h)) b q' cap' (fun i j => f (l.toNat + i) j) (by rw [e, hlen]; exact hc1) (by omega) (fun i j hi hj => ?_) (fun i j c hi hj => ?_)
    · rw [e, hlen] at this; exact this
    · rw [e, hlen] at hi
      have hq' : q' = q + l.toNat * cs.length := by rcases hq with hq | hq; omega; exact hq
      have := hc (l.toNat + i) j (by simp only [D.toArr]; omega) hj
      rw [hq', show q + l.toNat * cs.length + i * cs.length + j = q + (l.toNat + i) * cs.length + j by rw [Nat.add_mul]; omega]
      exact this
    · rw [e] at hi
      have := hd' (l.toNat + i) j c (by rw [hlen] at hi; simp only [D.toArr]; omega) hj
      rw [e, cut_getD hi]
      exact this

theorem DRel.cap_le {st : Nat → Nat → Prop} {cs : List CT} {xs : List (List D)} {p : Option Addr} {n cap : Nat} (hx : DRel st w (.arr cs) (.arr xs) (.slice p n cap)) : xs.length = n ∧ n ≤ cap ∧ cap ≤ maxLen := by
  generalize hd : D.arr xs = d at hx
  generalize hv : Value.slice p n cap = v at hx
  cases hx with
  | nil _ _ p h3 =>
    simp only [Value.slice.injEq] at hv
    obtain ⟨rfl, rfl, rfl⟩ := hv
    subst hd
    have hx : xs = [] := h3
    subst hx
    simp
  | arr _ _ b' q0 cap0 f hn hm hc hd' =>
    simp only [Value.slice.injEq] at hv
    obtain ⟨rfl, rfl, rfl⟩ := hv
    subst hd
    exact ⟨rfl, hn, hm⟩
theorem DRel.cut {st : Nat → Nat → Prop} {cs : List CT} {xs : List (List D)} {b q cap : Nat} {l h : Int} (hx : DRel st w (.arr cs) (.arr xs) (.slice (some (pl b q)) xs.length cap)) (h0 : 0 ≤ l) (h1 : l ≤ h) (h2 : h ≤ xs.length) (q' : Nat) (hq : h.toNat = l.toNat ∨ q' = q + l.toNat * cs.length) :
    DRel st w (.arr cs) (.arr (cut xs l h)) (.slice (some (pl b q')) (h.toNat - l.toNat) (cap - l.toNat)) :=
  hx.cutTo h0 h1 h2 q' hq _ (by have := hx.cap_le; omega) (by omega)

theorem bounds_run {isS : Bool} {n cap : Nat} {lo hi : Option Operand} {l h : Int} {vl vh : Option V} (hl : OptRel g w a lo vl)
    (hh : OptRel g w a hi vh) (e1 : intOr 0 vl = some l) (e2 : intOr n vh = some h) (h0 : 0 ≤ l) (h1 : l ≤ h) (h2 : h ≤ n) (hc : n ≤ cap) :
    (Instr.sliceBounds isS n cap (lo.map a.eval) (hi.map a.eval) none).run P w = .ok (l.toNat, h.toNat, cap) w := by
  have hhi : (match hi.map a.eval, (none : Option Value) with | some v, some _ => Instr.sliceBound v cap .slice3B | some v, none => Instr.sliceBound v cap (if isS then .sliceAcap else .sliceAlen) | none, none => pure n | none, some _ => stuck "Slice: max without high").run P w = .ok h.toNat w := by
    cases hi with
    | none =>
      cases vh with
      | none => simp only [intOr, Option.some.injEq] at e2; subst e2; simp
      | some => exact hh.elim
    | some x =>
      cases vh with
      | none => exact hh.elim
      | some v =>
        cases v <;> simp [intOr] at e2
        rename_i val
        cases val <;> simp at e2
        subst e2
        have := val_inv hh
        rename_i m
        have h3 : 0 ≤ m := by omega
        have h4 : m ≤ (cap : Int) := by omega
        simp [Instr.sliceBound, this, asIntOf, h3, h4]
  have hlo : (match lo.map a.eval with | some v => Instr.sliceBound v h.toNat (if (none : Option Value).isSome then .slice3C else .sliceB) | none => pure 0).run P w = .ok l.toNat w := by
    cases lo with
    | none =>
      cases vl with
      | none => simp only [intOr, Option.some.injEq] at e1; subst e1; simp
      | some => exact hl.elim
    | some x =>
      cases vl with
      | none => exact hl.elim
      | some v =>
        cases v <;> simp [intOr] at e1
        rename_i val
        cases val <;> simp at e1
        subst e1
        have := val_inv hl
        rename_i m
        have h3 : m ≤ (h.toNat : Int) := by omega
        unfold Instr.sliceBound
        simp only [Option.map_some, this, asIntOf, Sem.run_bind, Sem.run_pure, Result.andThen_ok, h0, h3, and_self, if_true]
  unfold Instr.sliceBounds
  simp only [Sem.run_bind, Sem.run_pure]
  cases hi <;> cases lo <;> simp_all

theorem zero3_eq {lo hi mx : Option Operand} (h : zero3 lo hi mx = true) : lo = none ∧ (∃ k, hi = some (.const (.int k 0))) ∧ ∃ k, mx = some (.const (.int k 0)) := by
  unfold zero3 at h
  split at h
  · simp only [Bool.and_eq_true, beq_iff_eq] at h
    obtain ⟨rfl, rfl⟩ := h
    exact ⟨rfl, ⟨_, rfl⟩, _, rfl⟩
  · cases h
theorem op_slice {t : TypeId} {x : Operand} {lo hi mx : Option Operand} (ho : o.op = .slice t x lo hi mx) (hok : InfoOk P I) (h : Rep g0 w0 g w σ a N) (hd : ∀ t, o.dst = some t → t < N) (hr : (opM I ops o).run σ = some (true, ws)) (hn : ∀ g' a' w', Rep g0 w0 g' w' (σ.puts ws) a' N → next a' w') : o.wp P a w next Q := by
  unfold opM at hr
  rw [ho] at hr
  obtain ⟨u, hr1, hu, -, -⟩ := opd_sound h hr
  clear hr
  obtain ⟨vl, hr2, hl⟩ := optOpd_sound h hr1
  clear hr1
  obtain ⟨vh, hr, hh⟩ := optOpd_sound h hr2
  clear hr2
  cases mx with
  | some mo =>
    split at hr
    · cases ‹some mo = none›
    · cases ‹some mo = none›
    · cases ‹some mo = none›
    · rename_i mo' e c xs hmo ht
      cases hmo
      obtain ⟨um, hr, hum, -, -⟩ := opd_sound h hr
      split at hr
      case h_2 => cases hr
      rename_i l k1 hh' k2 mm e1 hold
      split at hr
      case isFalse => cases hr
      rename_i hsz
      obtain ⟨hb, hr⟩ := ret_ok hr
      simp only [okBounds, Bool.and_eq_true, decide_eq_true_eq] at hb
      obtain ⟨⟨⟨b1, b2⟩, b3⟩, b4⟩ := hb
      obtain ⟨inf, hinf, hin⟩ := hok.size hsz
      have hmv := val_inv hum
      have he : execOp a.eval o = (Instr.sliceAt t (a.eval x) (lo.map a.eval) (hi.map a.eval) (some (a.eval mo))).bind fun v => .pure (.value v) := by
        simp only [execOp, ho]; rfl
      have hx := arr_d hu
      have hhi : hi.map a.eval = some (.int k1 hh') := by
        cases hi with
        | none => exact hh.elim
        | some y => simp only [Option.map_some]; rw [val_inv hh]
      have hlo : ∀ n : Nat, l ≤ n → (match lo.map a.eval with | some v => Instr.sliceBound v n (if (some (a.eval mo) : Option Value).isSome then .slice3C else .sliceB) | none => pure 0).run P w = .ok l.toNat w := by
        intro n hln
        cases lo with
        | none =>
          cases vl with
          | none => simp only [intOr, Option.some.injEq] at e1; subst e1; simp
          | some => exact hl.elim
        | some y =>
          cases vl with
          | none => exact hl.elim
          | some v =>
            cases v <;> simp [intOr] at e1
            rename_i val
            cases val <;> simp at e1
            subst e1
            have := val_inv hl
            unfold Instr.sliceBound
            simp only [Option.map_some, this, asIntOf, Sem.run_bind, Sem.run_pure, Result.andThen_ok, b1, hln, and_self, if_true]
      have hcl := fun (p : Option Addr) (n cap : Nat) (hp : a.eval x = .slice p n cap) => DRel.cap_le (hp ▸ hx)
      have bnd : ∀ cap : Nat, xs.length ≤ cap → (Instr.sliceBounds true xs.length cap (lo.map a.eval) (hi.map a.eval) (some (a.eval mo))).run P w = .ok (l.toNat, hh'.toNat, mm.toNat) w := by
        intro cap hcap
        unfold Instr.sliceBounds
        rw [hhi, hmv]
        have m1 : 0 ≤ mm ∧ mm ≤ (cap : Int) := by omega
        have m2 : 0 ≤ hh' ∧ hh' ≤ ((mm.toNat : Nat) : Int) := by omega
        have e3 : (Instr.sliceBound (.int k2 mm) cap .slice3Acap).run P w = .ok mm.toNat w := by
          unfold Instr.sliceBound
          simp only [asIntOf, Sem.run_bind, Sem.run_pure, Result.andThen_ok, m1, and_self, if_true]
        have e4 : (Instr.sliceBound (.int k1 hh') mm.toNat .slice3B).run P w = .ok hh'.toNat w := by
          unfold Instr.sliceBound
          simp only [asIntOf, Sem.run_bind, Sem.run_pure, Result.andThen_ok, m2, and_self, if_true]
        have e5 := hlo hh'.toNat (by omega)
        rw [hmv] at e5
        simp only [Sem.run_bind, Sem.run_pure, if_true, e3, Result.andThen_ok, e4]
        cases hlo' : lo.map a.eval with
        | none =>
          rw [hlo'] at e5
          have e6 : (0 : Nat) = l.toNat := by simpa using e5
          simp [e6]
        | some v =>
          rw [hlo'] at e5
          simp only at e5
          simp only [Sem.run_bind, e5, Result.andThen_ok, Sem.run_pure]
      have hz : zero3 lo hi (some mo) = true → l = 0 ∧ hh' = 0 ∧ mm = 0 := by
        intro hz
        obtain ⟨e3, ⟨k3, e4⟩, k4, e5⟩ := zero3_eq hz
        subst e3; subst e4; cases e5
        refine ⟨?_, ?_, ?_⟩
        · cases vl with
          | none => simp only [intOr, Option.some.injEq] at e1; exact e1.symm
          | some => exact hl.elim
        · simp only [Option.map_some, Option.some.injEq] at hhi
          have : Value.int k3 0 = .int k1 hh' := hhi
          cases this; rfl
        · have : Value.int k4 0 = .int k2 mm := hmv
          cases this; rfl
      rcases row_inv (s := .none) hx with ⟨rfl, p, e'⟩ | ⟨b, q, cap, e', hc, hm⟩
      · have hb' := bnd 0 (by simp)
        simp at b4
        have l0 : l = 0 := by omega
        have h0 : hh' = 0 := by omega
        have m0 : mm = 0 := by omega
        subst l0; subst h0; subst m0
        have : (Instr.sliceAt t (a.eval x) (lo.map a.eval) (hi.map a.eval) (some (a.eval mo))).run P w = .ok (.slice p 0 0) w := by
          simp only [List.length_nil] at hb'
          cases p <;> simp [Instr.sliceAt, Instr.slice, und_run (hok.und ht), e', hb', size_run hinf]
        cases hzz : zero3 lo hi (some mo) with
        | false => rw [hzz] at hr; exact op_plain h hd (sem_run he this) (fun _ => .arr _ _ _ _ (.nil _ _ _ rfl)) hr hn
        | true => rw [hzz] at hr; exact op_plain h hd (sem_run he this) (fun _ => .own _ _ _ _ (.nil _ _ _ rfl) (.inr (.inl ⟨rfl, p, rfl⟩))) hr hn
      · have hb' := bnd cap hc
        have : (Instr.sliceAt t (a.eval x) (lo.map a.eval) (hi.map a.eval) (some (a.eval mo))).run P w = .ok (.slice (some (pl b (if mm.toNat = l.toNat then q else q + l.toNat * c.length))) (hh'.toNat - l.toNat) (mm.toNat - l.toNat)) w := by
          simp [Instr.sliceAt, Instr.slice, und_run (hok.und ht), e', hb', size_run hinf, hin, pl_add]
          split <;> rfl
        cases hzz : zero3 lo hi (some mo) with
        | true =>
          rw [hzz] at hr
          obtain ⟨z1, z2, z3⟩ := hz hzz
          refine op_plain (v := .own c []) h hd (sem_run he this) (fun _ => ?_) hr hn
          have e1 : hh'.toNat - l.toNat = 0 := by omega
          have e2 : mm.toNat - l.toNat = 0 := by omega
          rw [e1, e2]
          exact .own _ _ _ _ (.nil _ _ _ rfl) (.inr (.inl ⟨rfl, _, rfl⟩))
        | false =>
        rw [hzz] at hr
        refine op_plain h hd (sem_run he this) (fun _ => .arr _ _ _ _ ?_) hr hn
        rw [e'] at hx
        refine hx.cutTo b1 b2 (by omega) _ ?_ _ (by omega) (by omega)
        split
        · left; omega
        · right; rfl
    · cases hr
  | none =>
  cases ht : I.und t with
  | none => rw [ht] at hr; cases hr
  | some d =>
  rw [ht] at hr
  have he : execOp a.eval o = (Instr.sliceAt t (a.eval x) (lo.map a.eval) (hi.map a.eval) none).bind fun v => .pure (.value v) := by
    simp only [execOp, ho]; rfl
  have slice : ∀ (e : TypeId) (cs : List CT) (xs : List (List D)), d = .slice e → DRel g.stable w (.arr cs) (.arr xs) (a.eval x) →
      (match intOr 0 vl, intOr xs.length vh with | some l, some h => if I.size e = some cs.length then (M.ret (okBounds l h xs.length, dstW o.dst (.arr cs (cut xs l h))) : Step) else .fail | _, _ => .fail).run σ = some (true, ws) → o.wp P a w next Q := by
    rintro e cs xs rfl hx hr
    cases e1 : intOr 0 vl with
    | none => rw [e1] at hr; cases hr
    | some l =>
    cases e2 : intOr xs.length vh with
    | none => rw [e1, e2] at hr; cases hr
    | some h' =>
    rw [e1, e2] at hr
    simp only at hr
    split at hr
    · rename_i hsz
      obtain ⟨hb, hr⟩ := ret_ok hr
      simp only [okBounds, Bool.and_eq_true, decide_eq_true_eq] at hb
      obtain ⟨inf, hinf, hin⟩ := hok.size hsz
      rcases row_inv (s := .none) hx with ⟨rfl, p, e'⟩ | ⟨b, q, cap, e', hc, hm⟩
      · have hb' := bounds_run (P := P) (isS := true) (cap := 0) hl hh e1 e2 hb.1.1 hb.1.2 hb.2 (by simp)
        simp at hb
        have l0 : l = 0 := by omega
        have h0 : h' = 0 := by omega
        subst l0; subst h0
        have : (Instr.sliceAt t (a.eval x) (lo.map a.eval) (hi.map a.eval) none).run P w = .ok (.slice p 0 0) w := by
          simp at hb'
          cases p <;> simp [Instr.sliceAt, Instr.slice, und_run (hok.und ht), e', nilSlice, hb', size_run hinf]
        exact op_plain h hd (sem_run he this) (fun _ => .arr _ _ _ _ (.nil _ _ _ rfl)) hr hn
      · have hb' := bounds_run (P := P) (isS := true) (cap := cap) hl hh e1 e2 hb.1.1 hb.1.2 hb.2 hc
        have : (Instr.sliceAt t (a.eval x) (lo.map a.eval) (hi.map a.eval) none).run P w = .ok (.slice (some (pl b (if cap = l.toNat then q else q + l.toNat * cs.length))) (h'.toNat - l.toNat) (cap - l.toNat)) w := by
          simp [Instr.sliceAt, Instr.slice, und_run (hok.und ht), e', hb', size_run hinf, hin, pl_add]
          split <;> rfl
        refine op_plain h hd (sem_run he this) (fun _ => .arr _ _ _ _ ?_) hr hn
        rw [e'] at hx
        refine hx.cut hb.1.1 hb.1.2 hb.2 _ ?_
        split
        · left; omega
        · right; rfl
    · cases hr
  cases d <;> try (cases hr; done)
  · cases u <;> try (cases hr; done)
    rename_i val
    have e := val_inv hu
    cases val <;> try (cases hr; done)
    rename_i s
    simp only at hr
    cases e1 : intOr 0 vl with
    | none => rw [e1] at hr; cases hr
    | some l =>
    cases e2 : intOr s.size vh with
    | none => rw [e1, e2] at hr; cases hr
    | some h' =>
    rw [e1, e2] at hr
    simp only at hr
    obtain ⟨hb, hr⟩ := ret_ok hr
    simp only [okBounds, Bool.and_eq_true, decide_eq_true_eq] at hb
    have hb' := bounds_run (P := P) (isS := false) (cap := s.size) hl hh e1 e2 hb.1.1 hb.1.2 hb.2 (by omega)
    have : (Instr.sliceAt t (a.eval x) (lo.map a.eval) (hi.map a.eval) none).run P w = .ok (.string (s.extract l.toNat h'.toNat)) w := by
      simp [Instr.sliceAt, Instr.slice, und_run (hok.und ht), e, hb']
    exact op_plain h hd (sem_run he this) (fun _ => .val _ _) hr hn
  · cases u <;> try (cases hr; done)
    · exact slice _ _ _ rfl (arr_d hu) hr
    · exact slice _ _ _ rfl (own_d hu) hr

theorem intsK_get {k : IntKind} : ∀ {vs : List V} {ns : List Int}, intsK k vs = some ns → ∀ i (hi : i < ns.length), vs[i]? = some (.val (.int k ns[i]))
  | [], ns, h, i, hi => by cases h; simp at hi
  | v :: vs, ns, h, i, hi => by
    unfold intsK at h
    split at h
    · cases h; simp at hi
    · rename_i k' n r heq
      cases heq
      split at h
      · rename_i e; subst e
        simp only [Option.map_eq_some_iff] at h
        obtain ⟨l, hl, rfl⟩ := h
        cases i with
        | zero => rfl
        | succ i => simpa using intsK_get hl i (by simpa using hi)
      · cases h
    · cases h
theorem intsOf_get {k : IntKind} {vs : List V} {ns : List Int} (h : intsOf vs = some (k, ns)) : ∀ i (hi : i < ns.length), vs[i]? = some (.val (.int k ns[i])) := by
  unfold intsOf at h
  split at h
  · simp only [Option.map_eq_some_iff, Prod.mk.injEq] at h
    obtain ⟨l, hl, rfl, rfl⟩ := h
    intro i hi
    cases i with
    | zero => rfl
    | succ i => simpa using intsK_get hl i (by simpa using hi)
  · cases h
theorem op_index {t : TypeId} {x ix : Operand} (ho : o.op = .index t x ix) (hok : InfoOk P I) (h : Rep g0 w0 g w σ a N) (hd : ∀ t, o.dst = some t → t < N) (hr : (opM I ops o).run σ = some (true, ws)) (hn : ∀ g' a' w', Rep g0 w0 g' w' (σ.puts ws) a' N → next a' w') : o.wp P a w next Q := by
  unfold opM at hr
  rw [ho] at hr
  obtain ⟨u, hr1, hu, -, -⟩ := opd_sound h hr
  clear hr
  obtain ⟨v, hr, hv, -, -⟩ := opd_sound h hr1
  clear hr1
  have he : execOp a.eval o = (Instr.index t (a.eval x) (a.eval ix)).bind fun v => .pure (.value v) := by
    simp only [execOp, ho]; rfl
  cases ht : I.und t with
  | none => rw [ht] at hr; cases hr
  | some d =>
  rw [ht] at hr
  cases d <;> try (cases hr; done)
  case array len e =>
    cases u <;> try (cases hr; done)
    rename_i vs
    cases v <;> try (cases hr; done)
    rename_i val
    have e2 := val_inv hv
    cases val <;> try (cases hr; done)
    rename_i k i
    simp only at hr
    generalize hcx : a.eval x = c at hu
    split at hr
    · rename_i hag hsz
      obtain ⟨ti, hti, htn⟩ := hok.size hsz
      split at hr
      · rename_i k2 ns hns
        split at hr
        case isFalse => cases hr
        rename_i hlen
        obtain ⟨hb, hr⟩ := ret_ok hr
        simp only [Bool.and_eq_true, decide_eq_true_eq] at hb
        have hget := intsOf_get hns
        have hnl : i.toNat < ns.length := by omega
        have hvi := hget i.toNat hnl
        cases hu with
        | agg _ _ cs hl hf hcs =>
          have hlt := (List.getElem?_eq_some_iff.1 hvi).1
          have hc : cs[i.toNat]? = some (cs[i.toNat]'(by omega)) := Array.getElem?_eq_getElem _
          have hval := val_inv (hcs _ _ _ hvi hc)
          rw [hval] at hc
          have hgd : ns.getD i.toNat 0 = ns[i.toNat] := by rw [List.getD_eq_getElem?_getD, List.getElem?_eq_getElem hnl]; rfl
          rw [hgd] at hr
          refine op_plain h hd (sem_run he ?_) (fun s => .val _ _) hr hn
          have hi1 : (i.toNat : Nat) * 1 = i.toNat := Nat.mul_one _
          rw [hcx, e2]
          simp [Instr.index, asIntOf, und_run (hok.und ht), hb.1, hb.2, size_run hti, htn, part, (isAgg_run hok hag w).1, hc]
      · split at hr
        case h_2 => cases hr
        rename_i v1 hvi
        obtain ⟨hb, hr⟩ := ret_ok hr
        simp only [Bool.and_eq_true, decide_eq_true_eq] at hb
        cases hu with
        | agg _ _ cs hl hf hcs =>
          have hlt := (List.getElem?_eq_some_iff.1 hvi).1
          have hc : cs[i.toNat]? = some (cs[i.toNat]'(by omega)) := Array.getElem?_eq_getElem _
          have hfl := hf _ _ hvi
          refine op_plain (v := v1.view) h hd (sem_run he ?_) (fun s => (hcs _ _ _ hvi hc).viewed (by rintro us rfl; exact hfl)) hr hn
          have hi1 : (i.toNat : Nat) * 1 = i.toNat := Nat.mul_one _
          rw [hcx, e2]
          simp [Instr.index, asIntOf, und_run (hok.und ht), hb.1, hb.2, size_run hti, htn, part, (isAgg_run hok hag w).1, hc]
    · rename_i sz hag hsz
      obtain ⟨ti, hti, htn⟩ := hok.size hsz
      split at hr
      case isFalse => cases hr
      rename_i hlen
      obtain ⟨hb, hr⟩ := ret_ok hr
      simp only [Bool.and_eq_true, decide_eq_true_eq] at hb
      cases hu with
      | agg _ _ cs hl hf hcs =>
        refine op_plain (v := .agg ((vs.drop (i.toNat * sz)).take sz)) (c := .agg (cs.extract (i.toNat * sz) (i.toNat * sz + sz))) h hd (sem_run he ?_) (fun s => ?_) hr hn
        · rw [hcx, e2]
          simp [Instr.index, asIntOf, und_run (hok.und ht), hb.1, hb.2, size_run hti, htn, part, (isAgg_run hok hag w).1]
        · have hget : ∀ m v, ((vs.drop (i.toNat * sz)).take sz)[m]? = some v → m < sz ∧ vs[i.toNat * sz + m]? = some v := fun m v hv => by
            rw [List.getElem?_take] at hv
            split at hv
            · rename_i hm; rw [List.getElem?_drop] at hv; exact ⟨hm, hv⟩
            · cases hv
          refine .agg _ _ _ (by simp; omega) (fun m v hv => hf _ _ (hget m v hv).2) (fun m v c' hv hc' => ?_)
          obtain ⟨hm, hv⟩ := hget m v hv
          refine hcs _ _ c' hv ?_
          rw [Array.getElem?_extract] at hc'
          split at hc'
          · exact hc'
          · cases hc'
    · cases hr
  cases u <;> try (cases hr; done)
  rename_i val
  have e1 := val_inv hu
  cases val <;> try (cases hr; done)
  cases v <;> try (cases hr; done)
  rename_i val
  have e2 := val_inv hv
  cases val <;> try (cases hr; done)
  rename_i s k i
  obtain ⟨hb, hr⟩ := ret_ok hr
  simp only [Bool.and_eq_true, decide_eq_true_eq] at hb
  have hlt : i.toNat < s.size := by omega
  have : (Instr.index t (a.eval x) (a.eval ix)).run P w = .ok (.int .u8 (byteAt s i)) w := by
    have hg : s[i.toNat]? = some s[i.toNat] := getElem?_pos s i.toNat hlt
    have hB : byteAt s i = (s[i.toNat].toNat : Int) := by
      unfold byteAt
      rw [List.getD_eq_getElem?_getD, List.getElem?_eq_getElem (by simpa using hlt)]
      rfl
    simp [Instr.index, e1, e2, asIntOf, und_run (hok.und ht), hb.1, hg, hB]
  exact op_plain h hd (sem_run he this) (fun _ => .val _ _) hr hn
end
end Go.Proofs.Ytkcopbnaleiocaa.Ev
