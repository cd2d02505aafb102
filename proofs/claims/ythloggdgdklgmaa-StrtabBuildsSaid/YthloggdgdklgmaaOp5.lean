/- What the evaluator's operations write stands for what the model's operations leave: pieces, bytes, the lesser and the greater. -/
import Derived.Test.YthloggdgdklgmaaOp4
import Derived.Deep.MidRow
namespace Go.Proofs.Ythloggdgdklgmaa.Ev
open Go
set_option linter.unusedVariables false
set_option linter.unusedSimpArgs false
section
variable {P : Program} {I : Info} {g0 g : Gh} {w0 w : World} {σ : St} {a : Act} {N : Nat} {o : Oper} {ops : List Oper} {next : Act → World → Prop} {Q : Exit → Act → World → Prop} {ws : List W} {b : Bool}

def OptRel (g : Gh) (w : World) (a : Act) : Option Operand → Option V → Prop
  | none, none => True
  | some x, some v => VRel g w (slotOf x) v (a.eval x)
  | _, _ => False
theorem optOpd_sound (h : Rep g0 w0 g w σ a N) {x : Option Operand} {k : Option V → Step} {r : Bool × List W} (hr : (optOpd x k).run σ = some r) :
    ∃ v, (k v).run σ = some r ∧ OptRel g w a x v := by
  cases x with
  | none => exact ⟨none, hr, trivial⟩
  | some x =>
    obtain ⟨v, hr, hv, -, -⟩ := opd_sound h hr
    exact ⟨some v, hr, hv⟩
theorem cut_length {α : Type} {xs : List α} {l h : Int} (h0 : 0 ≤ l) (h1 : l ≤ h) (h2 : h ≤ xs.length) : (cut xs l h).length = h.toNat - l.toNat := by
  unfold cut; rw [List.length_take, List.length_drop]; omega
theorem cut_getD {α : Type} {xs : List α} {l h : Int} {i : Nat} {d : α} (hi : i < (cut xs l h).length) : (cut xs l h).getD i d = xs.getD (l.toNat + i) d := by
  unfold cut at hi ⊢
  rw [List.length_take, List.length_drop] at hi
  simp only [List.getD_eq_getElem?_getD, List.getElem?_take, List.getElem?_drop]
  rw [if_pos (by omega)]
theorem DRel.cut {st : Nat → Nat → Prop} {cs : List CT} {xs : List (List D)} {b q cap : Nat} {l h : Int} (hx : DRel st w (.arr cs) (.arr xs) (.slice (some (pl b q)) xs.length cap)) (h0 : 0 ≤ l) (h1 : l ≤ h) (h2 : h ≤ xs.length) (q' : Nat) (hq : h.toNat = l.toNat ∨ q' = q + l.toNat * cs.length) :
    DRel st w (.arr cs) (.arr (cut xs l h)) (.slice (some (pl b q')) (h.toNat - l.toNat) (cap - l.toNat)) := by
  have hlen := cut_length h0 h1 h2
  generalize hd : D.arr xs = d at hx
  generalize hv : Value.slice (some (pl b q)) xs.length cap = v at hx
  cases hx with
  | nil _ _ p h3 =>
    simp only [Value.slice.injEq] at hv
    obtain ⟨rfl, hl, rfl⟩ := hv
    subst hd
    have hx : xs = [] := h3
    subst hx
    have hl0 : l = 0 := by simp at h2; omega
    have hh0 : h = 0 := by simp at h2; omega
    subst hl0; subst hh0
    exact .nil _ _ _ rfl
  | arr _ _ b' q0 cap' f hn hm hc hd' =>
    simp only [Value.slice.injEq, Option.some.injEq, Addr.mk.injEq, and_true] at hv
    obtain ⟨⟨rfl, rfl⟩, -, rfl⟩ := hv
    subst hd
    have e : (D.arr (Ev.cut xs l h)).toArr = Ev.cut xs l h := rfl
    have := DRel.arr (st := st) (w := w) cs (.arr (Ev.cut xs l h)) b q' (cap - l.toNat) (fun i j => f (l.toNat + i) j) (by rw [e, hlen]; simp only [D.toArr] at hn; omega) (by omega) (fun i j hi hj => ?_) (fun i j c hi hj => ?_)
    · rw [e, hlen] at this; exact this
    · rw [e, hlen] at hi
      have hq' : q' = q + l.toNat * cs.length := by rcases hq with hq | hq; omega; exact hq
      have := hc (l.toNat + i) j (by simp only [D.toArr]; omega) hj
      rw [hq', show q + l.toNat * cs.length + i * cs.length + j = q + (l.toNat + i) * cs.length + j by rw [Nat.add_mul]; omega]
      exact this
    · rw [e] at hi
      have := hd' (l.toNat + i) j c (by rw [hlen] at hi; simp only [D.toArr]; omega) hj
      rw [e, cut_getD hi]
      exact this

theorem bounds_run {isS : Bool} {n cap : Nat} {lo hi : Option Operand} {l h : Int} {vl vh : Option V} (hl : OptRel g w a lo vl)
    (hh : OptRel g w a hi vh) (e1 : intOr 0 vl = some l) (e2 : intOr n vh = some h) (h0 : 0 ≤ l) (h1 : l ≤ h) (h2 : h ≤ n) (hc : n ≤ cap) :
    (Instr.sliceBounds isS n cap (lo.map a.eval) (hi.map a.eval) none).run P w = .ok (l.toNat, h.toNat, cap) w := by
  have hhi : (match hi.map a.eval, (none : Option Value) with | some v, some _ => Instr.sliceBound v cap .slice3B | some v, none => Instr.sliceBound v cap (if isS then .sliceAcap else .sliceAlen) | none, none => pure n | none, some _ => stuck "Slice: max without high").run P w = .ok h.toNat w := by
    cases hi with
    | none =>
      cases vh with
      | none => simp only [intOr, Option.some.injEq] at e2; subst e2; simp
      | some => exact hh.elim
    | some x =>
      cases vh with
      | none => exact hh.elim
      | some v =>
        cases v <;> simp [intOr] at e2
        rename_i val
        cases val <;> simp at e2
        subst e2
        have := val_inv hh
        rename_i m
        have h3 : 0 ≤ m := by omega
        have h4 : m ≤ (cap : Int) := by omega
        simp [Instr.sliceBound, this, asIntOf, h3, h4]
  have hlo : (match lo.map a.eval with | some v => Instr.sliceBound v h.toNat (if (none : Option Value).isSome then .slice3C else .sliceB) | none => pure 0).run P w = .ok l.toNat w := by
    cases lo with
    | none =>
      cases vl with
      | none => simp only [intOr, Option.some.injEq] at e1; subst e1; simp
      | some => exact hl.elim
    | some x =>
      cases vl with
      | none => exact hl.elim
      | some v =>
        cases v <;> simp [intOr] at e1
        rename_i val
        cases val <;> simp at e1
        subst e1
        have := val_inv hl
        rename_i m
        have h3 : m ≤ (h.toNat : Int) := by omega
        unfold Instr.sliceBound
        simp only [Option.map_some, this, asIntOf, Sem.run_bind, Sem.run_pure, Result.andThen_ok, h0, h3, and_self, if_true]
  unfold Instr.sliceBounds
  simp only [Sem.run_bind, Sem.run_pure]
  cases hi <;> cases lo <;> simp_all

theorem op_slice {t : TypeId} {x : Operand} {lo hi mx : Option Operand} (ho : o.op = .slice t x lo hi mx) (hok : InfoOk P I) (h : Rep g0 w0 g w σ a N) (hd : ∀ t, o.dst = some t → t < N) (hr : (opM I ops o).run σ = some (true, ws)) (hn : ∀ g' a' w', Rep g0 w0 g' w' (σ.puts ws) a' N → next a' w') : o.wp P a w next Q := by
  unfold opM at hr
  rw [ho] at hr
  obtain ⟨u, hr1, hu, -, -⟩ := opd_sound h hr
  clear hr
  obtain ⟨vl, hr2, hl⟩ := optOpd_sound h hr1
  clear hr1
  obtain ⟨vh, hr, hh⟩ := optOpd_sound h hr2
  clear hr2
  cases mx with
  | some => cases hr
  | none =>
  cases ht : I.und t with
  | none => rw [ht] at hr; cases hr
  | some d =>
  rw [ht] at hr
  have he : execOp a.eval o = (Instr.sliceAt t (a.eval x) (lo.map a.eval) (hi.map a.eval) none).bind fun v => .pure (.value v) := by
    simp only [execOp, ho]; rfl
  have slice : ∀ (e : TypeId) (cs : List CT) (xs : List (List D)), d = .slice e → DRel g.stable w (.arr cs) (.arr xs) (a.eval x) →
      (match intOr 0 vl, intOr xs.length vh with | some l, some h => if I.size e = some cs.length then (M.ret (okBounds l h xs.length, dstW o.dst (.arr cs (cut xs l h))) : Step) else .fail | _, _ => .fail).run σ = some (true, ws) → o.wp P a w next Q := by
    rintro e cs xs rfl hx hr
    cases e1 : intOr 0 vl with
    | none => rw [e1] at hr; cases hr
    | some l =>
    cases e2 : intOr xs.length vh with
    | none => rw [e1, e2] at hr; cases hr
    | some h' =>
    rw [e1, e2] at hr
    simp only at hr
    split at hr
    · rename_i hsz
      obtain ⟨hb, hr⟩ := ret_ok hr
      simp only [okBounds, Bool.and_eq_true, decide_eq_true_eq] at hb
      obtain ⟨inf, hinf, hin⟩ := hok.size hsz
      rcases row_inv (s := .none) hx with ⟨rfl, p, e'⟩ | ⟨b, q, cap, e', hc, hm⟩
      · have hb' := bounds_run (P := P) (isS := true) (cap := 0) hl hh e1 e2 hb.1.1 hb.1.2 hb.2 (by simp)
        simp at hb
        have l0 : l = 0 := by omega
        have h0 : h' = 0 := by omega
        subst l0; subst h0
        have : (Instr.sliceAt t (a.eval x) (lo.map a.eval) (hi.map a.eval) none).run P w = .ok (.slice p 0 0) w := by
          simp at hb'
          cases p <;> simp [Instr.sliceAt, Instr.slice, und_run (hok.und ht), e', nilSlice, hb', size_run hinf]
        exact op_plain h hd (sem_run he this) (fun _ => .arr _ _ _ _ (.nil _ _ _ rfl)) hr hn
      · have hb' := bounds_run (P := P) (isS := true) (cap := cap) hl hh e1 e2 hb.1.1 hb.1.2 hb.2 hc
        have : (Instr.sliceAt t (a.eval x) (lo.map a.eval) (hi.map a.eval) none).run P w = .ok (.slice (some (pl b (if cap = l.toNat then q else q + l.toNat * cs.length))) (h'.toNat - l.toNat) (cap - l.toNat)) w := by
          simp [Instr.sliceAt, Instr.slice, und_run (hok.und ht), e', hb', size_run hinf, hin, pl_add]
          split <;> rfl
        refine op_plain h hd (sem_run he this) (fun _ => .arr _ _ _ _ ?_) hr hn
        rw [e'] at hx
        refine hx.cut hb.1.1 hb.1.2 hb.2 _ ?_
        split
        · left; omega
        · right; rfl
    · cases hr
  cases d <;> try (cases hr; done)
  · cases u <;> try (cases hr; done)
    rename_i val
    have e := val_inv hu
    cases val <;> try (cases hr; done)
    rename_i s
    simp only at hr
    cases e1 : intOr 0 vl with
    | none => rw [e1] at hr; cases hr
    | some l =>
    cases e2 : intOr s.size vh with
    | none => rw [e1, e2] at hr; cases hr
    | some h' =>
    rw [e1, e2] at hr
    simp only at hr
    obtain ⟨hb, hr⟩ := ret_ok hr
    simp only [okBounds, Bool.and_eq_true, decide_eq_true_eq] at hb
    have hb' := bounds_run (P := P) (isS := false) (cap := s.size) hl hh e1 e2 hb.1.1 hb.1.2 hb.2 (by omega)
    have : (Instr.sliceAt t (a.eval x) (lo.map a.eval) (hi.map a.eval) none).run P w = .ok (.string (s.extract l.toNat h'.toNat)) w := by
      simp [Instr.sliceAt, Instr.slice, und_run (hok.und ht), e, hb']
    exact op_plain h hd (sem_run he this) (fun _ => .val _ _) hr hn
  · cases u <;> try (cases hr; done)
    · exact slice _ _ _ rfl (arr_d hu) hr
    · exact slice _ _ _ rfl (own_d hu) hr

theorem isAgg_run {t : TypeId} (hok : InfoOk P I) {b : Bool} (h : isAggT I t = some b) (w : World) : (isAgg t).run P w = .ok b w ∧ ∃ d, P.underlying t = some d ∧ d.isRow = b := by
  unfold isAggT at h
  cases hu : I.und t with
  | none => rw [hu] at h; cases h
  | some d =>
    rw [hu] at h
    have h1 := hok.und hu
    refine ⟨?_, d, h1, ?_⟩
    · simp only [isAgg, Sem.run_bind, und_run h1, Result.andThen_ok]
      cases d <;> simp_all
    · cases d <;> simp_all [TypeDesc.isRow]
theorem op_index {t : TypeId} {x ix : Operand} (ho : o.op = .index t x ix) (hok : InfoOk P I) (h : Rep g0 w0 g w σ a N) (hd : ∀ t, o.dst = some t → t < N) (hr : (opM I ops o).run σ = some (true, ws)) (hn : ∀ g' a' w', Rep g0 w0 g' w' (σ.puts ws) a' N → next a' w') : o.wp P a w next Q := by
  unfold opM at hr
  rw [ho] at hr
  obtain ⟨u, hr1, hu, -, -⟩ := opd_sound h hr
  clear hr
  obtain ⟨v, hr, hv, -, -⟩ := opd_sound h hr1
  clear hr1
  have he : execOp a.eval o = (Instr.index t (a.eval x) (a.eval ix)).bind fun v => .pure (.value v) := by
    simp only [execOp, ho]; rfl
  cases ht : I.und t with
  | none => rw [ht] at hr; cases hr
  | some d =>
  rw [ht] at hr
  cases d <;> try (cases hr; done)
  case array len e =>
    cases u <;> try (cases hr; done)
    rename_i vs
    cases v <;> try (cases hr; done)
    rename_i val
    have e2 := val_inv hv
    cases val <;> try (cases hr; done)
    rename_i k i
    simp only at hr
    split at hr
    case h_2 => cases hr
    rename_i v1 hag hsz hvi
    obtain ⟨hb, hr⟩ := ret_ok hr
    simp only [Bool.and_eq_true, decide_eq_true_eq] at hb
    generalize hcx : a.eval x = c at hu
    cases hu with
    | agg _ _ cs hl hf hcs =>
      have hlt := (List.getElem?_eq_some_iff.1 hvi).1
      have hc : cs[i.toNat]? = some (cs[i.toNat]'(by omega)) := Array.getElem?_eq_getElem _
      have hfl := hf _ _ hvi
      refine op_plain (v := v1.view) h hd (sem_run he ?_) (fun s => (hcs _ _ _ hvi hc).viewed (by rintro us rfl; exact hfl)) hr hn
      obtain ⟨ti, hti, htn⟩ := hok.size hsz
      have hi1 : (i.toNat : Nat) * 1 = i.toNat := Nat.mul_one _
      rw [hcx, e2]
      simp [Instr.index, asIntOf, und_run (hok.und ht), hb.1, hb.2, size_run hti, htn, part, (isAgg_run hok hag w).1, hc]
  cases u <;> try (cases hr; done)
  rename_i val
  have e1 := val_inv hu
  cases val <;> try (cases hr; done)
  cases v <;> try (cases hr; done)
  rename_i val
  have e2 := val_inv hv
  cases val <;> try (cases hr; done)
  rename_i s k i
  obtain ⟨hb, hr⟩ := ret_ok hr
  simp only [Bool.and_eq_true, decide_eq_true_eq] at hb
  have hlt : i.toNat < s.size := by omega
  have : (Instr.index t (a.eval x) (a.eval ix)).run P w = .ok (.int .u8 (byteAt s i)) w := by
    have hg : s[i.toNat]? = some s[i.toNat] := getElem?_pos s i.toNat hlt
    have hB : byteAt s i = (s[i.toNat].toNat : Int) := by
      unfold byteAt
      rw [List.getD_eq_getElem?_getD, List.getElem?_eq_getElem (by simpa using hlt)]
      rfl
    simp [Instr.index, e1, e2, asIntOf, und_run (hok.und ht), hb.1, hg, hB]
  exact op_plain h hd (sem_run he this) (fun _ => .val _ _) hr hn
end
end Go.Proofs.Ythloggdgdklgmaa.Ev
